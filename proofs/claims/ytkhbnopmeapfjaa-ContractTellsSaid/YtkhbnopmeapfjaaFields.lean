/- What reading a field of a struct value gives: one row a field (written by gen_fields.py). -/
import Derived.Test.YtkhbnopmeapfjaaRows
import Derived.WalkKit
set_option linter.unusedVariables false
namespace Go.Proofs.Ytkhbnopmeapfjaa
@[go_sem] theorem field_7_0 (w : World) (x0 x1 x2 x3 : Value) : (Instr.field 7 (.agg #[x0, x1, x2, x3]) 0).run Try.prog w = .ok (x0) w := by kernel_rfl
@[go_sem] theorem field_7_1 (w : World) (x0 x1 x2 x3 : Value) : (Instr.field 7 (.agg #[x0, x1, x2, x3]) 1).run Try.prog w = .ok (x1) w := by kernel_rfl
@[go_sem] theorem field_7_2 (w : World) (x0 x1 x2 x3 : Value) : (Instr.field 7 (.agg #[x0, x1, x2, x3]) 2).run Try.prog w = .ok (x2) w := by kernel_rfl
@[go_sem] theorem field_7_3 (w : World) (x0 x1 x2 x3 : Value) : (Instr.field 7 (.agg #[x0, x1, x2, x3]) 3).run Try.prog w = .ok (x3) w := by kernel_rfl
@[go_sem] theorem field_13_0 (w : World) (x0 x1 : Value) : (Instr.field 13 (.agg #[x0, x1]) 0).run Try.prog w = .ok (x0) w := by kernel_rfl
@[go_sem] theorem field_13_1 (w : World) (x0 x1 : Value) : (Instr.field 13 (.agg #[x0, x1]) 1).run Try.prog w = .ok (x1) w := by kernel_rfl
@[go_sem] theorem field_18_0 (w : World) (x0 : Value) : (Instr.field 18 (.agg #[x0]) 0).run Try.prog w = .ok (x0) w := by kernel_rfl
@[go_sem] theorem field_19_0 (w : World) (x0 : Value) : (Instr.field 19 (.agg #[x0]) 0).run Try.prog w = .ok (x0) w := by kernel_rfl
@[go_sem] theorem field_35_0 (w : World) (x0 x1 : Value) : (Instr.field 35 (.agg #[x0, x1]) 0).run Try.prog w = .ok (x0) w := by kernel_rfl
@[go_sem] theorem field_35_1 (w : World) (x0 x1 : Value) : (Instr.field 35 (.agg #[x0, x1]) 1).run Try.prog w = .ok (x1) w := by kernel_rfl
@[go_sem] theorem field_36_0 (w : World) (x0 x1 : Value) : (Instr.field 36 (.agg #[x0, x1]) 0).run Try.prog w = .ok (x0) w := by kernel_rfl
@[go_sem] theorem field_36_1 (w : World) (x0 x1 : Value) : (Instr.field 36 (.agg #[x0, x1]) 1).run Try.prog w = .ok (x1) w := by kernel_rfl
@[go_sem] theorem field_37_0 (w : World) (x0 x1 x2 x3 : Value) : (Instr.field 37 (.agg #[x0, x1, x2, x3]) 0).run Try.prog w = .ok (.agg #[x0, x1]) w := by kernel_rfl
@[go_sem] theorem field_37_1 (w : World) (x0 x1 x2 x3 : Value) : (Instr.field 37 (.agg #[x0, x1, x2, x3]) 1).run Try.prog w = .ok (x2) w := by kernel_rfl
@[go_sem] theorem field_37_2 (w : World) (x0 x1 x2 x3 : Value) : (Instr.field 37 (.agg #[x0, x1, x2, x3]) 2).run Try.prog w = .ok (x3) w := by kernel_rfl
@[go_sem] theorem field_38_0 (w : World) (x0 x1 x2 x3 : Value) : (Instr.field 38 (.agg #[x0, x1, x2, x3]) 0).run Try.prog w = .ok (.agg #[x0, x1]) w := by kernel_rfl
@[go_sem] theorem field_38_1 (w : World) (x0 x1 x2 x3 : Value) : (Instr.field 38 (.agg #[x0, x1, x2, x3]) 1).run Try.prog w = .ok (x2) w := by kernel_rfl
@[go_sem] theorem field_38_2 (w : World) (x0 x1 x2 x3 : Value) : (Instr.field 38 (.agg #[x0, x1, x2, x3]) 2).run Try.prog w = .ok (x3) w := by kernel_rfl
@[go_sem] theorem field_40_0 (w : World) (x0 x1 x2 : Value) : (Instr.field 40 (.agg #[x0, x1, x2]) 0).run Try.prog w = .ok (x0) w := by kernel_rfl
@[go_sem] theorem field_40_1 (w : World) (x0 x1 x2 : Value) : (Instr.field 40 (.agg #[x0, x1, x2]) 1).run Try.prog w = .ok (x1) w := by kernel_rfl
@[go_sem] theorem field_40_2 (w : World) (x0 x1 x2 : Value) : (Instr.field 40 (.agg #[x0, x1, x2]) 2).run Try.prog w = .ok (x2) w := by kernel_rfl
@[go_sem] theorem field_41_0 (w : World) (x0 x1 x2 : Value) : (Instr.field 41 (.agg #[x0, x1, x2]) 0).run Try.prog w = .ok (x0) w := by kernel_rfl
@[go_sem] theorem field_41_1 (w : World) (x0 x1 x2 : Value) : (Instr.field 41 (.agg #[x0, x1, x2]) 1).run Try.prog w = .ok (x1) w := by kernel_rfl
@[go_sem] theorem field_41_2 (w : World) (x0 x1 x2 : Value) : (Instr.field 41 (.agg #[x0, x1, x2]) 2).run Try.prog w = .ok (x2) w := by kernel_rfl
@[go_sem] theorem field_59_0 (w : World) (x0 x1 x2 x3 : Value) : (Instr.field 59 (.agg #[x0, x1, x2, x3]) 0).run Try.prog w = .ok (x0) w := by kernel_rfl
@[go_sem] theorem field_59_1 (w : World) (x0 x1 x2 x3 : Value) : (Instr.field 59 (.agg #[x0, x1, x2, x3]) 1).run Try.prog w = .ok (x1) w := by kernel_rfl
@[go_sem] theorem field_59_2 (w : World) (x0 x1 x2 x3 : Value) : (Instr.field 59 (.agg #[x0, x1, x2, x3]) 2).run Try.prog w = .ok (x2) w := by kernel_rfl
@[go_sem] theorem field_59_3 (w : World) (x0 x1 x2 x3 : Value) : (Instr.field 59 (.agg #[x0, x1, x2, x3]) 3).run Try.prog w = .ok (x3) w := by kernel_rfl
@[go_sem] theorem field_60_0 (w : World) (x0 x1 x2 x3 : Value) : (Instr.field 60 (.agg #[x0, x1, x2, x3]) 0).run Try.prog w = .ok (x0) w := by kernel_rfl
@[go_sem] theorem field_60_1 (w : World) (x0 x1 x2 x3 : Value) : (Instr.field 60 (.agg #[x0, x1, x2, x3]) 1).run Try.prog w = .ok (x1) w := by kernel_rfl
@[go_sem] theorem field_60_2 (w : World) (x0 x1 x2 x3 : Value) : (Instr.field 60 (.agg #[x0, x1, x2, x3]) 2).run Try.prog w = .ok (x2) w := by kernel_rfl
@[go_sem] theorem field_60_3 (w : World) (x0 x1 x2 x3 : Value) : (Instr.field 60 (.agg #[x0, x1, x2, x3]) 3).run Try.prog w = .ok (x3) w := by kernel_rfl
@[go_sem] theorem field_65_0 (w : World) (x0 x1 x2 : Value) : (Instr.field 65 (.agg #[x0, x1, x2]) 0).run Try.prog w = .ok (.agg #[x0, x1]) w := by kernel_rfl
@[go_sem] theorem field_65_1 (w : World) (x0 x1 x2 : Value) : (Instr.field 65 (.agg #[x0, x1, x2]) 1).run Try.prog w = .ok (x2) w := by kernel_rfl
@[go_sem] theorem field_66_0 (w : World) (x0 x1 x2 : Value) : (Instr.field 66 (.agg #[x0, x1, x2]) 0).run Try.prog w = .ok (.agg #[x0, x1]) w := by kernel_rfl
@[go_sem] theorem field_66_1 (w : World) (x0 x1 x2 : Value) : (Instr.field 66 (.agg #[x0, x1, x2]) 1).run Try.prog w = .ok (x2) w := by kernel_rfl
@[go_sem] theorem field_79_0 (w : World) (x0 x1 : Value) : (Instr.field 79 (.agg #[x0, x1]) 0).run Try.prog w = .ok (x0) w := by kernel_rfl
@[go_sem] theorem field_79_1 (w : World) (x0 x1 : Value) : (Instr.field 79 (.agg #[x0, x1]) 1).run Try.prog w = .ok (x1) w := by kernel_rfl
@[go_sem] theorem field_80_0 (w : World) (x0 x1 : Value) : (Instr.field 80 (.agg #[x0, x1]) 0).run Try.prog w = .ok (x0) w := by kernel_rfl
@[go_sem] theorem field_80_1 (w : World) (x0 x1 : Value) : (Instr.field 80 (.agg #[x0, x1]) 1).run Try.prog w = .ok (x1) w := by kernel_rfl
@[go_sem] theorem field_87_0 (w : World) (x0 x1 : Value) : (Instr.field 87 (.agg #[x0, x1]) 0).run Try.prog w = .ok (x0) w := by kernel_rfl
@[go_sem] theorem field_87_1 (w : World) (x0 x1 : Value) : (Instr.field 87 (.agg #[x0, x1]) 1).run Try.prog w = .ok (x1) w := by kernel_rfl
@[go_sem] theorem field_88_0 (w : World) (x0 x1 : Value) : (Instr.field 88 (.agg #[x0, x1]) 0).run Try.prog w = .ok (x0) w := by kernel_rfl
@[go_sem] theorem field_88_1 (w : World) (x0 x1 : Value) : (Instr.field 88 (.agg #[x0, x1]) 1).run Try.prog w = .ok (x1) w := by kernel_rfl
@[go_sem] theorem field_89_0 (w : World) (x0 x1 x2 x3 : Value) : (Instr.field 89 (.agg #[x0, x1, x2, x3]) 0).run Try.prog w = .ok (.agg #[x0, x1]) w := by kernel_rfl
@[go_sem] theorem field_89_1 (w : World) (x0 x1 x2 x3 : Value) : (Instr.field 89 (.agg #[x0, x1, x2, x3]) 1).run Try.prog w = .ok (x2) w := by kernel_rfl
@[go_sem] theorem field_89_2 (w : World) (x0 x1 x2 x3 : Value) : (Instr.field 89 (.agg #[x0, x1, x2, x3]) 2).run Try.prog w = .ok (x3) w := by kernel_rfl
@[go_sem] theorem field_90_0 (w : World) (x0 x1 x2 x3 : Value) : (Instr.field 90 (.agg #[x0, x1, x2, x3]) 0).run Try.prog w = .ok (.agg #[x0, x1]) w := by kernel_rfl
@[go_sem] theorem field_90_1 (w : World) (x0 x1 x2 x3 : Value) : (Instr.field 90 (.agg #[x0, x1, x2, x3]) 1).run Try.prog w = .ok (x2) w := by kernel_rfl
@[go_sem] theorem field_90_2 (w : World) (x0 x1 x2 x3 : Value) : (Instr.field 90 (.agg #[x0, x1, x2, x3]) 2).run Try.prog w = .ok (x3) w := by kernel_rfl
@[go_sem] theorem field_100_0 (w : World) (x0 x1 : Value) : (Instr.field 100 (.agg #[x0, x1]) 0).run Try.prog w = .ok (x0) w := by kernel_rfl
@[go_sem] theorem field_100_1 (w : World) (x0 x1 : Value) : (Instr.field 100 (.agg #[x0, x1]) 1).run Try.prog w = .ok (x1) w := by kernel_rfl
@[go_sem] theorem field_101_0 (w : World) (x0 x1 : Value) : (Instr.field 101 (.agg #[x0, x1]) 0).run Try.prog w = .ok (x0) w := by kernel_rfl
@[go_sem] theorem field_101_1 (w : World) (x0 x1 : Value) : (Instr.field 101 (.agg #[x0, x1]) 1).run Try.prog w = .ok (x1) w := by kernel_rfl
@[go_sem] theorem field_103_0 (w : World) (x0 x1 : Value) : (Instr.field 103 (.agg #[x0, x1]) 0).run Try.prog w = .ok (x0) w := by kernel_rfl
@[go_sem] theorem field_103_1 (w : World) (x0 x1 : Value) : (Instr.field 103 (.agg #[x0, x1]) 1).run Try.prog w = .ok (x1) w := by kernel_rfl
@[go_sem] theorem field_104_0 (w : World) (x0 x1 : Value) : (Instr.field 104 (.agg #[x0, x1]) 0).run Try.prog w = .ok (x0) w := by kernel_rfl
@[go_sem] theorem field_104_1 (w : World) (x0 x1 : Value) : (Instr.field 104 (.agg #[x0, x1]) 1).run Try.prog w = .ok (x1) w := by kernel_rfl
@[go_sem] theorem field_108_0 (w : World) (x0 x1 x2 : Value) : (Instr.field 108 (.agg #[x0, x1, x2]) 0).run Try.prog w = .ok (x0) w := by kernel_rfl
@[go_sem] theorem field_108_1 (w : World) (x0 x1 x2 : Value) : (Instr.field 108 (.agg #[x0, x1, x2]) 1).run Try.prog w = .ok (x1) w := by kernel_rfl
@[go_sem] theorem field_108_2 (w : World) (x0 x1 x2 : Value) : (Instr.field 108 (.agg #[x0, x1, x2]) 2).run Try.prog w = .ok (x2) w := by kernel_rfl
@[go_sem] theorem field_109_0 (w : World) (x0 x1 x2 : Value) : (Instr.field 109 (.agg #[x0, x1, x2]) 0).run Try.prog w = .ok (x0) w := by kernel_rfl
@[go_sem] theorem field_109_1 (w : World) (x0 x1 x2 : Value) : (Instr.field 109 (.agg #[x0, x1, x2]) 1).run Try.prog w = .ok (x1) w := by kernel_rfl
@[go_sem] theorem field_109_2 (w : World) (x0 x1 x2 : Value) : (Instr.field 109 (.agg #[x0, x1, x2]) 2).run Try.prog w = .ok (x2) w := by kernel_rfl
@[go_sem] theorem field_110_0 (w : World) (x0 x1 : Value) : (Instr.field 110 (.agg #[x0, x1]) 0).run Try.prog w = .ok (x0) w := by kernel_rfl
@[go_sem] theorem field_110_1 (w : World) (x0 x1 : Value) : (Instr.field 110 (.agg #[x0, x1]) 1).run Try.prog w = .ok (x1) w := by kernel_rfl
@[go_sem] theorem field_111_0 (w : World) (x0 x1 : Value) : (Instr.field 111 (.agg #[x0, x1]) 0).run Try.prog w = .ok (x0) w := by kernel_rfl
@[go_sem] theorem field_111_1 (w : World) (x0 x1 : Value) : (Instr.field 111 (.agg #[x0, x1]) 1).run Try.prog w = .ok (x1) w := by kernel_rfl
@[go_sem] theorem field_114_0 (w : World) (x0 x1 x2 : Value) : (Instr.field 114 (.agg #[x0, x1, x2]) 0).run Try.prog w = .ok (x0) w := by kernel_rfl
@[go_sem] theorem field_114_1 (w : World) (x0 x1 x2 : Value) : (Instr.field 114 (.agg #[x0, x1, x2]) 1).run Try.prog w = .ok (x1) w := by kernel_rfl
@[go_sem] theorem field_114_2 (w : World) (x0 x1 x2 : Value) : (Instr.field 114 (.agg #[x0, x1, x2]) 2).run Try.prog w = .ok (x2) w := by kernel_rfl
@[go_sem] theorem field_115_0 (w : World) (x0 x1 x2 : Value) : (Instr.field 115 (.agg #[x0, x1, x2]) 0).run Try.prog w = .ok (x0) w := by kernel_rfl
@[go_sem] theorem field_115_1 (w : World) (x0 x1 x2 : Value) : (Instr.field 115 (.agg #[x0, x1, x2]) 1).run Try.prog w = .ok (x1) w := by kernel_rfl
@[go_sem] theorem field_115_2 (w : World) (x0 x1 x2 : Value) : (Instr.field 115 (.agg #[x0, x1, x2]) 2).run Try.prog w = .ok (x2) w := by kernel_rfl
@[go_sem] theorem field_132_0 (w : World) (x0 x1 : Value) : (Instr.field 132 (.agg #[x0, x1]) 0).run Try.prog w = .ok (x0) w := by kernel_rfl
@[go_sem] theorem field_132_1 (w : World) (x0 x1 : Value) : (Instr.field 132 (.agg #[x0, x1]) 1).run Try.prog w = .ok (x1) w := by kernel_rfl
@[go_sem] theorem field_133_0 (w : World) (x0 x1 : Value) : (Instr.field 133 (.agg #[x0, x1]) 0).run Try.prog w = .ok (x0) w := by kernel_rfl
@[go_sem] theorem field_133_1 (w : World) (x0 x1 : Value) : (Instr.field 133 (.agg #[x0, x1]) 1).run Try.prog w = .ok (x1) w := by kernel_rfl
@[go_sem] theorem field_153_0 (w : World) (x0 x1 : Value) : (Instr.field 153 (.agg #[x0, x1]) 0).run Try.prog w = .ok (x0) w := by kernel_rfl
@[go_sem] theorem field_153_1 (w : World) (x0 x1 : Value) : (Instr.field 153 (.agg #[x0, x1]) 1).run Try.prog w = .ok (x1) w := by kernel_rfl
@[go_sem] theorem field_154_0 (w : World) (x0 x1 : Value) : (Instr.field 154 (.agg #[x0, x1]) 0).run Try.prog w = .ok (x0) w := by kernel_rfl
@[go_sem] theorem field_154_1 (w : World) (x0 x1 : Value) : (Instr.field 154 (.agg #[x0, x1]) 1).run Try.prog w = .ok (x1) w := by kernel_rfl
@[go_sem] theorem field_183_0 (w : World) (x0 x1 x2 x3 : Value) : (Instr.field 183 (.agg #[x0, x1, x2, x3]) 0).run Try.prog w = .ok (x0) w := by kernel_rfl
@[go_sem] theorem field_183_1 (w : World) (x0 x1 x2 x3 : Value) : (Instr.field 183 (.agg #[x0, x1, x2, x3]) 1).run Try.prog w = .ok (x1) w := by kernel_rfl
@[go_sem] theorem field_183_2 (w : World) (x0 x1 x2 x3 : Value) : (Instr.field 183 (.agg #[x0, x1, x2, x3]) 2).run Try.prog w = .ok (x2) w := by kernel_rfl
@[go_sem] theorem field_183_3 (w : World) (x0 x1 x2 x3 : Value) : (Instr.field 183 (.agg #[x0, x1, x2, x3]) 3).run Try.prog w = .ok (x3) w := by kernel_rfl
@[go_sem] theorem field_194_0 (w : World) (x0 x1 x2 x3 x4 x5 x6 x7 x8 x9 x10 : Value) : (Instr.field 194 (.agg #[x0, x1, x2, x3, x4, x5, x6, x7, x8, x9, x10]) 0).run Try.prog w = .ok (x0) w := by kernel_rfl
@[go_sem] theorem field_194_1 (w : World) (x0 x1 x2 x3 x4 x5 x6 x7 x8 x9 x10 : Value) : (Instr.field 194 (.agg #[x0, x1, x2, x3, x4, x5, x6, x7, x8, x9, x10]) 1).run Try.prog w = .ok (x1) w := by kernel_rfl
@[go_sem] theorem field_194_2 (w : World) (x0 x1 x2 x3 x4 x5 x6 x7 x8 x9 x10 : Value) : (Instr.field 194 (.agg #[x0, x1, x2, x3, x4, x5, x6, x7, x8, x9, x10]) 2).run Try.prog w = .ok (x2) w := by kernel_rfl
@[go_sem] theorem field_194_3 (w : World) (x0 x1 x2 x3 x4 x5 x6 x7 x8 x9 x10 : Value) : (Instr.field 194 (.agg #[x0, x1, x2, x3, x4, x5, x6, x7, x8, x9, x10]) 3).run Try.prog w = .ok (x3) w := by kernel_rfl
@[go_sem] theorem field_194_4 (w : World) (x0 x1 x2 x3 x4 x5 x6 x7 x8 x9 x10 : Value) : (Instr.field 194 (.agg #[x0, x1, x2, x3, x4, x5, x6, x7, x8, x9, x10]) 4).run Try.prog w = .ok (x4) w := by kernel_rfl
@[go_sem] theorem field_194_5 (w : World) (x0 x1 x2 x3 x4 x5 x6 x7 x8 x9 x10 : Value) : (Instr.field 194 (.agg #[x0, x1, x2, x3, x4, x5, x6, x7, x8, x9, x10]) 5).run Try.prog w = .ok (x5) w := by kernel_rfl
@[go_sem] theorem field_194_6 (w : World) (x0 x1 x2 x3 x4 x5 x6 x7 x8 x9 x10 : Value) : (Instr.field 194 (.agg #[x0, x1, x2, x3, x4, x5, x6, x7, x8, x9, x10]) 6).run Try.prog w = .ok (x6) w := by kernel_rfl
@[go_sem] theorem field_194_7 (w : World) (x0 x1 x2 x3 x4 x5 x6 x7 x8 x9 x10 : Value) : (Instr.field 194 (.agg #[x0, x1, x2, x3, x4, x5, x6, x7, x8, x9, x10]) 7).run Try.prog w = .ok (x7) w := by kernel_rfl
@[go_sem] theorem field_194_8 (w : World) (x0 x1 x2 x3 x4 x5 x6 x7 x8 x9 x10 : Value) : (Instr.field 194 (.agg #[x0, x1, x2, x3, x4, x5, x6, x7, x8, x9, x10]) 8).run Try.prog w = .ok (x8) w := by kernel_rfl
@[go_sem] theorem field_194_9 (w : World) (x0 x1 x2 x3 x4 x5 x6 x7 x8 x9 x10 : Value) : (Instr.field 194 (.agg #[x0, x1, x2, x3, x4, x5, x6, x7, x8, x9, x10]) 9).run Try.prog w = .ok (x9) w := by kernel_rfl
@[go_sem] theorem field_194_10 (w : World) (x0 x1 x2 x3 x4 x5 x6 x7 x8 x9 x10 : Value) : (Instr.field 194 (.agg #[x0, x1, x2, x3, x4, x5, x6, x7, x8, x9, x10]) 10).run Try.prog w = .ok (x10) w := by kernel_rfl
@[go_sem] theorem field_195_0 (w : World) (x0 x1 x2 x3 x4 x5 x6 x7 x8 x9 x10 : Value) : (Instr.field 195 (.agg #[x0, x1, x2, x3, x4, x5, x6, x7, x8, x9, x10]) 0).run Try.prog w = .ok (x0) w := by kernel_rfl
@[go_sem] theorem field_195_1 (w : World) (x0 x1 x2 x3 x4 x5 x6 x7 x8 x9 x10 : Value) : (Instr.field 195 (.agg #[x0, x1, x2, x3, x4, x5, x6, x7, x8, x9, x10]) 1).run Try.prog w = .ok (x1) w := by kernel_rfl
@[go_sem] theorem field_195_2 (w : World) (x0 x1 x2 x3 x4 x5 x6 x7 x8 x9 x10 : Value) : (Instr.field 195 (.agg #[x0, x1, x2, x3, x4, x5, x6, x7, x8, x9, x10]) 2).run Try.prog w = .ok (x2) w := by kernel_rfl
@[go_sem] theorem field_195_3 (w : World) (x0 x1 x2 x3 x4 x5 x6 x7 x8 x9 x10 : Value) : (Instr.field 195 (.agg #[x0, x1, x2, x3, x4, x5, x6, x7, x8, x9, x10]) 3).run Try.prog w = .ok (x3) w := by kernel_rfl
@[go_sem] theorem field_195_4 (w : World) (x0 x1 x2 x3 x4 x5 x6 x7 x8 x9 x10 : Value) : (Instr.field 195 (.agg #[x0, x1, x2, x3, x4, x5, x6, x7, x8, x9, x10]) 4).run Try.prog w = .ok (x4) w := by kernel_rfl
@[go_sem] theorem field_195_5 (w : World) (x0 x1 x2 x3 x4 x5 x6 x7 x8 x9 x10 : Value) : (Instr.field 195 (.agg #[x0, x1, x2, x3, x4, x5, x6, x7, x8, x9, x10]) 5).run Try.prog w = .ok (x5) w := by kernel_rfl
@[go_sem] theorem field_195_6 (w : World) (x0 x1 x2 x3 x4 x5 x6 x7 x8 x9 x10 : Value) : (Instr.field 195 (.agg #[x0, x1, x2, x3, x4, x5, x6, x7, x8, x9, x10]) 6).run Try.prog w = .ok (x6) w := by kernel_rfl
@[go_sem] theorem field_195_7 (w : World) (x0 x1 x2 x3 x4 x5 x6 x7 x8 x9 x10 : Value) : (Instr.field 195 (.agg #[x0, x1, x2, x3, x4, x5, x6, x7, x8, x9, x10]) 7).run Try.prog w = .ok (x7) w := by kernel_rfl
@[go_sem] theorem field_195_8 (w : World) (x0 x1 x2 x3 x4 x5 x6 x7 x8 x9 x10 : Value) : (Instr.field 195 (.agg #[x0, x1, x2, x3, x4, x5, x6, x7, x8, x9, x10]) 8).run Try.prog w = .ok (x8) w := by kernel_rfl
@[go_sem] theorem field_195_9 (w : World) (x0 x1 x2 x3 x4 x5 x6 x7 x8 x9 x10 : Value) : (Instr.field 195 (.agg #[x0, x1, x2, x3, x4, x5, x6, x7, x8, x9, x10]) 9).run Try.prog w = .ok (x9) w := by kernel_rfl
@[go_sem] theorem field_195_10 (w : World) (x0 x1 x2 x3 x4 x5 x6 x7 x8 x9 x10 : Value) : (Instr.field 195 (.agg #[x0, x1, x2, x3, x4, x5, x6, x7, x8, x9, x10]) 10).run Try.prog w = .ok (x10) w := by kernel_rfl
end Go.Proofs.Ytkhbnopmeapfjaa
