/- What reading a field of a struct value gives: one row a field (written by gen_fields.py). -/
import Derived.Test.YtjpfmkfikidgkaaGreatRows
import Derived.WalkKit
set_option linter.unusedVariables false
namespace Go.Proofs.YtjpfmkfikidgkaaGreat
@[go_sem] theorem field_7_0 (w : World) (x0 x1 x2 x3 : Value) : (Instr.field 7 (.agg #[x0, x1, x2, x3]) 0).run Tryz.prog w = .ok (x0) w := by kernel_rfl
@[go_sem] theorem field_7_1 (w : World) (x0 x1 x2 x3 : Value) : (Instr.field 7 (.agg #[x0, x1, x2, x3]) 1).run Tryz.prog w = .ok (x1) w := by kernel_rfl
@[go_sem] theorem field_7_2 (w : World) (x0 x1 x2 x3 : Value) : (Instr.field 7 (.agg #[x0, x1, x2, x3]) 2).run Tryz.prog w = .ok (x2) w := by kernel_rfl
@[go_sem] theorem field_7_3 (w : World) (x0 x1 x2 x3 : Value) : (Instr.field 7 (.agg #[x0, x1, x2, x3]) 3).run Tryz.prog w = .ok (x3) w := by kernel_rfl
@[go_sem] theorem field_13_0 (w : World) (x0 x1 : Value) : (Instr.field 13 (.agg #[x0, x1]) 0).run Tryz.prog w = .ok (x0) w := by kernel_rfl
@[go_sem] theorem field_13_1 (w : World) (x0 x1 : Value) : (Instr.field 13 (.agg #[x0, x1]) 1).run Tryz.prog w = .ok (x1) w := by kernel_rfl
@[go_sem] theorem field_18_0 (w : World) (x0 : Value) : (Instr.field 18 (.agg #[x0]) 0).run Tryz.prog w = .ok (x0) w := by kernel_rfl
@[go_sem] theorem field_19_0 (w : World) (x0 : Value) : (Instr.field 19 (.agg #[x0]) 0).run Tryz.prog w = .ok (x0) w := by kernel_rfl
@[go_sem] theorem field_31_0 (w : World) (x0 x1 : Value) : (Instr.field 31 (.agg #[x0, x1]) 0).run Tryz.prog w = .ok (x0) w := by kernel_rfl
@[go_sem] theorem field_31_1 (w : World) (x0 x1 : Value) : (Instr.field 31 (.agg #[x0, x1]) 1).run Tryz.prog w = .ok (x1) w := by kernel_rfl
@[go_sem] theorem field_32_0 (w : World) (x0 x1 : Value) : (Instr.field 32 (.agg #[x0, x1]) 0).run Tryz.prog w = .ok (x0) w := by kernel_rfl
@[go_sem] theorem field_32_1 (w : World) (x0 x1 : Value) : (Instr.field 32 (.agg #[x0, x1]) 1).run Tryz.prog w = .ok (x1) w := by kernel_rfl
@[go_sem] theorem field_34_0 (w : World) (x0 x1 x2 : Value) : (Instr.field 34 (.agg #[x0, x1, x2]) 0).run Tryz.prog w = .ok (.agg #[x0, x1]) w := by kernel_rfl
@[go_sem] theorem field_34_1 (w : World) (x0 x1 x2 : Value) : (Instr.field 34 (.agg #[x0, x1, x2]) 1).run Tryz.prog w = .ok (x2) w := by kernel_rfl
@[go_sem] theorem field_35_0 (w : World) (x0 x1 x2 : Value) : (Instr.field 35 (.agg #[x0, x1, x2]) 0).run Tryz.prog w = .ok (.agg #[x0, x1]) w := by kernel_rfl
@[go_sem] theorem field_35_1 (w : World) (x0 x1 x2 : Value) : (Instr.field 35 (.agg #[x0, x1, x2]) 1).run Tryz.prog w = .ok (x2) w := by kernel_rfl
@[go_sem] theorem field_37_0 (w : World) (x0 x1 x2 x3 : Value) : (Instr.field 37 (.agg #[x0, x1, x2, x3]) 0).run Tryz.prog w = .ok (.agg #[x0, x1]) w := by kernel_rfl
@[go_sem] theorem field_37_1 (w : World) (x0 x1 x2 x3 : Value) : (Instr.field 37 (.agg #[x0, x1, x2, x3]) 1).run Tryz.prog w = .ok (x2) w := by kernel_rfl
@[go_sem] theorem field_37_2 (w : World) (x0 x1 x2 x3 : Value) : (Instr.field 37 (.agg #[x0, x1, x2, x3]) 2).run Tryz.prog w = .ok (x3) w := by kernel_rfl
@[go_sem] theorem field_38_0 (w : World) (x0 x1 x2 x3 : Value) : (Instr.field 38 (.agg #[x0, x1, x2, x3]) 0).run Tryz.prog w = .ok (.agg #[x0, x1]) w := by kernel_rfl
@[go_sem] theorem field_38_1 (w : World) (x0 x1 x2 x3 : Value) : (Instr.field 38 (.agg #[x0, x1, x2, x3]) 1).run Tryz.prog w = .ok (x2) w := by kernel_rfl
@[go_sem] theorem field_38_2 (w : World) (x0 x1 x2 x3 : Value) : (Instr.field 38 (.agg #[x0, x1, x2, x3]) 2).run Tryz.prog w = .ok (x3) w := by kernel_rfl
@[go_sem] theorem field_44_0 (w : World) (x0 x1 : Value) : (Instr.field 44 (.agg #[x0, x1]) 0).run Tryz.prog w = .ok (x0) w := by kernel_rfl
@[go_sem] theorem field_44_1 (w : World) (x0 x1 : Value) : (Instr.field 44 (.agg #[x0, x1]) 1).run Tryz.prog w = .ok (x1) w := by kernel_rfl
@[go_sem] theorem field_45_0 (w : World) (x0 x1 : Value) : (Instr.field 45 (.agg #[x0, x1]) 0).run Tryz.prog w = .ok (x0) w := by kernel_rfl
@[go_sem] theorem field_45_1 (w : World) (x0 x1 : Value) : (Instr.field 45 (.agg #[x0, x1]) 1).run Tryz.prog w = .ok (x1) w := by kernel_rfl
@[go_sem] theorem field_52_0 (w : World) (x0 x1 x2 x3 x4 : Value) : (Instr.field 52 (.agg #[x0, x1, x2, x3, x4]) 0).run Tryz.prog w = .ok (x0) w := by kernel_rfl
@[go_sem] theorem field_52_1 (w : World) (x0 x1 x2 x3 x4 : Value) : (Instr.field 52 (.agg #[x0, x1, x2, x3, x4]) 1).run Tryz.prog w = .ok (x1) w := by kernel_rfl
@[go_sem] theorem field_52_2 (w : World) (x0 x1 x2 x3 x4 : Value) : (Instr.field 52 (.agg #[x0, x1, x2, x3, x4]) 2).run Tryz.prog w = .ok (x2) w := by kernel_rfl
@[go_sem] theorem field_52_3 (w : World) (x0 x1 x2 x3 x4 : Value) : (Instr.field 52 (.agg #[x0, x1, x2, x3, x4]) 3).run Tryz.prog w = .ok (x3) w := by kernel_rfl
@[go_sem] theorem field_52_4 (w : World) (x0 x1 x2 x3 x4 : Value) : (Instr.field 52 (.agg #[x0, x1, x2, x3, x4]) 4).run Tryz.prog w = .ok (x4) w := by kernel_rfl
@[go_sem] theorem field_53_0 (w : World) (x0 x1 x2 x3 x4 : Value) : (Instr.field 53 (.agg #[x0, x1, x2, x3, x4]) 0).run Tryz.prog w = .ok (x0) w := by kernel_rfl
@[go_sem] theorem field_53_1 (w : World) (x0 x1 x2 x3 x4 : Value) : (Instr.field 53 (.agg #[x0, x1, x2, x3, x4]) 1).run Tryz.prog w = .ok (x1) w := by kernel_rfl
@[go_sem] theorem field_53_2 (w : World) (x0 x1 x2 x3 x4 : Value) : (Instr.field 53 (.agg #[x0, x1, x2, x3, x4]) 2).run Tryz.prog w = .ok (x2) w := by kernel_rfl
@[go_sem] theorem field_53_3 (w : World) (x0 x1 x2 x3 x4 : Value) : (Instr.field 53 (.agg #[x0, x1, x2, x3, x4]) 3).run Tryz.prog w = .ok (x3) w := by kernel_rfl
@[go_sem] theorem field_53_4 (w : World) (x0 x1 x2 x3 x4 : Value) : (Instr.field 53 (.agg #[x0, x1, x2, x3, x4]) 4).run Tryz.prog w = .ok (x4) w := by kernel_rfl
@[go_sem] theorem field_59_0 (w : World) (x0 x1 : Value) : (Instr.field 59 (.agg #[x0, x1]) 0).run Tryz.prog w = .ok (x0) w := by kernel_rfl
@[go_sem] theorem field_59_1 (w : World) (x0 x1 : Value) : (Instr.field 59 (.agg #[x0, x1]) 1).run Tryz.prog w = .ok (x1) w := by kernel_rfl
@[go_sem] theorem field_60_0 (w : World) (x0 x1 : Value) : (Instr.field 60 (.agg #[x0, x1]) 0).run Tryz.prog w = .ok (x0) w := by kernel_rfl
@[go_sem] theorem field_60_1 (w : World) (x0 x1 : Value) : (Instr.field 60 (.agg #[x0, x1]) 1).run Tryz.prog w = .ok (x1) w := by kernel_rfl
@[go_sem] theorem field_63_0 (w : World) (x0 x1 : Value) : (Instr.field 63 (.agg #[x0, x1]) 0).run Tryz.prog w = .ok (x0) w := by kernel_rfl
@[go_sem] theorem field_63_1 (w : World) (x0 x1 : Value) : (Instr.field 63 (.agg #[x0, x1]) 1).run Tryz.prog w = .ok (x1) w := by kernel_rfl
@[go_sem] theorem field_64_0 (w : World) (x0 x1 : Value) : (Instr.field 64 (.agg #[x0, x1]) 0).run Tryz.prog w = .ok (x0) w := by kernel_rfl
@[go_sem] theorem field_64_1 (w : World) (x0 x1 : Value) : (Instr.field 64 (.agg #[x0, x1]) 1).run Tryz.prog w = .ok (x1) w := by kernel_rfl
@[go_sem] theorem field_68_0 (w : World) (x0 x1 x2 x3 x4 : Value) : (Instr.field 68 (.agg #[x0, x1, x2, x3, x4]) 0).run Tryz.prog w = .ok (x0) w := by kernel_rfl
@[go_sem] theorem field_68_1 (w : World) (x0 x1 x2 x3 x4 : Value) : (Instr.field 68 (.agg #[x0, x1, x2, x3, x4]) 1).run Tryz.prog w = .ok (x1) w := by kernel_rfl
@[go_sem] theorem field_68_2 (w : World) (x0 x1 x2 x3 x4 : Value) : (Instr.field 68 (.agg #[x0, x1, x2, x3, x4]) 2).run Tryz.prog w = .ok (x2) w := by kernel_rfl
@[go_sem] theorem field_68_3 (w : World) (x0 x1 x2 x3 x4 : Value) : (Instr.field 68 (.agg #[x0, x1, x2, x3, x4]) 3).run Tryz.prog w = .ok (x3) w := by kernel_rfl
@[go_sem] theorem field_68_4 (w : World) (x0 x1 x2 x3 x4 : Value) : (Instr.field 68 (.agg #[x0, x1, x2, x3, x4]) 4).run Tryz.prog w = .ok (x4) w := by kernel_rfl
@[go_sem] theorem field_69_0 (w : World) (x0 x1 x2 x3 x4 : Value) : (Instr.field 69 (.agg #[x0, x1, x2, x3, x4]) 0).run Tryz.prog w = .ok (x0) w := by kernel_rfl
@[go_sem] theorem field_69_1 (w : World) (x0 x1 x2 x3 x4 : Value) : (Instr.field 69 (.agg #[x0, x1, x2, x3, x4]) 1).run Tryz.prog w = .ok (x1) w := by kernel_rfl
@[go_sem] theorem field_69_2 (w : World) (x0 x1 x2 x3 x4 : Value) : (Instr.field 69 (.agg #[x0, x1, x2, x3, x4]) 2).run Tryz.prog w = .ok (x2) w := by kernel_rfl
@[go_sem] theorem field_69_3 (w : World) (x0 x1 x2 x3 x4 : Value) : (Instr.field 69 (.agg #[x0, x1, x2, x3, x4]) 3).run Tryz.prog w = .ok (x3) w := by kernel_rfl
@[go_sem] theorem field_69_4 (w : World) (x0 x1 x2 x3 x4 : Value) : (Instr.field 69 (.agg #[x0, x1, x2, x3, x4]) 4).run Tryz.prog w = .ok (x4) w := by kernel_rfl
@[go_sem] theorem field_81_0 (w : World) (x0 x1 x2 x3 x4 x5 : Value) : (Instr.field 81 (.agg #[x0, x1, x2, x3, x4, x5]) 0).run Tryz.prog w = .ok (x0) w := by kernel_rfl
@[go_sem] theorem field_81_1 (w : World) (x0 x1 x2 x3 x4 x5 : Value) : (Instr.field 81 (.agg #[x0, x1, x2, x3, x4, x5]) 1).run Tryz.prog w = .ok (x1) w := by kernel_rfl
@[go_sem] theorem field_81_2 (w : World) (x0 x1 x2 x3 x4 x5 : Value) : (Instr.field 81 (.agg #[x0, x1, x2, x3, x4, x5]) 2).run Tryz.prog w = .ok (.agg #[x2, x3, x4]) w := by kernel_rfl
@[go_sem] theorem field_81_3 (w : World) (x0 x1 x2 x3 x4 x5 : Value) : (Instr.field 81 (.agg #[x0, x1, x2, x3, x4, x5]) 3).run Tryz.prog w = .ok (x5) w := by kernel_rfl
@[go_sem] theorem field_82_0 (w : World) (x0 x1 x2 x3 x4 x5 : Value) : (Instr.field 82 (.agg #[x0, x1, x2, x3, x4, x5]) 0).run Tryz.prog w = .ok (x0) w := by kernel_rfl
@[go_sem] theorem field_82_1 (w : World) (x0 x1 x2 x3 x4 x5 : Value) : (Instr.field 82 (.agg #[x0, x1, x2, x3, x4, x5]) 1).run Tryz.prog w = .ok (x1) w := by kernel_rfl
@[go_sem] theorem field_82_2 (w : World) (x0 x1 x2 x3 x4 x5 : Value) : (Instr.field 82 (.agg #[x0, x1, x2, x3, x4, x5]) 2).run Tryz.prog w = .ok (.agg #[x2, x3, x4]) w := by kernel_rfl
@[go_sem] theorem field_82_3 (w : World) (x0 x1 x2 x3 x4 x5 : Value) : (Instr.field 82 (.agg #[x0, x1, x2, x3, x4, x5]) 3).run Tryz.prog w = .ok (x5) w := by kernel_rfl
@[go_sem] theorem field_93_0 (w : World) (x0 x1 : Value) : (Instr.field 93 (.agg #[x0, x1]) 0).run Tryz.prog w = .ok (x0) w := by kernel_rfl
@[go_sem] theorem field_93_1 (w : World) (x0 x1 : Value) : (Instr.field 93 (.agg #[x0, x1]) 1).run Tryz.prog w = .ok (x1) w := by kernel_rfl
@[go_sem] theorem field_94_0 (w : World) (x0 x1 : Value) : (Instr.field 94 (.agg #[x0, x1]) 0).run Tryz.prog w = .ok (x0) w := by kernel_rfl
@[go_sem] theorem field_94_1 (w : World) (x0 x1 : Value) : (Instr.field 94 (.agg #[x0, x1]) 1).run Tryz.prog w = .ok (x1) w := by kernel_rfl
@[go_sem] theorem field_95_0 (w : World) (x0 x1 x2 : Value) : (Instr.field 95 (.agg #[x0, x1, x2]) 0).run Tryz.prog w = .ok (x0) w := by kernel_rfl
@[go_sem] theorem field_95_1 (w : World) (x0 x1 x2 : Value) : (Instr.field 95 (.agg #[x0, x1, x2]) 1).run Tryz.prog w = .ok (.agg #[x1, x2]) w := by kernel_rfl
@[go_sem] theorem field_96_0 (w : World) (x0 x1 x2 : Value) : (Instr.field 96 (.agg #[x0, x1, x2]) 0).run Tryz.prog w = .ok (x0) w := by kernel_rfl
@[go_sem] theorem field_96_1 (w : World) (x0 x1 x2 : Value) : (Instr.field 96 (.agg #[x0, x1, x2]) 1).run Tryz.prog w = .ok (.agg #[x1, x2]) w := by kernel_rfl
@[go_sem] theorem field_100_0 (w : World) (x0 x1 : Value) : (Instr.field 100 (.agg #[x0, x1]) 0).run Tryz.prog w = .ok (x0) w := by kernel_rfl
@[go_sem] theorem field_100_1 (w : World) (x0 x1 : Value) : (Instr.field 100 (.agg #[x0, x1]) 1).run Tryz.prog w = .ok (x1) w := by kernel_rfl
@[go_sem] theorem field_101_0 (w : World) (x0 x1 : Value) : (Instr.field 101 (.agg #[x0, x1]) 0).run Tryz.prog w = .ok (x0) w := by kernel_rfl
@[go_sem] theorem field_101_1 (w : World) (x0 x1 : Value) : (Instr.field 101 (.agg #[x0, x1]) 1).run Tryz.prog w = .ok (x1) w := by kernel_rfl
@[go_sem] theorem field_104_0 (w : World) (x0 x1 : Value) : (Instr.field 104 (.agg #[x0, x1]) 0).run Tryz.prog w = .ok (x0) w := by kernel_rfl
@[go_sem] theorem field_104_1 (w : World) (x0 x1 : Value) : (Instr.field 104 (.agg #[x0, x1]) 1).run Tryz.prog w = .ok (x1) w := by kernel_rfl
@[go_sem] theorem field_114_0 (w : World) (x0 x1 x2 x3 : Value) : (Instr.field 114 (.agg #[x0, x1, x2, x3]) 0).run Tryz.prog w = .ok (x0) w := by kernel_rfl
@[go_sem] theorem field_114_1 (w : World) (x0 x1 x2 x3 : Value) : (Instr.field 114 (.agg #[x0, x1, x2, x3]) 1).run Tryz.prog w = .ok (x1) w := by kernel_rfl
@[go_sem] theorem field_114_2 (w : World) (x0 x1 x2 x3 : Value) : (Instr.field 114 (.agg #[x0, x1, x2, x3]) 2).run Tryz.prog w = .ok (x2) w := by kernel_rfl
@[go_sem] theorem field_114_3 (w : World) (x0 x1 x2 x3 : Value) : (Instr.field 114 (.agg #[x0, x1, x2, x3]) 3).run Tryz.prog w = .ok (x3) w := by kernel_rfl
@[go_sem] theorem field_115_0 (w : World) (x0 x1 x2 x3 : Value) : (Instr.field 115 (.agg #[x0, x1, x2, x3]) 0).run Tryz.prog w = .ok (x0) w := by kernel_rfl
@[go_sem] theorem field_115_1 (w : World) (x0 x1 x2 x3 : Value) : (Instr.field 115 (.agg #[x0, x1, x2, x3]) 1).run Tryz.prog w = .ok (x1) w := by kernel_rfl
@[go_sem] theorem field_115_2 (w : World) (x0 x1 x2 x3 : Value) : (Instr.field 115 (.agg #[x0, x1, x2, x3]) 2).run Tryz.prog w = .ok (x2) w := by kernel_rfl
@[go_sem] theorem field_115_3 (w : World) (x0 x1 x2 x3 : Value) : (Instr.field 115 (.agg #[x0, x1, x2, x3]) 3).run Tryz.prog w = .ok (x3) w := by kernel_rfl
@[go_sem] theorem field_121_0 (w : World) (x0 x1 x2 : Value) : (Instr.field 121 (.agg #[x0, x1, x2]) 0).run Tryz.prog w = .ok (x0) w := by kernel_rfl
@[go_sem] theorem field_121_1 (w : World) (x0 x1 x2 : Value) : (Instr.field 121 (.agg #[x0, x1, x2]) 1).run Tryz.prog w = .ok (x1) w := by kernel_rfl
@[go_sem] theorem field_121_2 (w : World) (x0 x1 x2 : Value) : (Instr.field 121 (.agg #[x0, x1, x2]) 2).run Tryz.prog w = .ok (x2) w := by kernel_rfl
@[go_sem] theorem field_122_0 (w : World) (x0 x1 x2 : Value) : (Instr.field 122 (.agg #[x0, x1, x2]) 0).run Tryz.prog w = .ok (x0) w := by kernel_rfl
@[go_sem] theorem field_122_1 (w : World) (x0 x1 x2 : Value) : (Instr.field 122 (.agg #[x0, x1, x2]) 1).run Tryz.prog w = .ok (x1) w := by kernel_rfl
@[go_sem] theorem field_122_2 (w : World) (x0 x1 x2 : Value) : (Instr.field 122 (.agg #[x0, x1, x2]) 2).run Tryz.prog w = .ok (x2) w := by kernel_rfl
@[go_sem] theorem field_123_0 (w : World) (x0 x1 x2 x3 x4 x5 x6 x7 x8 x9 : Value) : (Instr.field 123 (.agg #[x0, x1, x2, x3, x4, x5, x6, x7, x8, x9]) 0).run Tryz.prog w = .ok (.agg #[x0, x1, x2]) w := by kernel_rfl
@[go_sem] theorem field_123_1 (w : World) (x0 x1 x2 x3 x4 x5 x6 x7 x8 x9 : Value) : (Instr.field 123 (.agg #[x0, x1, x2, x3, x4, x5, x6, x7, x8, x9]) 1).run Tryz.prog w = .ok (x3) w := by kernel_rfl
@[go_sem] theorem field_123_2 (w : World) (x0 x1 x2 x3 x4 x5 x6 x7 x8 x9 : Value) : (Instr.field 123 (.agg #[x0, x1, x2, x3, x4, x5, x6, x7, x8, x9]) 2).run Tryz.prog w = .ok (x4) w := by kernel_rfl
@[go_sem] theorem field_123_3 (w : World) (x0 x1 x2 x3 x4 x5 x6 x7 x8 x9 : Value) : (Instr.field 123 (.agg #[x0, x1, x2, x3, x4, x5, x6, x7, x8, x9]) 3).run Tryz.prog w = .ok (x5) w := by kernel_rfl
@[go_sem] theorem field_123_4 (w : World) (x0 x1 x2 x3 x4 x5 x6 x7 x8 x9 : Value) : (Instr.field 123 (.agg #[x0, x1, x2, x3, x4, x5, x6, x7, x8, x9]) 4).run Tryz.prog w = .ok (.agg #[x6, x7, x8, x9]) w := by kernel_rfl
@[go_sem] theorem field_124_0 (w : World) (x0 x1 x2 x3 x4 x5 x6 x7 x8 x9 : Value) : (Instr.field 124 (.agg #[x0, x1, x2, x3, x4, x5, x6, x7, x8, x9]) 0).run Tryz.prog w = .ok (.agg #[x0, x1, x2]) w := by kernel_rfl
@[go_sem] theorem field_124_1 (w : World) (x0 x1 x2 x3 x4 x5 x6 x7 x8 x9 : Value) : (Instr.field 124 (.agg #[x0, x1, x2, x3, x4, x5, x6, x7, x8, x9]) 1).run Tryz.prog w = .ok (x3) w := by kernel_rfl
@[go_sem] theorem field_124_2 (w : World) (x0 x1 x2 x3 x4 x5 x6 x7 x8 x9 : Value) : (Instr.field 124 (.agg #[x0, x1, x2, x3, x4, x5, x6, x7, x8, x9]) 2).run Tryz.prog w = .ok (x4) w := by kernel_rfl
@[go_sem] theorem field_124_3 (w : World) (x0 x1 x2 x3 x4 x5 x6 x7 x8 x9 : Value) : (Instr.field 124 (.agg #[x0, x1, x2, x3, x4, x5, x6, x7, x8, x9]) 3).run Tryz.prog w = .ok (x5) w := by kernel_rfl
@[go_sem] theorem field_124_4 (w : World) (x0 x1 x2 x3 x4 x5 x6 x7 x8 x9 : Value) : (Instr.field 124 (.agg #[x0, x1, x2, x3, x4, x5, x6, x7, x8, x9]) 4).run Tryz.prog w = .ok (.agg #[x6, x7, x8, x9]) w := by kernel_rfl
@[go_sem] theorem field_125_0 (w : World) (x0 x1 x2 x3 x4 x5 x6 x7 x8 x9 x10 : Value) : (Instr.field 125 (.agg #[x0, x1, x2, x3, x4, x5, x6, x7, x8, x9, x10]) 0).run Tryz.prog w = .ok (.agg #[x0, x1, x2, x3, x4, x5, x6, x7, x8, x9]) w := by kernel_rfl
@[go_sem] theorem field_125_1 (w : World) (x0 x1 x2 x3 x4 x5 x6 x7 x8 x9 x10 : Value) : (Instr.field 125 (.agg #[x0, x1, x2, x3, x4, x5, x6, x7, x8, x9, x10]) 1).run Tryz.prog w = .ok (x10) w := by kernel_rfl
@[go_sem] theorem field_126_0 (w : World) (x0 x1 x2 x3 x4 x5 x6 x7 x8 x9 x10 : Value) : (Instr.field 126 (.agg #[x0, x1, x2, x3, x4, x5, x6, x7, x8, x9, x10]) 0).run Tryz.prog w = .ok (.agg #[x0, x1, x2, x3, x4, x5, x6, x7, x8, x9]) w := by kernel_rfl
@[go_sem] theorem field_126_1 (w : World) (x0 x1 x2 x3 x4 x5 x6 x7 x8 x9 x10 : Value) : (Instr.field 126 (.agg #[x0, x1, x2, x3, x4, x5, x6, x7, x8, x9, x10]) 1).run Tryz.prog w = .ok (x10) w := by kernel_rfl
@[go_sem] theorem field_130_0 (w : World) (x0 x1 : Value) : (Instr.field 130 (.agg #[x0, x1]) 0).run Tryz.prog w = .ok (x0) w := by kernel_rfl
@[go_sem] theorem field_130_1 (w : World) (x0 x1 : Value) : (Instr.field 130 (.agg #[x0, x1]) 1).run Tryz.prog w = .ok (x1) w := by kernel_rfl
@[go_sem] theorem field_131_0 (w : World) (x0 x1 : Value) : (Instr.field 131 (.agg #[x0, x1]) 0).run Tryz.prog w = .ok (x0) w := by kernel_rfl
@[go_sem] theorem field_131_1 (w : World) (x0 x1 : Value) : (Instr.field 131 (.agg #[x0, x1]) 1).run Tryz.prog w = .ok (x1) w := by kernel_rfl
@[go_sem] theorem field_145_0 (w : World) (x0 x1 x2 : Value) : (Instr.field 145 (.agg #[x0, x1, x2]) 0).run Tryz.prog w = .ok (x0) w := by kernel_rfl
@[go_sem] theorem field_145_1 (w : World) (x0 x1 x2 : Value) : (Instr.field 145 (.agg #[x0, x1, x2]) 1).run Tryz.prog w = .ok (x1) w := by kernel_rfl
@[go_sem] theorem field_145_2 (w : World) (x0 x1 x2 : Value) : (Instr.field 145 (.agg #[x0, x1, x2]) 2).run Tryz.prog w = .ok (x2) w := by kernel_rfl
@[go_sem] theorem field_146_0 (w : World) (x0 x1 x2 : Value) : (Instr.field 146 (.agg #[x0, x1, x2]) 0).run Tryz.prog w = .ok (x0) w := by kernel_rfl
@[go_sem] theorem field_146_1 (w : World) (x0 x1 x2 : Value) : (Instr.field 146 (.agg #[x0, x1, x2]) 1).run Tryz.prog w = .ok (x1) w := by kernel_rfl
@[go_sem] theorem field_146_2 (w : World) (x0 x1 x2 : Value) : (Instr.field 146 (.agg #[x0, x1, x2]) 2).run Tryz.prog w = .ok (x2) w := by kernel_rfl
@[go_sem] theorem field_158_0 (w : World) (x0 x1 : Value) : (Instr.field 158 (.agg #[x0, x1]) 0).run Tryz.prog w = .ok (x0) w := by kernel_rfl
@[go_sem] theorem field_158_1 (w : World) (x0 x1 : Value) : (Instr.field 158 (.agg #[x0, x1]) 1).run Tryz.prog w = .ok (x1) w := by kernel_rfl
@[go_sem] theorem field_159_0 (w : World) (x0 x1 : Value) : (Instr.field 159 (.agg #[x0, x1]) 0).run Tryz.prog w = .ok (x0) w := by kernel_rfl
@[go_sem] theorem field_159_1 (w : World) (x0 x1 : Value) : (Instr.field 159 (.agg #[x0, x1]) 1).run Tryz.prog w = .ok (x1) w := by kernel_rfl
@[go_sem] theorem field_166_0 (w : World) (x0 x1 : Value) : (Instr.field 166 (.agg #[x0, x1]) 0).run Tryz.prog w = .ok (x0) w := by kernel_rfl
@[go_sem] theorem field_166_1 (w : World) (x0 x1 : Value) : (Instr.field 166 (.agg #[x0, x1]) 1).run Tryz.prog w = .ok (x1) w := by kernel_rfl
@[go_sem] theorem field_167_0 (w : World) (x0 x1 : Value) : (Instr.field 167 (.agg #[x0, x1]) 0).run Tryz.prog w = .ok (x0) w := by kernel_rfl
@[go_sem] theorem field_167_1 (w : World) (x0 x1 : Value) : (Instr.field 167 (.agg #[x0, x1]) 1).run Tryz.prog w = .ok (x1) w := by kernel_rfl
@[go_sem] theorem field_168_0 (w : World) (x0 x1 x2 x3 : Value) : (Instr.field 168 (.agg #[x0, x1, x2, x3]) 0).run Tryz.prog w = .ok (.agg #[x0, x1]) w := by kernel_rfl
@[go_sem] theorem field_168_1 (w : World) (x0 x1 x2 x3 : Value) : (Instr.field 168 (.agg #[x0, x1, x2, x3]) 1).run Tryz.prog w = .ok (x2) w := by kernel_rfl
@[go_sem] theorem field_168_2 (w : World) (x0 x1 x2 x3 : Value) : (Instr.field 168 (.agg #[x0, x1, x2, x3]) 2).run Tryz.prog w = .ok (x3) w := by kernel_rfl
@[go_sem] theorem field_169_0 (w : World) (x0 x1 x2 x3 : Value) : (Instr.field 169 (.agg #[x0, x1, x2, x3]) 0).run Tryz.prog w = .ok (.agg #[x0, x1]) w := by kernel_rfl
@[go_sem] theorem field_169_1 (w : World) (x0 x1 x2 x3 : Value) : (Instr.field 169 (.agg #[x0, x1, x2, x3]) 1).run Tryz.prog w = .ok (x2) w := by kernel_rfl
@[go_sem] theorem field_169_2 (w : World) (x0 x1 x2 x3 : Value) : (Instr.field 169 (.agg #[x0, x1, x2, x3]) 2).run Tryz.prog w = .ok (x3) w := by kernel_rfl
@[go_sem] theorem field_173_0 (w : World) (x0 x1 x2 : Value) : (Instr.field 173 (.agg #[x0, x1, x2]) 0).run Tryz.prog w = .ok (x0) w := by kernel_rfl
@[go_sem] theorem field_173_1 (w : World) (x0 x1 x2 : Value) : (Instr.field 173 (.agg #[x0, x1, x2]) 1).run Tryz.prog w = .ok (x1) w := by kernel_rfl
@[go_sem] theorem field_173_2 (w : World) (x0 x1 x2 : Value) : (Instr.field 173 (.agg #[x0, x1, x2]) 2).run Tryz.prog w = .ok (x2) w := by kernel_rfl
@[go_sem] theorem field_174_0 (w : World) (x0 x1 x2 : Value) : (Instr.field 174 (.agg #[x0, x1, x2]) 0).run Tryz.prog w = .ok (x0) w := by kernel_rfl
@[go_sem] theorem field_174_1 (w : World) (x0 x1 x2 : Value) : (Instr.field 174 (.agg #[x0, x1, x2]) 1).run Tryz.prog w = .ok (x1) w := by kernel_rfl
@[go_sem] theorem field_174_2 (w : World) (x0 x1 x2 : Value) : (Instr.field 174 (.agg #[x0, x1, x2]) 2).run Tryz.prog w = .ok (x2) w := by kernel_rfl
@[go_sem] theorem field_175_0 (w : World) (x0 x1 : Value) : (Instr.field 175 (.agg #[x0, x1]) 0).run Tryz.prog w = .ok (x0) w := by kernel_rfl
@[go_sem] theorem field_175_1 (w : World) (x0 x1 : Value) : (Instr.field 175 (.agg #[x0, x1]) 1).run Tryz.prog w = .ok (x1) w := by kernel_rfl
@[go_sem] theorem field_176_0 (w : World) (x0 x1 : Value) : (Instr.field 176 (.agg #[x0, x1]) 0).run Tryz.prog w = .ok (x0) w := by kernel_rfl
@[go_sem] theorem field_176_1 (w : World) (x0 x1 : Value) : (Instr.field 176 (.agg #[x0, x1]) 1).run Tryz.prog w = .ok (x1) w := by kernel_rfl
@[go_sem] theorem field_178_0 (w : World) (x0 x1 : Value) : (Instr.field 178 (.agg #[x0, x1]) 0).run Tryz.prog w = .ok (x0) w := by kernel_rfl
@[go_sem] theorem field_178_1 (w : World) (x0 x1 : Value) : (Instr.field 178 (.agg #[x0, x1]) 1).run Tryz.prog w = .ok (x1) w := by kernel_rfl
@[go_sem] theorem field_179_0 (w : World) (x0 x1 : Value) : (Instr.field 179 (.agg #[x0, x1]) 0).run Tryz.prog w = .ok (x0) w := by kernel_rfl
@[go_sem] theorem field_179_1 (w : World) (x0 x1 : Value) : (Instr.field 179 (.agg #[x0, x1]) 1).run Tryz.prog w = .ok (x1) w := by kernel_rfl
@[go_sem] theorem field_183_0 (w : World) (x0 x1 x2 : Value) : (Instr.field 183 (.agg #[x0, x1, x2]) 0).run Tryz.prog w = .ok (x0) w := by kernel_rfl
@[go_sem] theorem field_183_1 (w : World) (x0 x1 x2 : Value) : (Instr.field 183 (.agg #[x0, x1, x2]) 1).run Tryz.prog w = .ok (x1) w := by kernel_rfl
@[go_sem] theorem field_183_2 (w : World) (x0 x1 x2 : Value) : (Instr.field 183 (.agg #[x0, x1, x2]) 2).run Tryz.prog w = .ok (x2) w := by kernel_rfl
@[go_sem] theorem field_184_0 (w : World) (x0 x1 x2 : Value) : (Instr.field 184 (.agg #[x0, x1, x2]) 0).run Tryz.prog w = .ok (x0) w := by kernel_rfl
@[go_sem] theorem field_184_1 (w : World) (x0 x1 x2 : Value) : (Instr.field 184 (.agg #[x0, x1, x2]) 1).run Tryz.prog w = .ok (x1) w := by kernel_rfl
@[go_sem] theorem field_184_2 (w : World) (x0 x1 x2 : Value) : (Instr.field 184 (.agg #[x0, x1, x2]) 2).run Tryz.prog w = .ok (x2) w := by kernel_rfl
@[go_sem] theorem field_197_0 (w : World) (x0 x1 : Value) : (Instr.field 197 (.agg #[x0, x1]) 0).run Tryz.prog w = .ok (x0) w := by kernel_rfl
@[go_sem] theorem field_197_1 (w : World) (x0 x1 : Value) : (Instr.field 197 (.agg #[x0, x1]) 1).run Tryz.prog w = .ok (x1) w := by kernel_rfl
@[go_sem] theorem field_198_0 (w : World) (x0 x1 : Value) : (Instr.field 198 (.agg #[x0, x1]) 0).run Tryz.prog w = .ok (x0) w := by kernel_rfl
@[go_sem] theorem field_198_1 (w : World) (x0 x1 : Value) : (Instr.field 198 (.agg #[x0, x1]) 1).run Tryz.prog w = .ok (x1) w := by kernel_rfl
@[go_sem] theorem field_212_0 (w : World) (x0 x1 x2 x3 : Value) : (Instr.field 212 (.agg #[x0, x1, x2, x3]) 0).run Tryz.prog w = .ok (.agg #[x0, x1, x2, x3]) w := by kernel_rfl
@[go_sem] theorem field_213_0 (w : World) (x0 x1 x2 x3 : Value) : (Instr.field 213 (.agg #[x0, x1, x2, x3]) 0).run Tryz.prog w = .ok (.agg #[x0, x1, x2, x3]) w := by kernel_rfl
@[go_sem] theorem field_214_0 (w : World) (x0 x1 x2 x3 x4 x5 x6 x7 : Value) : (Instr.field 214 (.agg #[x0, x1, x2, x3, x4, x5, x6, x7]) 0).run Tryz.prog w = .ok (.agg #[x0, x1, x2, x3]) w := by kernel_rfl
@[go_sem] theorem field_214_1 (w : World) (x0 x1 x2 x3 x4 x5 x6 x7 : Value) : (Instr.field 214 (.agg #[x0, x1, x2, x3, x4, x5, x6, x7]) 1).run Tryz.prog w = .ok (x4) w := by kernel_rfl
@[go_sem] theorem field_214_2 (w : World) (x0 x1 x2 x3 x4 x5 x6 x7 : Value) : (Instr.field 214 (.agg #[x0, x1, x2, x3, x4, x5, x6, x7]) 2).run Tryz.prog w = .ok (x5) w := by kernel_rfl
@[go_sem] theorem field_214_3 (w : World) (x0 x1 x2 x3 x4 x5 x6 x7 : Value) : (Instr.field 214 (.agg #[x0, x1, x2, x3, x4, x5, x6, x7]) 3).run Tryz.prog w = .ok (x6) w := by kernel_rfl
@[go_sem] theorem field_214_4 (w : World) (x0 x1 x2 x3 x4 x5 x6 x7 : Value) : (Instr.field 214 (.agg #[x0, x1, x2, x3, x4, x5, x6, x7]) 4).run Tryz.prog w = .ok (x7) w := by kernel_rfl
@[go_sem] theorem field_215_0 (w : World) (x0 x1 x2 x3 x4 x5 x6 x7 : Value) : (Instr.field 215 (.agg #[x0, x1, x2, x3, x4, x5, x6, x7]) 0).run Tryz.prog w = .ok (.agg #[x0, x1, x2, x3]) w := by kernel_rfl
@[go_sem] theorem field_215_1 (w : World) (x0 x1 x2 x3 x4 x5 x6 x7 : Value) : (Instr.field 215 (.agg #[x0, x1, x2, x3, x4, x5, x6, x7]) 1).run Tryz.prog w = .ok (x4) w := by kernel_rfl
@[go_sem] theorem field_215_2 (w : World) (x0 x1 x2 x3 x4 x5 x6 x7 : Value) : (Instr.field 215 (.agg #[x0, x1, x2, x3, x4, x5, x6, x7]) 2).run Tryz.prog w = .ok (x5) w := by kernel_rfl
@[go_sem] theorem field_215_3 (w : World) (x0 x1 x2 x3 x4 x5 x6 x7 : Value) : (Instr.field 215 (.agg #[x0, x1, x2, x3, x4, x5, x6, x7]) 3).run Tryz.prog w = .ok (x6) w := by kernel_rfl
@[go_sem] theorem field_215_4 (w : World) (x0 x1 x2 x3 x4 x5 x6 x7 : Value) : (Instr.field 215 (.agg #[x0, x1, x2, x3, x4, x5, x6, x7]) 4).run Tryz.prog w = .ok (x7) w := by kernel_rfl
@[go_sem] theorem field_223_0 (w : World) (x0 x1 x2 : Value) : (Instr.field 223 (.agg #[x0, x1, x2]) 0).run Tryz.prog w = .ok (.agg #[x0, x1]) w := by kernel_rfl
@[go_sem] theorem field_223_1 (w : World) (x0 x1 x2 : Value) : (Instr.field 223 (.agg #[x0, x1, x2]) 1).run Tryz.prog w = .ok (x2) w := by kernel_rfl
@[go_sem] theorem field_224_0 (w : World) (x0 x1 x2 : Value) : (Instr.field 224 (.agg #[x0, x1, x2]) 0).run Tryz.prog w = .ok (.agg #[x0, x1]) w := by kernel_rfl
@[go_sem] theorem field_224_1 (w : World) (x0 x1 x2 : Value) : (Instr.field 224 (.agg #[x0, x1, x2]) 1).run Tryz.prog w = .ok (x2) w := by kernel_rfl
@[go_sem] theorem field_252_0 (w : World) (x0 x1 : Value) : (Instr.field 252 (.agg #[x0, x1]) 0).run Tryz.prog w = .ok (x0) w := by kernel_rfl
@[go_sem] theorem field_252_1 (w : World) (x0 x1 : Value) : (Instr.field 252 (.agg #[x0, x1]) 1).run Tryz.prog w = .ok (x1) w := by kernel_rfl
@[go_sem] theorem field_253_0 (w : World) (x0 x1 : Value) : (Instr.field 253 (.agg #[x0, x1]) 0).run Tryz.prog w = .ok (x0) w := by kernel_rfl
@[go_sem] theorem field_253_1 (w : World) (x0 x1 : Value) : (Instr.field 253 (.agg #[x0, x1]) 1).run Tryz.prog w = .ok (x1) w := by kernel_rfl
@[go_sem] theorem field_263_0 (w : World) (x0 x1 x2 x3 x4 : Value) : (Instr.field 263 (.agg #[x0, x1, x2, x3, x4]) 0).run Tryz.prog w = .ok (x0) w := by kernel_rfl
@[go_sem] theorem field_263_1 (w : World) (x0 x1 x2 x3 x4 : Value) : (Instr.field 263 (.agg #[x0, x1, x2, x3, x4]) 1).run Tryz.prog w = .ok (x1) w := by kernel_rfl
@[go_sem] theorem field_263_2 (w : World) (x0 x1 x2 x3 x4 : Value) : (Instr.field 263 (.agg #[x0, x1, x2, x3, x4]) 2).run Tryz.prog w = .ok (x2) w := by kernel_rfl
@[go_sem] theorem field_263_3 (w : World) (x0 x1 x2 x3 x4 : Value) : (Instr.field 263 (.agg #[x0, x1, x2, x3, x4]) 3).run Tryz.prog w = .ok (x3) w := by kernel_rfl
@[go_sem] theorem field_263_4 (w : World) (x0 x1 x2 x3 x4 : Value) : (Instr.field 263 (.agg #[x0, x1, x2, x3, x4]) 4).run Tryz.prog w = .ok (x4) w := by kernel_rfl
@[go_sem] theorem field_264_0 (w : World) (x0 x1 x2 x3 x4 : Value) : (Instr.field 264 (.agg #[x0, x1, x2, x3, x4]) 0).run Tryz.prog w = .ok (x0) w := by kernel_rfl
@[go_sem] theorem field_264_1 (w : World) (x0 x1 x2 x3 x4 : Value) : (Instr.field 264 (.agg #[x0, x1, x2, x3, x4]) 1).run Tryz.prog w = .ok (x1) w := by kernel_rfl
@[go_sem] theorem field_264_2 (w : World) (x0 x1 x2 x3 x4 : Value) : (Instr.field 264 (.agg #[x0, x1, x2, x3, x4]) 2).run Tryz.prog w = .ok (x2) w := by kernel_rfl
@[go_sem] theorem field_264_3 (w : World) (x0 x1 x2 x3 x4 : Value) : (Instr.field 264 (.agg #[x0, x1, x2, x3, x4]) 3).run Tryz.prog w = .ok (x3) w := by kernel_rfl
@[go_sem] theorem field_264_4 (w : World) (x0 x1 x2 x3 x4 : Value) : (Instr.field 264 (.agg #[x0, x1, x2, x3, x4]) 4).run Tryz.prog w = .ok (x4) w := by kernel_rfl
@[go_sem] theorem field_265_0 (w : World) (x0 x1 x2 x3 x4 : Value) : (Instr.field 265 (.agg #[x0, x1, x2, x3, x4]) 0).run Tryz.prog w = .ok (x0) w := by kernel_rfl
@[go_sem] theorem field_265_1 (w : World) (x0 x1 x2 x3 x4 : Value) : (Instr.field 265 (.agg #[x0, x1, x2, x3, x4]) 1).run Tryz.prog w = .ok (x1) w := by kernel_rfl
@[go_sem] theorem field_265_2 (w : World) (x0 x1 x2 x3 x4 : Value) : (Instr.field 265 (.agg #[x0, x1, x2, x3, x4]) 2).run Tryz.prog w = .ok (x2) w := by kernel_rfl
@[go_sem] theorem field_265_3 (w : World) (x0 x1 x2 x3 x4 : Value) : (Instr.field 265 (.agg #[x0, x1, x2, x3, x4]) 3).run Tryz.prog w = .ok (x3) w := by kernel_rfl
@[go_sem] theorem field_265_4 (w : World) (x0 x1 x2 x3 x4 : Value) : (Instr.field 265 (.agg #[x0, x1, x2, x3, x4]) 4).run Tryz.prog w = .ok (x4) w := by kernel_rfl
@[go_sem] theorem field_266_0 (w : World) (x0 x1 x2 x3 x4 : Value) : (Instr.field 266 (.agg #[x0, x1, x2, x3, x4]) 0).run Tryz.prog w = .ok (x0) w := by kernel_rfl
@[go_sem] theorem field_266_1 (w : World) (x0 x1 x2 x3 x4 : Value) : (Instr.field 266 (.agg #[x0, x1, x2, x3, x4]) 1).run Tryz.prog w = .ok (x1) w := by kernel_rfl
@[go_sem] theorem field_266_2 (w : World) (x0 x1 x2 x3 x4 : Value) : (Instr.field 266 (.agg #[x0, x1, x2, x3, x4]) 2).run Tryz.prog w = .ok (x2) w := by kernel_rfl
@[go_sem] theorem field_266_3 (w : World) (x0 x1 x2 x3 x4 : Value) : (Instr.field 266 (.agg #[x0, x1, x2, x3, x4]) 3).run Tryz.prog w = .ok (x3) w := by kernel_rfl
@[go_sem] theorem field_266_4 (w : World) (x0 x1 x2 x3 x4 : Value) : (Instr.field 266 (.agg #[x0, x1, x2, x3, x4]) 4).run Tryz.prog w = .ok (x4) w := by kernel_rfl
@[go_sem] theorem field_285_0 (w : World) (x0 x1 : Value) : (Instr.field 285 (.agg #[x0, x1]) 0).run Tryz.prog w = .ok (x0) w := by kernel_rfl
@[go_sem] theorem field_285_1 (w : World) (x0 x1 : Value) : (Instr.field 285 (.agg #[x0, x1]) 1).run Tryz.prog w = .ok (x1) w := by kernel_rfl
@[go_sem] theorem field_286_0 (w : World) (x0 x1 : Value) : (Instr.field 286 (.agg #[x0, x1]) 0).run Tryz.prog w = .ok (x0) w := by kernel_rfl
@[go_sem] theorem field_286_1 (w : World) (x0 x1 : Value) : (Instr.field 286 (.agg #[x0, x1]) 1).run Tryz.prog w = .ok (x1) w := by kernel_rfl
@[go_sem] theorem field_293_0 (w : World) (x0 x1 x2 x3 x4 x5 x6 : Value) : (Instr.field 293 (.agg #[x0, x1, x2, x3, x4, x5, x6]) 0).run Tryz.prog w = .ok (x0) w := by kernel_rfl
@[go_sem] theorem field_293_1 (w : World) (x0 x1 x2 x3 x4 x5 x6 : Value) : (Instr.field 293 (.agg #[x0, x1, x2, x3, x4, x5, x6]) 1).run Tryz.prog w = .ok (x1) w := by kernel_rfl
@[go_sem] theorem field_293_2 (w : World) (x0 x1 x2 x3 x4 x5 x6 : Value) : (Instr.field 293 (.agg #[x0, x1, x2, x3, x4, x5, x6]) 2).run Tryz.prog w = .ok (x2) w := by kernel_rfl
@[go_sem] theorem field_293_3 (w : World) (x0 x1 x2 x3 x4 x5 x6 : Value) : (Instr.field 293 (.agg #[x0, x1, x2, x3, x4, x5, x6]) 3).run Tryz.prog w = .ok (x3) w := by kernel_rfl
@[go_sem] theorem field_293_4 (w : World) (x0 x1 x2 x3 x4 x5 x6 : Value) : (Instr.field 293 (.agg #[x0, x1, x2, x3, x4, x5, x6]) 4).run Tryz.prog w = .ok (x4) w := by kernel_rfl
@[go_sem] theorem field_293_5 (w : World) (x0 x1 x2 x3 x4 x5 x6 : Value) : (Instr.field 293 (.agg #[x0, x1, x2, x3, x4, x5, x6]) 5).run Tryz.prog w = .ok (x5) w := by kernel_rfl
@[go_sem] theorem field_293_6 (w : World) (x0 x1 x2 x3 x4 x5 x6 : Value) : (Instr.field 293 (.agg #[x0, x1, x2, x3, x4, x5, x6]) 6).run Tryz.prog w = .ok (x6) w := by kernel_rfl
@[go_sem] theorem field_294_0 (w : World) (x0 x1 x2 x3 x4 x5 x6 : Value) : (Instr.field 294 (.agg #[x0, x1, x2, x3, x4, x5, x6]) 0).run Tryz.prog w = .ok (x0) w := by kernel_rfl
@[go_sem] theorem field_294_1 (w : World) (x0 x1 x2 x3 x4 x5 x6 : Value) : (Instr.field 294 (.agg #[x0, x1, x2, x3, x4, x5, x6]) 1).run Tryz.prog w = .ok (x1) w := by kernel_rfl
@[go_sem] theorem field_294_2 (w : World) (x0 x1 x2 x3 x4 x5 x6 : Value) : (Instr.field 294 (.agg #[x0, x1, x2, x3, x4, x5, x6]) 2).run Tryz.prog w = .ok (x2) w := by kernel_rfl
@[go_sem] theorem field_294_3 (w : World) (x0 x1 x2 x3 x4 x5 x6 : Value) : (Instr.field 294 (.agg #[x0, x1, x2, x3, x4, x5, x6]) 3).run Tryz.prog w = .ok (x3) w := by kernel_rfl
@[go_sem] theorem field_294_4 (w : World) (x0 x1 x2 x3 x4 x5 x6 : Value) : (Instr.field 294 (.agg #[x0, x1, x2, x3, x4, x5, x6]) 4).run Tryz.prog w = .ok (x4) w := by kernel_rfl
@[go_sem] theorem field_294_5 (w : World) (x0 x1 x2 x3 x4 x5 x6 : Value) : (Instr.field 294 (.agg #[x0, x1, x2, x3, x4, x5, x6]) 5).run Tryz.prog w = .ok (x5) w := by kernel_rfl
@[go_sem] theorem field_294_6 (w : World) (x0 x1 x2 x3 x4 x5 x6 : Value) : (Instr.field 294 (.agg #[x0, x1, x2, x3, x4, x5, x6]) 6).run Tryz.prog w = .ok (x6) w := by kernel_rfl
@[go_sem] theorem field_310_0 (w : World) (x0 x1 : Value) : (Instr.field 310 (.agg #[x0, x1]) 0).run Tryz.prog w = .ok (x0) w := by kernel_rfl
@[go_sem] theorem field_310_1 (w : World) (x0 x1 : Value) : (Instr.field 310 (.agg #[x0, x1]) 1).run Tryz.prog w = .ok (x1) w := by kernel_rfl
@[go_sem] theorem field_311_0 (w : World) (x0 x1 : Value) : (Instr.field 311 (.agg #[x0, x1]) 0).run Tryz.prog w = .ok (x0) w := by kernel_rfl
@[go_sem] theorem field_311_1 (w : World) (x0 x1 : Value) : (Instr.field 311 (.agg #[x0, x1]) 1).run Tryz.prog w = .ok (x1) w := by kernel_rfl
@[go_sem] theorem field_314_0 (w : World) (x0 x1 x2 x3 : Value) : (Instr.field 314 (.agg #[x0, x1, x2, x3]) 0).run Tryz.prog w = .ok (x0) w := by kernel_rfl
@[go_sem] theorem field_314_1 (w : World) (x0 x1 x2 x3 : Value) : (Instr.field 314 (.agg #[x0, x1, x2, x3]) 1).run Tryz.prog w = .ok (x1) w := by kernel_rfl
@[go_sem] theorem field_314_2 (w : World) (x0 x1 x2 x3 : Value) : (Instr.field 314 (.agg #[x0, x1, x2, x3]) 2).run Tryz.prog w = .ok (x2) w := by kernel_rfl
@[go_sem] theorem field_314_3 (w : World) (x0 x1 x2 x3 : Value) : (Instr.field 314 (.agg #[x0, x1, x2, x3]) 3).run Tryz.prog w = .ok (x3) w := by kernel_rfl
@[go_sem] theorem field_315_0 (w : World) (x0 x1 x2 x3 : Value) : (Instr.field 315 (.agg #[x0, x1, x2, x3]) 0).run Tryz.prog w = .ok (x0) w := by kernel_rfl
@[go_sem] theorem field_315_1 (w : World) (x0 x1 x2 x3 : Value) : (Instr.field 315 (.agg #[x0, x1, x2, x3]) 1).run Tryz.prog w = .ok (x1) w := by kernel_rfl
@[go_sem] theorem field_315_2 (w : World) (x0 x1 x2 x3 : Value) : (Instr.field 315 (.agg #[x0, x1, x2, x3]) 2).run Tryz.prog w = .ok (x2) w := by kernel_rfl
@[go_sem] theorem field_315_3 (w : World) (x0 x1 x2 x3 : Value) : (Instr.field 315 (.agg #[x0, x1, x2, x3]) 3).run Tryz.prog w = .ok (x3) w := by kernel_rfl
@[go_sem] theorem field_317_0 (w : World) (x0 x1 x2 x3 x4 x5 x6 : Value) : (Instr.field 317 (.agg #[x0, x1, x2, x3, x4, x5, x6]) 0).run Tryz.prog w = .ok (.agg #[x0, x1, x2, x3, x4]) w := by kernel_rfl
@[go_sem] theorem field_317_1 (w : World) (x0 x1 x2 x3 x4 x5 x6 : Value) : (Instr.field 317 (.agg #[x0, x1, x2, x3, x4, x5, x6]) 1).run Tryz.prog w = .ok (x5) w := by kernel_rfl
@[go_sem] theorem field_317_2 (w : World) (x0 x1 x2 x3 x4 x5 x6 : Value) : (Instr.field 317 (.agg #[x0, x1, x2, x3, x4, x5, x6]) 2).run Tryz.prog w = .ok (x6) w := by kernel_rfl
@[go_sem] theorem field_318_0 (w : World) (x0 x1 x2 x3 x4 x5 x6 : Value) : (Instr.field 318 (.agg #[x0, x1, x2, x3, x4, x5, x6]) 0).run Tryz.prog w = .ok (.agg #[x0, x1, x2, x3, x4]) w := by kernel_rfl
@[go_sem] theorem field_318_1 (w : World) (x0 x1 x2 x3 x4 x5 x6 : Value) : (Instr.field 318 (.agg #[x0, x1, x2, x3, x4, x5, x6]) 1).run Tryz.prog w = .ok (x5) w := by kernel_rfl
@[go_sem] theorem field_318_2 (w : World) (x0 x1 x2 x3 x4 x5 x6 : Value) : (Instr.field 318 (.agg #[x0, x1, x2, x3, x4, x5, x6]) 2).run Tryz.prog w = .ok (x6) w := by kernel_rfl
@[go_sem] theorem field_348_0 (w : World) (x0 x1 x2 x3 x4 : Value) : (Instr.field 348 (.agg #[x0, x1, x2, x3, x4]) 0).run Tryz.prog w = .ok (x0) w := by kernel_rfl
@[go_sem] theorem field_348_1 (w : World) (x0 x1 x2 x3 x4 : Value) : (Instr.field 348 (.agg #[x0, x1, x2, x3, x4]) 1).run Tryz.prog w = .ok (x1) w := by kernel_rfl
@[go_sem] theorem field_348_2 (w : World) (x0 x1 x2 x3 x4 : Value) : (Instr.field 348 (.agg #[x0, x1, x2, x3, x4]) 2).run Tryz.prog w = .ok (x2) w := by kernel_rfl
@[go_sem] theorem field_348_3 (w : World) (x0 x1 x2 x3 x4 : Value) : (Instr.field 348 (.agg #[x0, x1, x2, x3, x4]) 3).run Tryz.prog w = .ok (x3) w := by kernel_rfl
@[go_sem] theorem field_348_4 (w : World) (x0 x1 x2 x3 x4 : Value) : (Instr.field 348 (.agg #[x0, x1, x2, x3, x4]) 4).run Tryz.prog w = .ok (x4) w := by kernel_rfl
@[go_sem] theorem field_349_0 (w : World) (x0 x1 x2 x3 x4 : Value) : (Instr.field 349 (.agg #[x0, x1, x2, x3, x4]) 0).run Tryz.prog w = .ok (x0) w := by kernel_rfl
@[go_sem] theorem field_349_1 (w : World) (x0 x1 x2 x3 x4 : Value) : (Instr.field 349 (.agg #[x0, x1, x2, x3, x4]) 1).run Tryz.prog w = .ok (x1) w := by kernel_rfl
@[go_sem] theorem field_349_2 (w : World) (x0 x1 x2 x3 x4 : Value) : (Instr.field 349 (.agg #[x0, x1, x2, x3, x4]) 2).run Tryz.prog w = .ok (x2) w := by kernel_rfl
@[go_sem] theorem field_349_3 (w : World) (x0 x1 x2 x3 x4 : Value) : (Instr.field 349 (.agg #[x0, x1, x2, x3, x4]) 3).run Tryz.prog w = .ok (x3) w := by kernel_rfl
@[go_sem] theorem field_349_4 (w : World) (x0 x1 x2 x3 x4 : Value) : (Instr.field 349 (.agg #[x0, x1, x2, x3, x4]) 4).run Tryz.prog w = .ok (x4) w := by kernel_rfl
@[go_sem] theorem field_350_0 (w : World) (x0 x1 x2 : Value) : (Instr.field 350 (.agg #[x0, x1, x2]) 0).run Tryz.prog w = .ok (x0) w := by kernel_rfl
@[go_sem] theorem field_350_1 (w : World) (x0 x1 x2 : Value) : (Instr.field 350 (.agg #[x0, x1, x2]) 1).run Tryz.prog w = .ok (x1) w := by kernel_rfl
@[go_sem] theorem field_350_2 (w : World) (x0 x1 x2 : Value) : (Instr.field 350 (.agg #[x0, x1, x2]) 2).run Tryz.prog w = .ok (x2) w := by kernel_rfl
@[go_sem] theorem field_351_0 (w : World) (x0 x1 x2 : Value) : (Instr.field 351 (.agg #[x0, x1, x2]) 0).run Tryz.prog w = .ok (x0) w := by kernel_rfl
@[go_sem] theorem field_351_1 (w : World) (x0 x1 x2 : Value) : (Instr.field 351 (.agg #[x0, x1, x2]) 1).run Tryz.prog w = .ok (x1) w := by kernel_rfl
@[go_sem] theorem field_351_2 (w : World) (x0 x1 x2 : Value) : (Instr.field 351 (.agg #[x0, x1, x2]) 2).run Tryz.prog w = .ok (x2) w := by kernel_rfl
@[go_sem] theorem field_360_0 (w : World) (x0 x1 : Value) : (Instr.field 360 (.agg #[x0, x1]) 0).run Tryz.prog w = .ok (x0) w := by kernel_rfl
@[go_sem] theorem field_360_1 (w : World) (x0 x1 : Value) : (Instr.field 360 (.agg #[x0, x1]) 1).run Tryz.prog w = .ok (x1) w := by kernel_rfl
@[go_sem] theorem field_361_0 (w : World) (x0 x1 : Value) : (Instr.field 361 (.agg #[x0, x1]) 0).run Tryz.prog w = .ok (x0) w := by kernel_rfl
@[go_sem] theorem field_361_1 (w : World) (x0 x1 : Value) : (Instr.field 361 (.agg #[x0, x1]) 1).run Tryz.prog w = .ok (x1) w := by kernel_rfl
@[go_sem] theorem field_365_0 (w : World) (x0 x1 x2 x3 : Value) : (Instr.field 365 (.agg #[x0, x1, x2, x3]) 0).run Tryz.prog w = .ok (x0) w := by kernel_rfl
@[go_sem] theorem field_365_1 (w : World) (x0 x1 x2 x3 : Value) : (Instr.field 365 (.agg #[x0, x1, x2, x3]) 1).run Tryz.prog w = .ok (x1) w := by kernel_rfl
@[go_sem] theorem field_365_2 (w : World) (x0 x1 x2 x3 : Value) : (Instr.field 365 (.agg #[x0, x1, x2, x3]) 2).run Tryz.prog w = .ok (x2) w := by kernel_rfl
@[go_sem] theorem field_365_3 (w : World) (x0 x1 x2 x3 : Value) : (Instr.field 365 (.agg #[x0, x1, x2, x3]) 3).run Tryz.prog w = .ok (x3) w := by kernel_rfl
@[go_sem] theorem field_376_0 (w : World) (x0 x1 x2 x3 x4 x5 x6 x7 x8 x9 x10 : Value) : (Instr.field 376 (.agg #[x0, x1, x2, x3, x4, x5, x6, x7, x8, x9, x10]) 0).run Tryz.prog w = .ok (x0) w := by kernel_rfl
@[go_sem] theorem field_376_1 (w : World) (x0 x1 x2 x3 x4 x5 x6 x7 x8 x9 x10 : Value) : (Instr.field 376 (.agg #[x0, x1, x2, x3, x4, x5, x6, x7, x8, x9, x10]) 1).run Tryz.prog w = .ok (x1) w := by kernel_rfl
@[go_sem] theorem field_376_2 (w : World) (x0 x1 x2 x3 x4 x5 x6 x7 x8 x9 x10 : Value) : (Instr.field 376 (.agg #[x0, x1, x2, x3, x4, x5, x6, x7, x8, x9, x10]) 2).run Tryz.prog w = .ok (x2) w := by kernel_rfl
@[go_sem] theorem field_376_3 (w : World) (x0 x1 x2 x3 x4 x5 x6 x7 x8 x9 x10 : Value) : (Instr.field 376 (.agg #[x0, x1, x2, x3, x4, x5, x6, x7, x8, x9, x10]) 3).run Tryz.prog w = .ok (x3) w := by kernel_rfl
@[go_sem] theorem field_376_4 (w : World) (x0 x1 x2 x3 x4 x5 x6 x7 x8 x9 x10 : Value) : (Instr.field 376 (.agg #[x0, x1, x2, x3, x4, x5, x6, x7, x8, x9, x10]) 4).run Tryz.prog w = .ok (x4) w := by kernel_rfl
@[go_sem] theorem field_376_5 (w : World) (x0 x1 x2 x3 x4 x5 x6 x7 x8 x9 x10 : Value) : (Instr.field 376 (.agg #[x0, x1, x2, x3, x4, x5, x6, x7, x8, x9, x10]) 5).run Tryz.prog w = .ok (x5) w := by kernel_rfl
@[go_sem] theorem field_376_6 (w : World) (x0 x1 x2 x3 x4 x5 x6 x7 x8 x9 x10 : Value) : (Instr.field 376 (.agg #[x0, x1, x2, x3, x4, x5, x6, x7, x8, x9, x10]) 6).run Tryz.prog w = .ok (x6) w := by kernel_rfl
@[go_sem] theorem field_376_7 (w : World) (x0 x1 x2 x3 x4 x5 x6 x7 x8 x9 x10 : Value) : (Instr.field 376 (.agg #[x0, x1, x2, x3, x4, x5, x6, x7, x8, x9, x10]) 7).run Tryz.prog w = .ok (x7) w := by kernel_rfl
@[go_sem] theorem field_376_8 (w : World) (x0 x1 x2 x3 x4 x5 x6 x7 x8 x9 x10 : Value) : (Instr.field 376 (.agg #[x0, x1, x2, x3, x4, x5, x6, x7, x8, x9, x10]) 8).run Tryz.prog w = .ok (x8) w := by kernel_rfl
@[go_sem] theorem field_376_9 (w : World) (x0 x1 x2 x3 x4 x5 x6 x7 x8 x9 x10 : Value) : (Instr.field 376 (.agg #[x0, x1, x2, x3, x4, x5, x6, x7, x8, x9, x10]) 9).run Tryz.prog w = .ok (x9) w := by kernel_rfl
@[go_sem] theorem field_376_10 (w : World) (x0 x1 x2 x3 x4 x5 x6 x7 x8 x9 x10 : Value) : (Instr.field 376 (.agg #[x0, x1, x2, x3, x4, x5, x6, x7, x8, x9, x10]) 10).run Tryz.prog w = .ok (x10) w := by kernel_rfl
@[go_sem] theorem field_377_0 (w : World) (x0 x1 x2 x3 x4 x5 x6 x7 x8 x9 x10 : Value) : (Instr.field 377 (.agg #[x0, x1, x2, x3, x4, x5, x6, x7, x8, x9, x10]) 0).run Tryz.prog w = .ok (x0) w := by kernel_rfl
@[go_sem] theorem field_377_1 (w : World) (x0 x1 x2 x3 x4 x5 x6 x7 x8 x9 x10 : Value) : (Instr.field 377 (.agg #[x0, x1, x2, x3, x4, x5, x6, x7, x8, x9, x10]) 1).run Tryz.prog w = .ok (x1) w := by kernel_rfl
@[go_sem] theorem field_377_2 (w : World) (x0 x1 x2 x3 x4 x5 x6 x7 x8 x9 x10 : Value) : (Instr.field 377 (.agg #[x0, x1, x2, x3, x4, x5, x6, x7, x8, x9, x10]) 2).run Tryz.prog w = .ok (x2) w := by kernel_rfl
@[go_sem] theorem field_377_3 (w : World) (x0 x1 x2 x3 x4 x5 x6 x7 x8 x9 x10 : Value) : (Instr.field 377 (.agg #[x0, x1, x2, x3, x4, x5, x6, x7, x8, x9, x10]) 3).run Tryz.prog w = .ok (x3) w := by kernel_rfl
@[go_sem] theorem field_377_4 (w : World) (x0 x1 x2 x3 x4 x5 x6 x7 x8 x9 x10 : Value) : (Instr.field 377 (.agg #[x0, x1, x2, x3, x4, x5, x6, x7, x8, x9, x10]) 4).run Tryz.prog w = .ok (x4) w := by kernel_rfl
@[go_sem] theorem field_377_5 (w : World) (x0 x1 x2 x3 x4 x5 x6 x7 x8 x9 x10 : Value) : (Instr.field 377 (.agg #[x0, x1, x2, x3, x4, x5, x6, x7, x8, x9, x10]) 5).run Tryz.prog w = .ok (x5) w := by kernel_rfl
@[go_sem] theorem field_377_6 (w : World) (x0 x1 x2 x3 x4 x5 x6 x7 x8 x9 x10 : Value) : (Instr.field 377 (.agg #[x0, x1, x2, x3, x4, x5, x6, x7, x8, x9, x10]) 6).run Tryz.prog w = .ok (x6) w := by kernel_rfl
@[go_sem] theorem field_377_7 (w : World) (x0 x1 x2 x3 x4 x5 x6 x7 x8 x9 x10 : Value) : (Instr.field 377 (.agg #[x0, x1, x2, x3, x4, x5, x6, x7, x8, x9, x10]) 7).run Tryz.prog w = .ok (x7) w := by kernel_rfl
@[go_sem] theorem field_377_8 (w : World) (x0 x1 x2 x3 x4 x5 x6 x7 x8 x9 x10 : Value) : (Instr.field 377 (.agg #[x0, x1, x2, x3, x4, x5, x6, x7, x8, x9, x10]) 8).run Tryz.prog w = .ok (x8) w := by kernel_rfl
@[go_sem] theorem field_377_9 (w : World) (x0 x1 x2 x3 x4 x5 x6 x7 x8 x9 x10 : Value) : (Instr.field 377 (.agg #[x0, x1, x2, x3, x4, x5, x6, x7, x8, x9, x10]) 9).run Tryz.prog w = .ok (x9) w := by kernel_rfl
@[go_sem] theorem field_377_10 (w : World) (x0 x1 x2 x3 x4 x5 x6 x7 x8 x9 x10 : Value) : (Instr.field 377 (.agg #[x0, x1, x2, x3, x4, x5, x6, x7, x8, x9, x10]) 10).run Tryz.prog w = .ok (x10) w := by kernel_rfl
end Go.Proofs.YtjpfmkfikidgkaaGreat
