/- What reading a field of a struct value gives: one row a field (written by gen_fields.py). -/
import Derived.Test.YtmkbinbggiocaaaRows
import Derived.WalkKit
set_option linter.unusedVariables false
namespace Go.Proofs.Ytmkbinbggiocaaa
@[go_sem] theorem field_7_0 (w : World) (x0 x1 x2 x3 : Value) : (Instr.field 7 (.agg #[x0, x1, x2, x3]) 0).run Try.prog w = .ok (x0) w := by kernel_rfl
@[go_sem] theorem field_7_1 (w : World) (x0 x1 x2 x3 : Value) : (Instr.field 7 (.agg #[x0, x1, x2, x3]) 1).run Try.prog w = .ok (x1) w := by kernel_rfl
@[go_sem] theorem field_7_2 (w : World) (x0 x1 x2 x3 : Value) : (Instr.field 7 (.agg #[x0, x1, x2, x3]) 2).run Try.prog w = .ok (x2) w := by kernel_rfl
@[go_sem] theorem field_7_3 (w : World) (x0 x1 x2 x3 : Value) : (Instr.field 7 (.agg #[x0, x1, x2, x3]) 3).run Try.prog w = .ok (x3) w := by kernel_rfl
@[go_sem] theorem field_13_0 (w : World) (x0 x1 : Value) : (Instr.field 13 (.agg #[x0, x1]) 0).run Try.prog w = .ok (x0) w := by kernel_rfl
@[go_sem] theorem field_13_1 (w : World) (x0 x1 : Value) : (Instr.field 13 (.agg #[x0, x1]) 1).run Try.prog w = .ok (x1) w := by kernel_rfl
@[go_sem] theorem field_18_0 (w : World) (x0 : Value) : (Instr.field 18 (.agg #[x0]) 0).run Try.prog w = .ok (x0) w := by kernel_rfl
@[go_sem] theorem field_19_0 (w : World) (x0 : Value) : (Instr.field 19 (.agg #[x0]) 0).run Try.prog w = .ok (x0) w := by kernel_rfl
@[go_sem] theorem field_28_0 (w : World) (x0 x1 x2 : Value) : (Instr.field 28 (.agg #[x0, x1, x2]) 0).run Try.prog w = .ok (x0) w := by kernel_rfl
@[go_sem] theorem field_28_1 (w : World) (x0 x1 x2 : Value) : (Instr.field 28 (.agg #[x0, x1, x2]) 1).run Try.prog w = .ok (x1) w := by kernel_rfl
@[go_sem] theorem field_28_2 (w : World) (x0 x1 x2 : Value) : (Instr.field 28 (.agg #[x0, x1, x2]) 2).run Try.prog w = .ok (x2) w := by kernel_rfl
@[go_sem] theorem field_29_0 (w : World) (x0 x1 x2 : Value) : (Instr.field 29 (.agg #[x0, x1, x2]) 0).run Try.prog w = .ok (x0) w := by kernel_rfl
@[go_sem] theorem field_29_1 (w : World) (x0 x1 x2 : Value) : (Instr.field 29 (.agg #[x0, x1, x2]) 1).run Try.prog w = .ok (x1) w := by kernel_rfl
@[go_sem] theorem field_29_2 (w : World) (x0 x1 x2 : Value) : (Instr.field 29 (.agg #[x0, x1, x2]) 2).run Try.prog w = .ok (x2) w := by kernel_rfl
@[go_sem] theorem field_30_0 (w : World) (x0 x1 : Value) : (Instr.field 30 (.agg #[x0, x1]) 0).run Try.prog w = .ok (x0) w := by kernel_rfl
@[go_sem] theorem field_30_1 (w : World) (x0 x1 : Value) : (Instr.field 30 (.agg #[x0, x1]) 1).run Try.prog w = .ok (x1) w := by kernel_rfl
@[go_sem] theorem field_31_0 (w : World) (x0 x1 : Value) : (Instr.field 31 (.agg #[x0, x1]) 0).run Try.prog w = .ok (x0) w := by kernel_rfl
@[go_sem] theorem field_31_1 (w : World) (x0 x1 : Value) : (Instr.field 31 (.agg #[x0, x1]) 1).run Try.prog w = .ok (x1) w := by kernel_rfl
@[go_sem] theorem field_40_0 (w : World) (x0 x1 x2 x3 : Value) : (Instr.field 40 (.agg #[x0, x1, x2, x3]) 0).run Try.prog w = .ok (x0) w := by kernel_rfl
@[go_sem] theorem field_40_1 (w : World) (x0 x1 x2 x3 : Value) : (Instr.field 40 (.agg #[x0, x1, x2, x3]) 1).run Try.prog w = .ok (x1) w := by kernel_rfl
@[go_sem] theorem field_40_2 (w : World) (x0 x1 x2 x3 : Value) : (Instr.field 40 (.agg #[x0, x1, x2, x3]) 2).run Try.prog w = .ok (x2) w := by kernel_rfl
@[go_sem] theorem field_40_3 (w : World) (x0 x1 x2 x3 : Value) : (Instr.field 40 (.agg #[x0, x1, x2, x3]) 3).run Try.prog w = .ok (x3) w := by kernel_rfl
@[go_sem] theorem field_41_0 (w : World) (x0 x1 x2 x3 : Value) : (Instr.field 41 (.agg #[x0, x1, x2, x3]) 0).run Try.prog w = .ok (x0) w := by kernel_rfl
@[go_sem] theorem field_41_1 (w : World) (x0 x1 x2 x3 : Value) : (Instr.field 41 (.agg #[x0, x1, x2, x3]) 1).run Try.prog w = .ok (x1) w := by kernel_rfl
@[go_sem] theorem field_41_2 (w : World) (x0 x1 x2 x3 : Value) : (Instr.field 41 (.agg #[x0, x1, x2, x3]) 2).run Try.prog w = .ok (x2) w := by kernel_rfl
@[go_sem] theorem field_41_3 (w : World) (x0 x1 x2 x3 : Value) : (Instr.field 41 (.agg #[x0, x1, x2, x3]) 3).run Try.prog w = .ok (x3) w := by kernel_rfl
@[go_sem] theorem field_47_0 (w : World) (x0 x1 x2 : Value) : (Instr.field 47 (.agg #[x0, x1, x2]) 0).run Try.prog w = .ok (x0) w := by kernel_rfl
@[go_sem] theorem field_47_1 (w : World) (x0 x1 x2 : Value) : (Instr.field 47 (.agg #[x0, x1, x2]) 1).run Try.prog w = .ok (x1) w := by kernel_rfl
@[go_sem] theorem field_47_2 (w : World) (x0 x1 x2 : Value) : (Instr.field 47 (.agg #[x0, x1, x2]) 2).run Try.prog w = .ok (x2) w := by kernel_rfl
@[go_sem] theorem field_48_0 (w : World) (x0 x1 x2 : Value) : (Instr.field 48 (.agg #[x0, x1, x2]) 0).run Try.prog w = .ok (x0) w := by kernel_rfl
@[go_sem] theorem field_48_1 (w : World) (x0 x1 x2 : Value) : (Instr.field 48 (.agg #[x0, x1, x2]) 1).run Try.prog w = .ok (x1) w := by kernel_rfl
@[go_sem] theorem field_48_2 (w : World) (x0 x1 x2 : Value) : (Instr.field 48 (.agg #[x0, x1, x2]) 2).run Try.prog w = .ok (x2) w := by kernel_rfl
@[go_sem] theorem field_57_0 (w : World) (x0 x1 : Value) : (Instr.field 57 (.agg #[x0, x1]) 0).run Try.prog w = .ok (x0) w := by kernel_rfl
@[go_sem] theorem field_57_1 (w : World) (x0 x1 : Value) : (Instr.field 57 (.agg #[x0, x1]) 1).run Try.prog w = .ok (x1) w := by kernel_rfl
@[go_sem] theorem field_58_0 (w : World) (x0 x1 : Value) : (Instr.field 58 (.agg #[x0, x1]) 0).run Try.prog w = .ok (x0) w := by kernel_rfl
@[go_sem] theorem field_58_1 (w : World) (x0 x1 : Value) : (Instr.field 58 (.agg #[x0, x1]) 1).run Try.prog w = .ok (x1) w := by kernel_rfl
@[go_sem] theorem field_74_0 (w : World) (x0 x1 x2 : Value) : (Instr.field 74 (.agg #[x0, x1, x2]) 0).run Try.prog w = .ok (x0) w := by kernel_rfl
@[go_sem] theorem field_74_1 (w : World) (x0 x1 x2 : Value) : (Instr.field 74 (.agg #[x0, x1, x2]) 1).run Try.prog w = .ok (x1) w := by kernel_rfl
@[go_sem] theorem field_74_2 (w : World) (x0 x1 x2 : Value) : (Instr.field 74 (.agg #[x0, x1, x2]) 2).run Try.prog w = .ok (x2) w := by kernel_rfl
@[go_sem] theorem field_75_0 (w : World) (x0 x1 x2 : Value) : (Instr.field 75 (.agg #[x0, x1, x2]) 0).run Try.prog w = .ok (x0) w := by kernel_rfl
@[go_sem] theorem field_75_1 (w : World) (x0 x1 x2 : Value) : (Instr.field 75 (.agg #[x0, x1, x2]) 1).run Try.prog w = .ok (x1) w := by kernel_rfl
@[go_sem] theorem field_75_2 (w : World) (x0 x1 x2 : Value) : (Instr.field 75 (.agg #[x0, x1, x2]) 2).run Try.prog w = .ok (x2) w := by kernel_rfl
@[go_sem] theorem field_77_0 (w : World) (x0 x1 x2 : Value) : (Instr.field 77 (.agg #[x0, x1, x2]) 0).run Try.prog w = .ok (x0) w := by kernel_rfl
@[go_sem] theorem field_77_1 (w : World) (x0 x1 x2 : Value) : (Instr.field 77 (.agg #[x0, x1, x2]) 1).run Try.prog w = .ok (x1) w := by kernel_rfl
@[go_sem] theorem field_77_2 (w : World) (x0 x1 x2 : Value) : (Instr.field 77 (.agg #[x0, x1, x2]) 2).run Try.prog w = .ok (x2) w := by kernel_rfl
@[go_sem] theorem field_78_0 (w : World) (x0 x1 x2 : Value) : (Instr.field 78 (.agg #[x0, x1, x2]) 0).run Try.prog w = .ok (x0) w := by kernel_rfl
@[go_sem] theorem field_78_1 (w : World) (x0 x1 x2 : Value) : (Instr.field 78 (.agg #[x0, x1, x2]) 1).run Try.prog w = .ok (x1) w := by kernel_rfl
@[go_sem] theorem field_78_2 (w : World) (x0 x1 x2 : Value) : (Instr.field 78 (.agg #[x0, x1, x2]) 2).run Try.prog w = .ok (x2) w := by kernel_rfl
@[go_sem] theorem field_94_0 (w : World) (x0 x1 : Value) : (Instr.field 94 (.agg #[x0, x1]) 0).run Try.prog w = .ok (x0) w := by kernel_rfl
@[go_sem] theorem field_94_1 (w : World) (x0 x1 : Value) : (Instr.field 94 (.agg #[x0, x1]) 1).run Try.prog w = .ok (x1) w := by kernel_rfl
@[go_sem] theorem field_95_0 (w : World) (x0 x1 : Value) : (Instr.field 95 (.agg #[x0, x1]) 0).run Try.prog w = .ok (x0) w := by kernel_rfl
@[go_sem] theorem field_95_1 (w : World) (x0 x1 : Value) : (Instr.field 95 (.agg #[x0, x1]) 1).run Try.prog w = .ok (x1) w := by kernel_rfl
@[go_sem] theorem field_97_0 (w : World) (x0 x1 : Value) : (Instr.field 97 (.agg #[x0, x1]) 0).run Try.prog w = .ok (x0) w := by kernel_rfl
@[go_sem] theorem field_97_1 (w : World) (x0 x1 : Value) : (Instr.field 97 (.agg #[x0, x1]) 1).run Try.prog w = .ok (x1) w := by kernel_rfl
@[go_sem] theorem field_98_0 (w : World) (x0 x1 : Value) : (Instr.field 98 (.agg #[x0, x1]) 0).run Try.prog w = .ok (x0) w := by kernel_rfl
@[go_sem] theorem field_98_1 (w : World) (x0 x1 : Value) : (Instr.field 98 (.agg #[x0, x1]) 1).run Try.prog w = .ok (x1) w := by kernel_rfl
@[go_sem] theorem field_114_0 (w : World) (x0 x1 : Value) : (Instr.field 114 (.agg #[x0, x1]) 0).run Try.prog w = .ok (x0) w := by kernel_rfl
@[go_sem] theorem field_114_1 (w : World) (x0 x1 : Value) : (Instr.field 114 (.agg #[x0, x1]) 1).run Try.prog w = .ok (x1) w := by kernel_rfl
@[go_sem] theorem field_115_0 (w : World) (x0 x1 : Value) : (Instr.field 115 (.agg #[x0, x1]) 0).run Try.prog w = .ok (x0) w := by kernel_rfl
@[go_sem] theorem field_115_1 (w : World) (x0 x1 : Value) : (Instr.field 115 (.agg #[x0, x1]) 1).run Try.prog w = .ok (x1) w := by kernel_rfl
@[go_sem] theorem field_117_0 (w : World) (x0 x1 x2 : Value) : (Instr.field 117 (.agg #[x0, x1, x2]) 0).run Try.prog w = .ok (x0) w := by kernel_rfl
@[go_sem] theorem field_117_1 (w : World) (x0 x1 x2 : Value) : (Instr.field 117 (.agg #[x0, x1, x2]) 1).run Try.prog w = .ok (x1) w := by kernel_rfl
@[go_sem] theorem field_117_2 (w : World) (x0 x1 x2 : Value) : (Instr.field 117 (.agg #[x0, x1, x2]) 2).run Try.prog w = .ok (x2) w := by kernel_rfl
@[go_sem] theorem field_118_0 (w : World) (x0 x1 x2 : Value) : (Instr.field 118 (.agg #[x0, x1, x2]) 0).run Try.prog w = .ok (x0) w := by kernel_rfl
@[go_sem] theorem field_118_1 (w : World) (x0 x1 x2 : Value) : (Instr.field 118 (.agg #[x0, x1, x2]) 1).run Try.prog w = .ok (x1) w := by kernel_rfl
@[go_sem] theorem field_118_2 (w : World) (x0 x1 x2 : Value) : (Instr.field 118 (.agg #[x0, x1, x2]) 2).run Try.prog w = .ok (x2) w := by kernel_rfl
@[go_sem] theorem field_123_0 (w : World) (x0 x1 : Value) : (Instr.field 123 (.agg #[x0, x1]) 0).run Try.prog w = .ok (x0) w := by kernel_rfl
@[go_sem] theorem field_123_1 (w : World) (x0 x1 : Value) : (Instr.field 123 (.agg #[x0, x1]) 1).run Try.prog w = .ok (x1) w := by kernel_rfl
@[go_sem] theorem field_124_0 (w : World) (x0 x1 : Value) : (Instr.field 124 (.agg #[x0, x1]) 0).run Try.prog w = .ok (x0) w := by kernel_rfl
@[go_sem] theorem field_124_1 (w : World) (x0 x1 : Value) : (Instr.field 124 (.agg #[x0, x1]) 1).run Try.prog w = .ok (x1) w := by kernel_rfl
@[go_sem] theorem field_127_0 (w : World) (x0 x1 x2 x3 : Value) : (Instr.field 127 (.agg #[x0, x1, x2, x3]) 0).run Try.prog w = .ok (.agg #[x0, x1]) w := by kernel_rfl
@[go_sem] theorem field_127_1 (w : World) (x0 x1 x2 x3 : Value) : (Instr.field 127 (.agg #[x0, x1, x2, x3]) 1).run Try.prog w = .ok (x2) w := by kernel_rfl
@[go_sem] theorem field_127_2 (w : World) (x0 x1 x2 x3 : Value) : (Instr.field 127 (.agg #[x0, x1, x2, x3]) 2).run Try.prog w = .ok (x3) w := by kernel_rfl
@[go_sem] theorem field_128_0 (w : World) (x0 x1 x2 x3 : Value) : (Instr.field 128 (.agg #[x0, x1, x2, x3]) 0).run Try.prog w = .ok (.agg #[x0, x1]) w := by kernel_rfl
@[go_sem] theorem field_128_1 (w : World) (x0 x1 x2 x3 : Value) : (Instr.field 128 (.agg #[x0, x1, x2, x3]) 1).run Try.prog w = .ok (x2) w := by kernel_rfl
@[go_sem] theorem field_128_2 (w : World) (x0 x1 x2 x3 : Value) : (Instr.field 128 (.agg #[x0, x1, x2, x3]) 2).run Try.prog w = .ok (x3) w := by kernel_rfl
@[go_sem] theorem field_130_0 (w : World) (x0 x1 x2 x3 : Value) : (Instr.field 130 (.agg #[x0, x1, x2, x3]) 0).run Try.prog w = .ok (.agg #[x0, x1]) w := by kernel_rfl
@[go_sem] theorem field_130_1 (w : World) (x0 x1 x2 x3 : Value) : (Instr.field 130 (.agg #[x0, x1, x2, x3]) 1).run Try.prog w = .ok (x2) w := by kernel_rfl
@[go_sem] theorem field_130_2 (w : World) (x0 x1 x2 x3 : Value) : (Instr.field 130 (.agg #[x0, x1, x2, x3]) 2).run Try.prog w = .ok (x3) w := by kernel_rfl
@[go_sem] theorem field_133_0 (w : World) (x0 x1 : Value) : (Instr.field 133 (.agg #[x0, x1]) 0).run Try.prog w = .ok (x0) w := by kernel_rfl
@[go_sem] theorem field_133_1 (w : World) (x0 x1 : Value) : (Instr.field 133 (.agg #[x0, x1]) 1).run Try.prog w = .ok (x1) w := by kernel_rfl
@[go_sem] theorem field_134_0 (w : World) (x0 x1 : Value) : (Instr.field 134 (.agg #[x0, x1]) 0).run Try.prog w = .ok (x0) w := by kernel_rfl
@[go_sem] theorem field_134_1 (w : World) (x0 x1 : Value) : (Instr.field 134 (.agg #[x0, x1]) 1).run Try.prog w = .ok (x1) w := by kernel_rfl
@[go_sem] theorem field_141_0 (w : World) (x0 x1 x2 x3 x4 : Value) : (Instr.field 141 (.agg #[x0, x1, x2, x3, x4]) 0).run Try.prog w = .ok (.agg #[x0, x1, x2, x3]) w := by kernel_rfl
@[go_sem] theorem field_141_1 (w : World) (x0 x1 x2 x3 x4 : Value) : (Instr.field 141 (.agg #[x0, x1, x2, x3, x4]) 1).run Try.prog w = .ok (x4) w := by kernel_rfl
@[go_sem] theorem field_142_0 (w : World) (x0 x1 x2 x3 x4 : Value) : (Instr.field 142 (.agg #[x0, x1, x2, x3, x4]) 0).run Try.prog w = .ok (.agg #[x0, x1, x2, x3]) w := by kernel_rfl
@[go_sem] theorem field_142_1 (w : World) (x0 x1 x2 x3 x4 : Value) : (Instr.field 142 (.agg #[x0, x1, x2, x3, x4]) 1).run Try.prog w = .ok (x4) w := by kernel_rfl
@[go_sem] theorem field_146_0 (w : World) (x0 x1 x2 x3 : Value) : (Instr.field 146 (.agg #[x0, x1, x2, x3]) 0).run Try.prog w = .ok (x0) w := by kernel_rfl
@[go_sem] theorem field_146_1 (w : World) (x0 x1 x2 x3 : Value) : (Instr.field 146 (.agg #[x0, x1, x2, x3]) 1).run Try.prog w = .ok (x1) w := by kernel_rfl
@[go_sem] theorem field_146_2 (w : World) (x0 x1 x2 x3 : Value) : (Instr.field 146 (.agg #[x0, x1, x2, x3]) 2).run Try.prog w = .ok (x2) w := by kernel_rfl
@[go_sem] theorem field_146_3 (w : World) (x0 x1 x2 x3 : Value) : (Instr.field 146 (.agg #[x0, x1, x2, x3]) 3).run Try.prog w = .ok (x3) w := by kernel_rfl
@[go_sem] theorem field_147_0 (w : World) (x0 x1 x2 x3 : Value) : (Instr.field 147 (.agg #[x0, x1, x2, x3]) 0).run Try.prog w = .ok (x0) w := by kernel_rfl
@[go_sem] theorem field_147_1 (w : World) (x0 x1 x2 x3 : Value) : (Instr.field 147 (.agg #[x0, x1, x2, x3]) 1).run Try.prog w = .ok (x1) w := by kernel_rfl
@[go_sem] theorem field_147_2 (w : World) (x0 x1 x2 x3 : Value) : (Instr.field 147 (.agg #[x0, x1, x2, x3]) 2).run Try.prog w = .ok (x2) w := by kernel_rfl
@[go_sem] theorem field_147_3 (w : World) (x0 x1 x2 x3 : Value) : (Instr.field 147 (.agg #[x0, x1, x2, x3]) 3).run Try.prog w = .ok (x3) w := by kernel_rfl
@[go_sem] theorem field_149_0 (w : World) (x0 x1 x2 : Value) : (Instr.field 149 (.agg #[x0, x1, x2]) 0).run Try.prog w = .ok (x0) w := by kernel_rfl
@[go_sem] theorem field_149_1 (w : World) (x0 x1 x2 : Value) : (Instr.field 149 (.agg #[x0, x1, x2]) 1).run Try.prog w = .ok (x1) w := by kernel_rfl
@[go_sem] theorem field_149_2 (w : World) (x0 x1 x2 : Value) : (Instr.field 149 (.agg #[x0, x1, x2]) 2).run Try.prog w = .ok (x2) w := by kernel_rfl
@[go_sem] theorem field_150_0 (w : World) (x0 x1 x2 : Value) : (Instr.field 150 (.agg #[x0, x1, x2]) 0).run Try.prog w = .ok (x0) w := by kernel_rfl
@[go_sem] theorem field_150_1 (w : World) (x0 x1 x2 : Value) : (Instr.field 150 (.agg #[x0, x1, x2]) 1).run Try.prog w = .ok (x1) w := by kernel_rfl
@[go_sem] theorem field_150_2 (w : World) (x0 x1 x2 : Value) : (Instr.field 150 (.agg #[x0, x1, x2]) 2).run Try.prog w = .ok (x2) w := by kernel_rfl
@[go_sem] theorem field_157_0 (w : World) (x0 x1 x2 : Value) : (Instr.field 157 (.agg #[x0, x1, x2]) 0).run Try.prog w = .ok (x0) w := by kernel_rfl
@[go_sem] theorem field_157_1 (w : World) (x0 x1 x2 : Value) : (Instr.field 157 (.agg #[x0, x1, x2]) 1).run Try.prog w = .ok (x1) w := by kernel_rfl
@[go_sem] theorem field_157_2 (w : World) (x0 x1 x2 : Value) : (Instr.field 157 (.agg #[x0, x1, x2]) 2).run Try.prog w = .ok (x2) w := by kernel_rfl
@[go_sem] theorem field_158_0 (w : World) (x0 x1 x2 : Value) : (Instr.field 158 (.agg #[x0, x1, x2]) 0).run Try.prog w = .ok (x0) w := by kernel_rfl
@[go_sem] theorem field_158_1 (w : World) (x0 x1 x2 : Value) : (Instr.field 158 (.agg #[x0, x1, x2]) 1).run Try.prog w = .ok (x1) w := by kernel_rfl
@[go_sem] theorem field_158_2 (w : World) (x0 x1 x2 : Value) : (Instr.field 158 (.agg #[x0, x1, x2]) 2).run Try.prog w = .ok (x2) w := by kernel_rfl
@[go_sem] theorem field_159_0 (w : World) (x0 x1 x2 : Value) : (Instr.field 159 (.agg #[x0, x1, x2]) 0).run Try.prog w = .ok (.agg #[x0, x1, x2]) w := by kernel_rfl
@[go_sem] theorem field_160_0 (w : World) (x0 x1 x2 : Value) : (Instr.field 160 (.agg #[x0, x1, x2]) 0).run Try.prog w = .ok (.agg #[x0, x1, x2]) w := by kernel_rfl
@[go_sem] theorem field_186_0 (w : World) (x0 x1 x2 x3 x4 : Value) : (Instr.field 186 (.agg #[x0, x1, x2, x3, x4]) 0).run Try.prog w = .ok (x0) w := by kernel_rfl
@[go_sem] theorem field_186_1 (w : World) (x0 x1 x2 x3 x4 : Value) : (Instr.field 186 (.agg #[x0, x1, x2, x3, x4]) 1).run Try.prog w = .ok (x1) w := by kernel_rfl
@[go_sem] theorem field_186_2 (w : World) (x0 x1 x2 x3 x4 : Value) : (Instr.field 186 (.agg #[x0, x1, x2, x3, x4]) 2).run Try.prog w = .ok (x2) w := by kernel_rfl
@[go_sem] theorem field_186_3 (w : World) (x0 x1 x2 x3 x4 : Value) : (Instr.field 186 (.agg #[x0, x1, x2, x3, x4]) 3).run Try.prog w = .ok (x3) w := by kernel_rfl
@[go_sem] theorem field_186_4 (w : World) (x0 x1 x2 x3 x4 : Value) : (Instr.field 186 (.agg #[x0, x1, x2, x3, x4]) 4).run Try.prog w = .ok (x4) w := by kernel_rfl
@[go_sem] theorem field_187_0 (w : World) (x0 x1 x2 x3 x4 : Value) : (Instr.field 187 (.agg #[x0, x1, x2, x3, x4]) 0).run Try.prog w = .ok (x0) w := by kernel_rfl
@[go_sem] theorem field_187_1 (w : World) (x0 x1 x2 x3 x4 : Value) : (Instr.field 187 (.agg #[x0, x1, x2, x3, x4]) 1).run Try.prog w = .ok (x1) w := by kernel_rfl
@[go_sem] theorem field_187_2 (w : World) (x0 x1 x2 x3 x4 : Value) : (Instr.field 187 (.agg #[x0, x1, x2, x3, x4]) 2).run Try.prog w = .ok (x2) w := by kernel_rfl
@[go_sem] theorem field_187_3 (w : World) (x0 x1 x2 x3 x4 : Value) : (Instr.field 187 (.agg #[x0, x1, x2, x3, x4]) 3).run Try.prog w = .ok (x3) w := by kernel_rfl
@[go_sem] theorem field_187_4 (w : World) (x0 x1 x2 x3 x4 : Value) : (Instr.field 187 (.agg #[x0, x1, x2, x3, x4]) 4).run Try.prog w = .ok (x4) w := by kernel_rfl
@[go_sem] theorem field_188_0 (w : World) (x0 x1 x2 x3 x4 : Value) : (Instr.field 188 (.agg #[x0, x1, x2, x3, x4]) 0).run Try.prog w = .ok (x0) w := by kernel_rfl
@[go_sem] theorem field_188_1 (w : World) (x0 x1 x2 x3 x4 : Value) : (Instr.field 188 (.agg #[x0, x1, x2, x3, x4]) 1).run Try.prog w = .ok (x1) w := by kernel_rfl
@[go_sem] theorem field_188_2 (w : World) (x0 x1 x2 x3 x4 : Value) : (Instr.field 188 (.agg #[x0, x1, x2, x3, x4]) 2).run Try.prog w = .ok (x2) w := by kernel_rfl
@[go_sem] theorem field_188_3 (w : World) (x0 x1 x2 x3 x4 : Value) : (Instr.field 188 (.agg #[x0, x1, x2, x3, x4]) 3).run Try.prog w = .ok (x3) w := by kernel_rfl
@[go_sem] theorem field_188_4 (w : World) (x0 x1 x2 x3 x4 : Value) : (Instr.field 188 (.agg #[x0, x1, x2, x3, x4]) 4).run Try.prog w = .ok (x4) w := by kernel_rfl
@[go_sem] theorem field_189_0 (w : World) (x0 x1 x2 x3 x4 : Value) : (Instr.field 189 (.agg #[x0, x1, x2, x3, x4]) 0).run Try.prog w = .ok (x0) w := by kernel_rfl
@[go_sem] theorem field_189_1 (w : World) (x0 x1 x2 x3 x4 : Value) : (Instr.field 189 (.agg #[x0, x1, x2, x3, x4]) 1).run Try.prog w = .ok (x1) w := by kernel_rfl
@[go_sem] theorem field_189_2 (w : World) (x0 x1 x2 x3 x4 : Value) : (Instr.field 189 (.agg #[x0, x1, x2, x3, x4]) 2).run Try.prog w = .ok (x2) w := by kernel_rfl
@[go_sem] theorem field_189_3 (w : World) (x0 x1 x2 x3 x4 : Value) : (Instr.field 189 (.agg #[x0, x1, x2, x3, x4]) 3).run Try.prog w = .ok (x3) w := by kernel_rfl
@[go_sem] theorem field_189_4 (w : World) (x0 x1 x2 x3 x4 : Value) : (Instr.field 189 (.agg #[x0, x1, x2, x3, x4]) 4).run Try.prog w = .ok (x4) w := by kernel_rfl
@[go_sem] theorem field_196_0 (w : World) (x0 x1 x2 : Value) : (Instr.field 196 (.agg #[x0, x1, x2]) 0).run Try.prog w = .ok (x0) w := by kernel_rfl
@[go_sem] theorem field_196_1 (w : World) (x0 x1 x2 : Value) : (Instr.field 196 (.agg #[x0, x1, x2]) 1).run Try.prog w = .ok (x1) w := by kernel_rfl
@[go_sem] theorem field_196_2 (w : World) (x0 x1 x2 : Value) : (Instr.field 196 (.agg #[x0, x1, x2]) 2).run Try.prog w = .ok (x2) w := by kernel_rfl
@[go_sem] theorem field_197_0 (w : World) (x0 x1 x2 : Value) : (Instr.field 197 (.agg #[x0, x1, x2]) 0).run Try.prog w = .ok (x0) w := by kernel_rfl
@[go_sem] theorem field_197_1 (w : World) (x0 x1 x2 : Value) : (Instr.field 197 (.agg #[x0, x1, x2]) 1).run Try.prog w = .ok (x1) w := by kernel_rfl
@[go_sem] theorem field_197_2 (w : World) (x0 x1 x2 : Value) : (Instr.field 197 (.agg #[x0, x1, x2]) 2).run Try.prog w = .ok (x2) w := by kernel_rfl
@[go_sem] theorem field_205_0 (w : World) (x0 x1 : Value) : (Instr.field 205 (.agg #[x0, x1]) 0).run Try.prog w = .ok (x0) w := by kernel_rfl
@[go_sem] theorem field_205_1 (w : World) (x0 x1 : Value) : (Instr.field 205 (.agg #[x0, x1]) 1).run Try.prog w = .ok (x1) w := by kernel_rfl
@[go_sem] theorem field_206_0 (w : World) (x0 x1 : Value) : (Instr.field 206 (.agg #[x0, x1]) 0).run Try.prog w = .ok (x0) w := by kernel_rfl
@[go_sem] theorem field_206_1 (w : World) (x0 x1 : Value) : (Instr.field 206 (.agg #[x0, x1]) 1).run Try.prog w = .ok (x1) w := by kernel_rfl
@[go_sem] theorem field_221_0 (w : World) (x0 x1 x2 x3 : Value) : (Instr.field 221 (.agg #[x0, x1, x2, x3]) 0).run Try.prog w = .ok (x0) w := by kernel_rfl
@[go_sem] theorem field_221_1 (w : World) (x0 x1 x2 x3 : Value) : (Instr.field 221 (.agg #[x0, x1, x2, x3]) 1).run Try.prog w = .ok (x1) w := by kernel_rfl
@[go_sem] theorem field_221_2 (w : World) (x0 x1 x2 x3 : Value) : (Instr.field 221 (.agg #[x0, x1, x2, x3]) 2).run Try.prog w = .ok (x2) w := by kernel_rfl
@[go_sem] theorem field_221_3 (w : World) (x0 x1 x2 x3 : Value) : (Instr.field 221 (.agg #[x0, x1, x2, x3]) 3).run Try.prog w = .ok (x3) w := by kernel_rfl
@[go_sem] theorem field_222_0 (w : World) (x0 x1 x2 x3 : Value) : (Instr.field 222 (.agg #[x0, x1, x2, x3]) 0).run Try.prog w = .ok (x0) w := by kernel_rfl
@[go_sem] theorem field_222_1 (w : World) (x0 x1 x2 x3 : Value) : (Instr.field 222 (.agg #[x0, x1, x2, x3]) 1).run Try.prog w = .ok (x1) w := by kernel_rfl
@[go_sem] theorem field_222_2 (w : World) (x0 x1 x2 x3 : Value) : (Instr.field 222 (.agg #[x0, x1, x2, x3]) 2).run Try.prog w = .ok (x2) w := by kernel_rfl
@[go_sem] theorem field_222_3 (w : World) (x0 x1 x2 x3 : Value) : (Instr.field 222 (.agg #[x0, x1, x2, x3]) 3).run Try.prog w = .ok (x3) w := by kernel_rfl
@[go_sem] theorem field_224_0 (w : World) (x0 x1 x2 x3 x4 x5 x6 : Value) : (Instr.field 224 (.agg #[x0, x1, x2, x3, x4, x5, x6]) 0).run Try.prog w = .ok (.agg #[x0, x1, x2, x3, x4]) w := by kernel_rfl
@[go_sem] theorem field_224_1 (w : World) (x0 x1 x2 x3 x4 x5 x6 : Value) : (Instr.field 224 (.agg #[x0, x1, x2, x3, x4, x5, x6]) 1).run Try.prog w = .ok (x5) w := by kernel_rfl
@[go_sem] theorem field_224_2 (w : World) (x0 x1 x2 x3 x4 x5 x6 : Value) : (Instr.field 224 (.agg #[x0, x1, x2, x3, x4, x5, x6]) 2).run Try.prog w = .ok (x6) w := by kernel_rfl
@[go_sem] theorem field_225_0 (w : World) (x0 x1 x2 x3 x4 x5 x6 : Value) : (Instr.field 225 (.agg #[x0, x1, x2, x3, x4, x5, x6]) 0).run Try.prog w = .ok (.agg #[x0, x1, x2, x3, x4]) w := by kernel_rfl
@[go_sem] theorem field_225_1 (w : World) (x0 x1 x2 x3 x4 x5 x6 : Value) : (Instr.field 225 (.agg #[x0, x1, x2, x3, x4, x5, x6]) 1).run Try.prog w = .ok (x5) w := by kernel_rfl
@[go_sem] theorem field_225_2 (w : World) (x0 x1 x2 x3 x4 x5 x6 : Value) : (Instr.field 225 (.agg #[x0, x1, x2, x3, x4, x5, x6]) 2).run Try.prog w = .ok (x6) w := by kernel_rfl
@[go_sem] theorem field_231_0 (w : World) (x0 x1 x2 x3 : Value) : (Instr.field 231 (.agg #[x0, x1, x2, x3]) 0).run Try.prog w = .ok (x0) w := by kernel_rfl
@[go_sem] theorem field_231_1 (w : World) (x0 x1 x2 x3 : Value) : (Instr.field 231 (.agg #[x0, x1, x2, x3]) 1).run Try.prog w = .ok (x1) w := by kernel_rfl
@[go_sem] theorem field_231_2 (w : World) (x0 x1 x2 x3 : Value) : (Instr.field 231 (.agg #[x0, x1, x2, x3]) 2).run Try.prog w = .ok (x2) w := by kernel_rfl
@[go_sem] theorem field_231_3 (w : World) (x0 x1 x2 x3 : Value) : (Instr.field 231 (.agg #[x0, x1, x2, x3]) 3).run Try.prog w = .ok (x3) w := by kernel_rfl
@[go_sem] theorem field_243_0 (w : World) (x0 x1 x2 x3 x4 x5 x6 x7 x8 x9 x10 : Value) : (Instr.field 243 (.agg #[x0, x1, x2, x3, x4, x5, x6, x7, x8, x9, x10]) 0).run Try.prog w = .ok (x0) w := by kernel_rfl
@[go_sem] theorem field_243_1 (w : World) (x0 x1 x2 x3 x4 x5 x6 x7 x8 x9 x10 : Value) : (Instr.field 243 (.agg #[x0, x1, x2, x3, x4, x5, x6, x7, x8, x9, x10]) 1).run Try.prog w = .ok (x1) w := by kernel_rfl
@[go_sem] theorem field_243_2 (w : World) (x0 x1 x2 x3 x4 x5 x6 x7 x8 x9 x10 : Value) : (Instr.field 243 (.agg #[x0, x1, x2, x3, x4, x5, x6, x7, x8, x9, x10]) 2).run Try.prog w = .ok (x2) w := by kernel_rfl
@[go_sem] theorem field_243_3 (w : World) (x0 x1 x2 x3 x4 x5 x6 x7 x8 x9 x10 : Value) : (Instr.field 243 (.agg #[x0, x1, x2, x3, x4, x5, x6, x7, x8, x9, x10]) 3).run Try.prog w = .ok (x3) w := by kernel_rfl
@[go_sem] theorem field_243_4 (w : World) (x0 x1 x2 x3 x4 x5 x6 x7 x8 x9 x10 : Value) : (Instr.field 243 (.agg #[x0, x1, x2, x3, x4, x5, x6, x7, x8, x9, x10]) 4).run Try.prog w = .ok (x4) w := by kernel_rfl
@[go_sem] theorem field_243_5 (w : World) (x0 x1 x2 x3 x4 x5 x6 x7 x8 x9 x10 : Value) : (Instr.field 243 (.agg #[x0, x1, x2, x3, x4, x5, x6, x7, x8, x9, x10]) 5).run Try.prog w = .ok (x5) w := by kernel_rfl
@[go_sem] theorem field_243_6 (w : World) (x0 x1 x2 x3 x4 x5 x6 x7 x8 x9 x10 : Value) : (Instr.field 243 (.agg #[x0, x1, x2, x3, x4, x5, x6, x7, x8, x9, x10]) 6).run Try.prog w = .ok (x6) w := by kernel_rfl
@[go_sem] theorem field_243_7 (w : World) (x0 x1 x2 x3 x4 x5 x6 x7 x8 x9 x10 : Value) : (Instr.field 243 (.agg #[x0, x1, x2, x3, x4, x5, x6, x7, x8, x9, x10]) 7).run Try.prog w = .ok (x7) w := by kernel_rfl
@[go_sem] theorem field_243_8 (w : World) (x0 x1 x2 x3 x4 x5 x6 x7 x8 x9 x10 : Value) : (Instr.field 243 (.agg #[x0, x1, x2, x3, x4, x5, x6, x7, x8, x9, x10]) 8).run Try.prog w = .ok (x8) w := by kernel_rfl
@[go_sem] theorem field_243_9 (w : World) (x0 x1 x2 x3 x4 x5 x6 x7 x8 x9 x10 : Value) : (Instr.field 243 (.agg #[x0, x1, x2, x3, x4, x5, x6, x7, x8, x9, x10]) 9).run Try.prog w = .ok (x9) w := by kernel_rfl
@[go_sem] theorem field_243_10 (w : World) (x0 x1 x2 x3 x4 x5 x6 x7 x8 x9 x10 : Value) : (Instr.field 243 (.agg #[x0, x1, x2, x3, x4, x5, x6, x7, x8, x9, x10]) 10).run Try.prog w = .ok (x10) w := by kernel_rfl
@[go_sem] theorem field_244_0 (w : World) (x0 x1 x2 x3 x4 x5 x6 x7 x8 x9 x10 : Value) : (Instr.field 244 (.agg #[x0, x1, x2, x3, x4, x5, x6, x7, x8, x9, x10]) 0).run Try.prog w = .ok (x0) w := by kernel_rfl
@[go_sem] theorem field_244_1 (w : World) (x0 x1 x2 x3 x4 x5 x6 x7 x8 x9 x10 : Value) : (Instr.field 244 (.agg #[x0, x1, x2, x3, x4, x5, x6, x7, x8, x9, x10]) 1).run Try.prog w = .ok (x1) w := by kernel_rfl
@[go_sem] theorem field_244_2 (w : World) (x0 x1 x2 x3 x4 x5 x6 x7 x8 x9 x10 : Value) : (Instr.field 244 (.agg #[x0, x1, x2, x3, x4, x5, x6, x7, x8, x9, x10]) 2).run Try.prog w = .ok (x2) w := by kernel_rfl
@[go_sem] theorem field_244_3 (w : World) (x0 x1 x2 x3 x4 x5 x6 x7 x8 x9 x10 : Value) : (Instr.field 244 (.agg #[x0, x1, x2, x3, x4, x5, x6, x7, x8, x9, x10]) 3).run Try.prog w = .ok (x3) w := by kernel_rfl
@[go_sem] theorem field_244_4 (w : World) (x0 x1 x2 x3 x4 x5 x6 x7 x8 x9 x10 : Value) : (Instr.field 244 (.agg #[x0, x1, x2, x3, x4, x5, x6, x7, x8, x9, x10]) 4).run Try.prog w = .ok (x4) w := by kernel_rfl
@[go_sem] theorem field_244_5 (w : World) (x0 x1 x2 x3 x4 x5 x6 x7 x8 x9 x10 : Value) : (Instr.field 244 (.agg #[x0, x1, x2, x3, x4, x5, x6, x7, x8, x9, x10]) 5).run Try.prog w = .ok (x5) w := by kernel_rfl
@[go_sem] theorem field_244_6 (w : World) (x0 x1 x2 x3 x4 x5 x6 x7 x8 x9 x10 : Value) : (Instr.field 244 (.agg #[x0, x1, x2, x3, x4, x5, x6, x7, x8, x9, x10]) 6).run Try.prog w = .ok (x6) w := by kernel_rfl
@[go_sem] theorem field_244_7 (w : World) (x0 x1 x2 x3 x4 x5 x6 x7 x8 x9 x10 : Value) : (Instr.field 244 (.agg #[x0, x1, x2, x3, x4, x5, x6, x7, x8, x9, x10]) 7).run Try.prog w = .ok (x7) w := by kernel_rfl
@[go_sem] theorem field_244_8 (w : World) (x0 x1 x2 x3 x4 x5 x6 x7 x8 x9 x10 : Value) : (Instr.field 244 (.agg #[x0, x1, x2, x3, x4, x5, x6, x7, x8, x9, x10]) 8).run Try.prog w = .ok (x8) w := by kernel_rfl
@[go_sem] theorem field_244_9 (w : World) (x0 x1 x2 x3 x4 x5 x6 x7 x8 x9 x10 : Value) : (Instr.field 244 (.agg #[x0, x1, x2, x3, x4, x5, x6, x7, x8, x9, x10]) 9).run Try.prog w = .ok (x9) w := by kernel_rfl
@[go_sem] theorem field_244_10 (w : World) (x0 x1 x2 x3 x4 x5 x6 x7 x8 x9 x10 : Value) : (Instr.field 244 (.agg #[x0, x1, x2, x3, x4, x5, x6, x7, x8, x9, x10]) 10).run Try.prog w = .ok (x10) w := by kernel_rfl
end Go.Proofs.Ytmkbinbggiocaaa
