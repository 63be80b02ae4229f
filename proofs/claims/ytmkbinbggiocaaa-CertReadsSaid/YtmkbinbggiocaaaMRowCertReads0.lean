/- What reading a field of a struct value gives: one row a field (written by gen_fields.py). Frame and block words that the walks of this seat share: which blocks a call may have changed, and what a block holds. More small words on blocks that a call has made. Plain facts on lists of values that are laid one behind the other, each as equally many cells. What an argument's reading as data says of the cells: slices of structs, of numbers; and the step from a walk to a law's row. A slice that is read, wherever it begins, empty ones with whatever address let in; append from it. Arguments read: slices of one-cell elements with a property, structs by value. Numbers as bytes: bytes.Clone, code.Nat. Reading numbers that stand as bytes: the plain law. The reference's way to read a number, against the program's: the plain law. Sets as bytes, as plain lists: the byte of eight numbers is the sum of its bits; rising numbers never meet a bit twice. -/
import Derived.Test.YtmkbinbggiocaaaRows
import Derived.WalkKit
import Derived.WalkSpells
import Derived.WalkLawsBesides
import Derived.Deep.QuietTactic
import Derived.BigQuiet
import Derived.Lib.Hide
import Derived.Maps.AppendAt
import Derived.Deep.OwnRows
import Derived.Deep.AppendLies
import Derived.Laws.AppendOwnNone
import Derived.ProofKit
import Derived.OpenShut
import Derived.ShutString
import Derived.ChangeOld
import Derived.Below
import Derived.Deep.Slices
import Derived.Deep.Fields
import Derived.ChangeSame
set_option linter.unusedVariables false
namespace Go.Proofs.Ytmkbinbggiocaaa
@[go_sem] theorem field_7_0 (w : World) (x0 x1 x2 x3 : Value) : (Instr.field 7 (.agg #[x0, x1, x2, x3]) 0).run Try.prog w = .ok (x0) w := by kernel_rfl
@[go_sem] theorem field_7_1 (w : World) (x0 x1 x2 x3 : Value) : (Instr.field 7 (.agg #[x0, x1, x2, x3]) 1).run Try.prog w = .ok (x1) w := by kernel_rfl
@[go_sem] theorem field_7_2 (w : World) (x0 x1 x2 x3 : Value) : (Instr.field 7 (.agg #[x0, x1, x2, x3]) 2).run Try.prog w = .ok (x2) w := by kernel_rfl
@[go_sem] theorem field_7_3 (w : World) (x0 x1 x2 x3 : Value) : (Instr.field 7 (.agg #[x0, x1, x2, x3]) 3).run Try.prog w = .ok (x3) w := by kernel_rfl
@[go_sem] theorem field_13_0 (w : World) (x0 x1 : Value) : (Instr.field 13 (.agg #[x0, x1]) 0).run Try.prog w = .ok (x0) w := by kernel_rfl
@[go_sem] theorem field_13_1 (w : World) (x0 x1 : Value) : (Instr.field 13 (.agg #[x0, x1]) 1).run Try.prog w = .ok (x1) w := by kernel_rfl
@[go_sem] theorem field_18_0 (w : World) (x0 : Value) : (Instr.field 18 (.agg #[x0]) 0).run Try.prog w = .ok (x0) w := by kernel_rfl
@[go_sem] theorem field_19_0 (w : World) (x0 : Value) : (Instr.field 19 (.agg #[x0]) 0).run Try.prog w = .ok (x0) w := by kernel_rfl
@[go_sem] theorem field_28_0 (w : World) (x0 x1 x2 : Value) : (Instr.field 28 (.agg #[x0, x1, x2]) 0).run Try.prog w = .ok (x0) w := by kernel_rfl
@[go_sem] theorem field_28_1 (w : World) (x0 x1 x2 : Value) : (Instr.field 28 (.agg #[x0, x1, x2]) 1).run Try.prog w = .ok (x1) w := by kernel_rfl
@[go_sem] theorem field_28_2 (w : World) (x0 x1 x2 : Value) : (Instr.field 28 (.agg #[x0, x1, x2]) 2).run Try.prog w = .ok (x2) w := by kernel_rfl
@[go_sem] theorem field_29_0 (w : World) (x0 x1 x2 : Value) : (Instr.field 29 (.agg #[x0, x1, x2]) 0).run Try.prog w = .ok (x0) w := by kernel_rfl
@[go_sem] theorem field_29_1 (w : World) (x0 x1 x2 : Value) : (Instr.field 29 (.agg #[x0, x1, x2]) 1).run Try.prog w = .ok (x1) w := by kernel_rfl
@[go_sem] theorem field_29_2 (w : World) (x0 x1 x2 : Value) : (Instr.field 29 (.agg #[x0, x1, x2]) 2).run Try.prog w = .ok (x2) w := by kernel_rfl
@[go_sem] theorem field_30_0 (w : World) (x0 x1 : Value) : (Instr.field 30 (.agg #[x0, x1]) 0).run Try.prog w = .ok (x0) w := by kernel_rfl
@[go_sem] theorem field_30_1 (w : World) (x0 x1 : Value) : (Instr.field 30 (.agg #[x0, x1]) 1).run Try.prog w = .ok (x1) w := by kernel_rfl
@[go_sem] theorem field_31_0 (w : World) (x0 x1 : Value) : (Instr.field 31 (.agg #[x0, x1]) 0).run Try.prog w = .ok (x0) w := by kernel_rfl
@[go_sem] theorem field_31_1 (w : World) (x0 x1 : Value) : (Instr.field 31 (.agg #[x0, x1]) 1).run Try.prog w = .ok (x1) w := by kernel_rfl
@[go_sem] theorem field_40_0 (w : World) (x0 x1 x2 x3 : Value) : (Instr.field 40 (.agg #[x0, x1, x2, x3]) 0).run Try.prog w = .ok (x0) w := by kernel_rfl
@[go_sem] theorem field_40_1 (w : World) (x0 x1 x2 x3 : Value) : (Instr.field 40 (.agg #[x0, x1, x2, x3]) 1).run Try.prog w = .ok (x1) w := by kernel_rfl
@[go_sem] theorem field_40_2 (w : World) (x0 x1 x2 x3 : Value) : (Instr.field 40 (.agg #[x0, x1, x2, x3]) 2).run Try.prog w = .ok (x2) w := by kernel_rfl
@[go_sem] theorem field_40_3 (w : World) (x0 x1 x2 x3 : Value) : (Instr.field 40 (.agg #[x0, x1, x2, x3]) 3).run Try.prog w = .ok (x3) w := by kernel_rfl
@[go_sem] theorem field_41_0 (w : World) (x0 x1 x2 x3 : Value) : (Instr.field 41 (.agg #[x0, x1, x2, x3]) 0).run Try.prog w = .ok (x0) w := by kernel_rfl
@[go_sem] theorem field_41_1 (w : World) (x0 x1 x2 x3 : Value) : (Instr.field 41 (.agg #[x0, x1, x2, x3]) 1).run Try.prog w = .ok (x1) w := by kernel_rfl
@[go_sem] theorem field_41_2 (w : World) (x0 x1 x2 x3 : Value) : (Instr.field 41 (.agg #[x0, x1, x2, x3]) 2).run Try.prog w = .ok (x2) w := by kernel_rfl
@[go_sem] theorem field_41_3 (w : World) (x0 x1 x2 x3 : Value) : (Instr.field 41 (.agg #[x0, x1, x2, x3]) 3).run Try.prog w = .ok (x3) w := by kernel_rfl
@[go_sem] theorem field_47_0 (w : World) (x0 x1 x2 : Value) : (Instr.field 47 (.agg #[x0, x1, x2]) 0).run Try.prog w = .ok (x0) w := by kernel_rfl
@[go_sem] theorem field_47_1 (w : World) (x0 x1 x2 : Value) : (Instr.field 47 (.agg #[x0, x1, x2]) 1).run Try.prog w = .ok (x1) w := by kernel_rfl
@[go_sem] theorem field_47_2 (w : World) (x0 x1 x2 : Value) : (Instr.field 47 (.agg #[x0, x1, x2]) 2).run Try.prog w = .ok (x2) w := by kernel_rfl
@[go_sem] theorem field_48_0 (w : World) (x0 x1 x2 : Value) : (Instr.field 48 (.agg #[x0, x1, x2]) 0).run Try.prog w = .ok (x0) w := by kernel_rfl
@[go_sem] theorem field_48_1 (w : World) (x0 x1 x2 : Value) : (Instr.field 48 (.agg #[x0, x1, x2]) 1).run Try.prog w = .ok (x1) w := by kernel_rfl
@[go_sem] theorem field_48_2 (w : World) (x0 x1 x2 : Value) : (Instr.field 48 (.agg #[x0, x1, x2]) 2).run Try.prog w = .ok (x2) w := by kernel_rfl
@[go_sem] theorem field_57_0 (w : World) (x0 x1 : Value) : (Instr.field 57 (.agg #[x0, x1]) 0).run Try.prog w = .ok (x0) w := by kernel_rfl
@[go_sem] theorem field_57_1 (w : World) (x0 x1 : Value) : (Instr.field 57 (.agg #[x0, x1]) 1).run Try.prog w = .ok (x1) w := by kernel_rfl
@[go_sem] theorem field_58_0 (w : World) (x0 x1 : Value) : (Instr.field 58 (.agg #[x0, x1]) 0).run Try.prog w = .ok (x0) w := by kernel_rfl
@[go_sem] theorem field_58_1 (w : World) (x0 x1 : Value) : (Instr.field 58 (.agg #[x0, x1]) 1).run Try.prog w = .ok (x1) w := by kernel_rfl
@[go_sem] theorem field_74_0 (w : World) (x0 x1 x2 : Value) : (Instr.field 74 (.agg #[x0, x1, x2]) 0).run Try.prog w = .ok (x0) w := by kernel_rfl
@[go_sem] theorem field_74_1 (w : World) (x0 x1 x2 : Value) : (Instr.field 74 (.agg #[x0, x1, x2]) 1).run Try.prog w = .ok (x1) w := by kernel_rfl
@[go_sem] theorem field_74_2 (w : World) (x0 x1 x2 : Value) : (Instr.field 74 (.agg #[x0, x1, x2]) 2).run Try.prog w = .ok (x2) w := by kernel_rfl
@[go_sem] theorem field_75_0 (w : World) (x0 x1 x2 : Value) : (Instr.field 75 (.agg #[x0, x1, x2]) 0).run Try.prog w = .ok (x0) w := by kernel_rfl
@[go_sem] theorem field_75_1 (w : World) (x0 x1 x2 : Value) : (Instr.field 75 (.agg #[x0, x1, x2]) 1).run Try.prog w = .ok (x1) w := by kernel_rfl
@[go_sem] theorem field_75_2 (w : World) (x0 x1 x2 : Value) : (Instr.field 75 (.agg #[x0, x1, x2]) 2).run Try.prog w = .ok (x2) w := by kernel_rfl
@[go_sem] theorem field_77_0 (w : World) (x0 x1 x2 : Value) : (Instr.field 77 (.agg #[x0, x1, x2]) 0).run Try.prog w = .ok (x0) w := by kernel_rfl
@[go_sem] theorem field_77_1 (w : World) (x0 x1 x2 : Value) : (Instr.field 77 (.agg #[x0, x1, x2]) 1).run Try.prog w = .ok (x1) w := by kernel_rfl
@[go_sem] theorem field_77_2 (w : World) (x0 x1 x2 : Value) : (Instr.field 77 (.agg #[x0, x1, x2]) 2).run Try.prog w = .ok (x2) w := by kernel_rfl
@[go_sem] theorem field_78_0 (w : World) (x0 x1 x2 : Value) : (Instr.field 78 (.agg #[x0, x1, x2]) 0).run Try.prog w = .ok (x0) w := by kernel_rfl
@[go_sem] theorem field_78_1 (w : World) (x0 x1 x2 : Value) : (Instr.field 78 (.agg #[x0, x1, x2]) 1).run Try.prog w = .ok (x1) w := by kernel_rfl
@[go_sem] theorem field_78_2 (w : World) (x0 x1 x2 : Value) : (Instr.field 78 (.agg #[x0, x1, x2]) 2).run Try.prog w = .ok (x2) w := by kernel_rfl
@[go_sem] theorem field_94_0 (w : World) (x0 x1 : Value) : (Instr.field 94 (.agg #[x0, x1]) 0).run Try.prog w = .ok (x0) w := by kernel_rfl
@[go_sem] theorem field_94_1 (w : World) (x0 x1 : Value) : (Instr.field 94 (.agg #[x0, x1]) 1).run Try.prog w = .ok (x1) w := by kernel_rfl
@[go_sem] theorem field_95_0 (w : World) (x0 x1 : Value) : (Instr.field 95 (.agg #[x0, x1]) 0).run Try.prog w = .ok (x0) w := by kernel_rfl
@[go_sem] theorem field_95_1 (w : World) (x0 x1 : Value) : (Instr.field 95 (.agg #[x0, x1]) 1).run Try.prog w = .ok (x1) w := by kernel_rfl
@[go_sem] theorem field_97_0 (w : World) (x0 x1 : Value) : (Instr.field 97 (.agg #[x0, x1]) 0).run Try.prog w = .ok (x0) w := by kernel_rfl
@[go_sem] theorem field_97_1 (w : World) (x0 x1 : Value) : (Instr.field 97 (.agg #[x0, x1]) 1).run Try.prog w = .ok (x1) w := by kernel_rfl
@[go_sem] theorem field_98_0 (w : World) (x0 x1 : Value) : (Instr.field 98 (.agg #[x0, x1]) 0).run Try.prog w = .ok (x0) w := by kernel_rfl
@[go_sem] theorem field_98_1 (w : World) (x0 x1 : Value) : (Instr.field 98 (.agg #[x0, x1]) 1).run Try.prog w = .ok (x1) w := by kernel_rfl
@[go_sem] theorem field_114_0 (w : World) (x0 x1 : Value) : (Instr.field 114 (.agg #[x0, x1]) 0).run Try.prog w = .ok (x0) w := by kernel_rfl
@[go_sem] theorem field_114_1 (w : World) (x0 x1 : Value) : (Instr.field 114 (.agg #[x0, x1]) 1).run Try.prog w = .ok (x1) w := by kernel_rfl
@[go_sem] theorem field_115_0 (w : World) (x0 x1 : Value) : (Instr.field 115 (.agg #[x0, x1]) 0).run Try.prog w = .ok (x0) w := by kernel_rfl
@[go_sem] theorem field_115_1 (w : World) (x0 x1 : Value) : (Instr.field 115 (.agg #[x0, x1]) 1).run Try.prog w = .ok (x1) w := by kernel_rfl
@[go_sem] theorem field_117_0 (w : World) (x0 x1 x2 : Value) : (Instr.field 117 (.agg #[x0, x1, x2]) 0).run Try.prog w = .ok (x0) w := by kernel_rfl
@[go_sem] theorem field_117_1 (w : World) (x0 x1 x2 : Value) : (Instr.field 117 (.agg #[x0, x1, x2]) 1).run Try.prog w = .ok (x1) w := by kernel_rfl
@[go_sem] theorem field_117_2 (w : World) (x0 x1 x2 : Value) : (Instr.field 117 (.agg #[x0, x1, x2]) 2).run Try.prog w = .ok (x2) w := by kernel_rfl
@[go_sem] theorem field_118_0 (w : World) (x0 x1 x2 : Value) : (Instr.field 118 (.agg #[x0, x1, x2]) 0).run Try.prog w = .ok (x0) w := by kernel_rfl
@[go_sem] theorem field_118_1 (w : World) (x0 x1 x2 : Value) : (Instr.field 118 (.agg #[x0, x1, x2]) 1).run Try.prog w = .ok (x1) w := by kernel_rfl
@[go_sem] theorem field_118_2 (w : World) (x0 x1 x2 : Value) : (Instr.field 118 (.agg #[x0, x1, x2]) 2).run Try.prog w = .ok (x2) w := by kernel_rfl
@[go_sem] theorem field_123_0 (w : World) (x0 x1 : Value) : (Instr.field 123 (.agg #[x0, x1]) 0).run Try.prog w = .ok (x0) w := by kernel_rfl
@[go_sem] theorem field_123_1 (w : World) (x0 x1 : Value) : (Instr.field 123 (.agg #[x0, x1]) 1).run Try.prog w = .ok (x1) w := by kernel_rfl
@[go_sem] theorem field_124_0 (w : World) (x0 x1 : Value) : (Instr.field 124 (.agg #[x0, x1]) 0).run Try.prog w = .ok (x0) w := by kernel_rfl
@[go_sem] theorem field_124_1 (w : World) (x0 x1 : Value) : (Instr.field 124 (.agg #[x0, x1]) 1).run Try.prog w = .ok (x1) w := by kernel_rfl
@[go_sem] theorem field_127_0 (w : World) (x0 x1 x2 x3 : Value) : (Instr.field 127 (.agg #[x0, x1, x2, x3]) 0).run Try.prog w = .ok (.agg #[x0, x1]) w := by kernel_rfl
@[go_sem] theorem field_127_1 (w : World) (x0 x1 x2 x3 : Value) : (Instr.field 127 (.agg #[x0, x1, x2, x3]) 1).run Try.prog w = .ok (x2) w := by kernel_rfl
@[go_sem] theorem field_127_2 (w : World) (x0 x1 x2 x3 : Value) : (Instr.field 127 (.agg #[x0, x1, x2, x3]) 2).run Try.prog w = .ok (x3) w := by kernel_rfl
@[go_sem] theorem field_128_0 (w : World) (x0 x1 x2 x3 : Value) : (Instr.field 128 (.agg #[x0, x1, x2, x3]) 0).run Try.prog w = .ok (.agg #[x0, x1]) w := by kernel_rfl
@[go_sem] theorem field_128_1 (w : World) (x0 x1 x2 x3 : Value) : (Instr.field 128 (.agg #[x0, x1, x2, x3]) 1).run Try.prog w = .ok (x2) w := by kernel_rfl
@[go_sem] theorem field_128_2 (w : World) (x0 x1 x2 x3 : Value) : (Instr.field 128 (.agg #[x0, x1, x2, x3]) 2).run Try.prog w = .ok (x3) w := by kernel_rfl
@[go_sem] theorem field_130_0 (w : World) (x0 x1 x2 x3 : Value) : (Instr.field 130 (.agg #[x0, x1, x2, x3]) 0).run Try.prog w = .ok (.agg #[x0, x1]) w := by kernel_rfl
@[go_sem] theorem field_130_1 (w : World) (x0 x1 x2 x3 : Value) : (Instr.field 130 (.agg #[x0, x1, x2, x3]) 1).run Try.prog w = .ok (x2) w := by kernel_rfl
@[go_sem] theorem field_130_2 (w : World) (x0 x1 x2 x3 : Value) : (Instr.field 130 (.agg #[x0, x1, x2, x3]) 2).run Try.prog w = .ok (x3) w := by kernel_rfl
@[go_sem] theorem field_133_0 (w : World) (x0 x1 : Value) : (Instr.field 133 (.agg #[x0, x1]) 0).run Try.prog w = .ok (x0) w := by kernel_rfl
@[go_sem] theorem field_133_1 (w : World) (x0 x1 : Value) : (Instr.field 133 (.agg #[x0, x1]) 1).run Try.prog w = .ok (x1) w := by kernel_rfl
@[go_sem] theorem field_134_0 (w : World) (x0 x1 : Value) : (Instr.field 134 (.agg #[x0, x1]) 0).run Try.prog w = .ok (x0) w := by kernel_rfl
@[go_sem] theorem field_134_1 (w : World) (x0 x1 : Value) : (Instr.field 134 (.agg #[x0, x1]) 1).run Try.prog w = .ok (x1) w := by kernel_rfl
@[go_sem] theorem field_141_0 (w : World) (x0 x1 x2 x3 x4 : Value) : (Instr.field 141 (.agg #[x0, x1, x2, x3, x4]) 0).run Try.prog w = .ok (.agg #[x0, x1, x2, x3]) w := by kernel_rfl
@[go_sem] theorem field_141_1 (w : World) (x0 x1 x2 x3 x4 : Value) : (Instr.field 141 (.agg #[x0, x1, x2, x3, x4]) 1).run Try.prog w = .ok (x4) w := by kernel_rfl
@[go_sem] theorem field_142_0 (w : World) (x0 x1 x2 x3 x4 : Value) : (Instr.field 142 (.agg #[x0, x1, x2, x3, x4]) 0).run Try.prog w = .ok (.agg #[x0, x1, x2, x3]) w := by kernel_rfl
@[go_sem] theorem field_142_1 (w : World) (x0 x1 x2 x3 x4 : Value) : (Instr.field 142 (.agg #[x0, x1, x2, x3, x4]) 1).run Try.prog w = .ok (x4) w := by kernel_rfl
@[go_sem] theorem field_146_0 (w : World) (x0 x1 x2 x3 : Value) : (Instr.field 146 (.agg #[x0, x1, x2, x3]) 0).run Try.prog w = .ok (x0) w := by kernel_rfl
@[go_sem] theorem field_146_1 (w : World) (x0 x1 x2 x3 : Value) : (Instr.field 146 (.agg #[x0, x1, x2, x3]) 1).run Try.prog w = .ok (x1) w := by kernel_rfl
@[go_sem] theorem field_146_2 (w : World) (x0 x1 x2 x3 : Value) : (Instr.field 146 (.agg #[x0, x1, x2, x3]) 2).run Try.prog w = .ok (x2) w := by kernel_rfl
@[go_sem] theorem field_146_3 (w : World) (x0 x1 x2 x3 : Value) : (Instr.field 146 (.agg #[x0, x1, x2, x3]) 3).run Try.prog w = .ok (x3) w := by kernel_rfl
@[go_sem] theorem field_147_0 (w : World) (x0 x1 x2 x3 : Value) : (Instr.field 147 (.agg #[x0, x1, x2, x3]) 0).run Try.prog w = .ok (x0) w := by kernel_rfl
@[go_sem] theorem field_147_1 (w : World) (x0 x1 x2 x3 : Value) : (Instr.field 147 (.agg #[x0, x1, x2, x3]) 1).run Try.prog w = .ok (x1) w := by kernel_rfl
@[go_sem] theorem field_147_2 (w : World) (x0 x1 x2 x3 : Value) : (Instr.field 147 (.agg #[x0, x1, x2, x3]) 2).run Try.prog w = .ok (x2) w := by kernel_rfl
@[go_sem] theorem field_147_3 (w : World) (x0 x1 x2 x3 : Value) : (Instr.field 147 (.agg #[x0, x1, x2, x3]) 3).run Try.prog w = .ok (x3) w := by kernel_rfl
@[go_sem] theorem field_149_0 (w : World) (x0 x1 x2 : Value) : (Instr.field 149 (.agg #[x0, x1, x2]) 0).run Try.prog w = .ok (x0) w := by kernel_rfl
@[go_sem] theorem field_149_1 (w : World) (x0 x1 x2 : Value) : (Instr.field 149 (.agg #[x0, x1, x2]) 1).run Try.prog w = .ok (x1) w := by kernel_rfl
@[go_sem] theorem field_149_2 (w : World) (x0 x1 x2 : Value) : (Instr.field 149 (.agg #[x0, x1, x2]) 2).run Try.prog w = .ok (x2) w := by kernel_rfl
@[go_sem] theorem field_150_0 (w : World) (x0 x1 x2 : Value) : (Instr.field 150 (.agg #[x0, x1, x2]) 0).run Try.prog w = .ok (x0) w := by kernel_rfl
@[go_sem] theorem field_150_1 (w : World) (x0 x1 x2 : Value) : (Instr.field 150 (.agg #[x0, x1, x2]) 1).run Try.prog w = .ok (x1) w := by kernel_rfl
@[go_sem] theorem field_150_2 (w : World) (x0 x1 x2 : Value) : (Instr.field 150 (.agg #[x0, x1, x2]) 2).run Try.prog w = .ok (x2) w := by kernel_rfl
@[go_sem] theorem field_157_0 (w : World) (x0 x1 x2 : Value) : (Instr.field 157 (.agg #[x0, x1, x2]) 0).run Try.prog w = .ok (x0) w := by kernel_rfl
@[go_sem] theorem field_157_1 (w : World) (x0 x1 x2 : Value) : (Instr.field 157 (.agg #[x0, x1, x2]) 1).run Try.prog w = .ok (x1) w := by kernel_rfl
@[go_sem] theorem field_157_2 (w : World) (x0 x1 x2 : Value) : (Instr.field 157 (.agg #[x0, x1, x2]) 2).run Try.prog w = .ok (x2) w := by kernel_rfl
@[go_sem] theorem field_158_0 (w : World) (x0 x1 x2 : Value) : (Instr.field 158 (.agg #[x0, x1, x2]) 0).run Try.prog w = .ok (x0) w := by kernel_rfl
@[go_sem] theorem field_158_1 (w : World) (x0 x1 x2 : Value) : (Instr.field 158 (.agg #[x0, x1, x2]) 1).run Try.prog w = .ok (x1) w := by kernel_rfl
@[go_sem] theorem field_158_2 (w : World) (x0 x1 x2 : Value) : (Instr.field 158 (.agg #[x0, x1, x2]) 2).run Try.prog w = .ok (x2) w := by kernel_rfl
@[go_sem] theorem field_159_0 (w : World) (x0 x1 x2 : Value) : (Instr.field 159 (.agg #[x0, x1, x2]) 0).run Try.prog w = .ok (.agg #[x0, x1, x2]) w := by kernel_rfl
@[go_sem] theorem field_160_0 (w : World) (x0 x1 x2 : Value) : (Instr.field 160 (.agg #[x0, x1, x2]) 0).run Try.prog w = .ok (.agg #[x0, x1, x2]) w := by kernel_rfl
@[go_sem] theorem field_186_0 (w : World) (x0 x1 x2 x3 x4 : Value) : (Instr.field 186 (.agg #[x0, x1, x2, x3, x4]) 0).run Try.prog w = .ok (x0) w := by kernel_rfl
@[go_sem] theorem field_186_1 (w : World) (x0 x1 x2 x3 x4 : Value) : (Instr.field 186 (.agg #[x0, x1, x2, x3, x4]) 1).run Try.prog w = .ok (x1) w := by kernel_rfl
@[go_sem] theorem field_186_2 (w : World) (x0 x1 x2 x3 x4 : Value) : (Instr.field 186 (.agg #[x0, x1, x2, x3, x4]) 2).run Try.prog w = .ok (x2) w := by kernel_rfl
@[go_sem] theorem field_186_3 (w : World) (x0 x1 x2 x3 x4 : Value) : (Instr.field 186 (.agg #[x0, x1, x2, x3, x4]) 3).run Try.prog w = .ok (x3) w := by kernel_rfl
@[go_sem] theorem field_186_4 (w : World) (x0 x1 x2 x3 x4 : Value) : (Instr.field 186 (.agg #[x0, x1, x2, x3, x4]) 4).run Try.prog w = .ok (x4) w := by kernel_rfl
@[go_sem] theorem field_187_0 (w : World) (x0 x1 x2 x3 x4 : Value) : (Instr.field 187 (.agg #[x0, x1, x2, x3, x4]) 0).run Try.prog w = .ok (x0) w := by kernel_rfl
@[go_sem] theorem field_187_1 (w : World) (x0 x1 x2 x3 x4 : Value) : (Instr.field 187 (.agg #[x0, x1, x2, x3, x4]) 1).run Try.prog w = .ok (x1) w := by kernel_rfl
@[go_sem] theorem field_187_2 (w : World) (x0 x1 x2 x3 x4 : Value) : (Instr.field 187 (.agg #[x0, x1, x2, x3, x4]) 2).run Try.prog w = .ok (x2) w := by kernel_rfl
@[go_sem] theorem field_187_3 (w : World) (x0 x1 x2 x3 x4 : Value) : (Instr.field 187 (.agg #[x0, x1, x2, x3, x4]) 3).run Try.prog w = .ok (x3) w := by kernel_rfl
@[go_sem] theorem field_187_4 (w : World) (x0 x1 x2 x3 x4 : Value) : (Instr.field 187 (.agg #[x0, x1, x2, x3, x4]) 4).run Try.prog w = .ok (x4) w := by kernel_rfl
@[go_sem] theorem field_188_0 (w : World) (x0 x1 x2 x3 x4 : Value) : (Instr.field 188 (.agg #[x0, x1, x2, x3, x4]) 0).run Try.prog w = .ok (x0) w := by kernel_rfl
@[go_sem] theorem field_188_1 (w : World) (x0 x1 x2 x3 x4 : Value) : (Instr.field 188 (.agg #[x0, x1, x2, x3, x4]) 1).run Try.prog w = .ok (x1) w := by kernel_rfl
@[go_sem] theorem field_188_2 (w : World) (x0 x1 x2 x3 x4 : Value) : (Instr.field 188 (.agg #[x0, x1, x2, x3, x4]) 2).run Try.prog w = .ok (x2) w := by kernel_rfl
@[go_sem] theorem field_188_3 (w : World) (x0 x1 x2 x3 x4 : Value) : (Instr.field 188 (.agg #[x0, x1, x2, x3, x4]) 3).run Try.prog w = .ok (x3) w := by kernel_rfl
@[go_sem] theorem field_188_4 (w : World) (x0 x1 x2 x3 x4 : Value) : (Instr.field 188 (.agg #[x0, x1, x2, x3, x4]) 4).run Try.prog w = .ok (x4) w := by kernel_rfl
@[go_sem] theorem field_189_0 (w : World) (x0 x1 x2 x3 x4 : Value) : (Instr.field 189 (.agg #[x0, x1, x2, x3, x4]) 0).run Try.prog w = .ok (x0) w := by kernel_rfl
@[go_sem] theorem field_189_1 (w : World) (x0 x1 x2 x3 x4 : Value) : (Instr.field 189 (.agg #[x0, x1, x2, x3, x4]) 1).run Try.prog w = .ok (x1) w := by kernel_rfl
@[go_sem] theorem field_189_2 (w : World) (x0 x1 x2 x3 x4 : Value) : (Instr.field 189 (.agg #[x0, x1, x2, x3, x4]) 2).run Try.prog w = .ok (x2) w := by kernel_rfl
@[go_sem] theorem field_189_3 (w : World) (x0 x1 x2 x3 x4 : Value) : (Instr.field 189 (.agg #[x0, x1, x2, x3, x4]) 3).run Try.prog w = .ok (x3) w := by kernel_rfl
@[go_sem] theorem field_189_4 (w : World) (x0 x1 x2 x3 x4 : Value) : (Instr.field 189 (.agg #[x0, x1, x2, x3, x4]) 4).run Try.prog w = .ok (x4) w := by kernel_rfl
@[go_sem] theorem field_196_0 (w : World) (x0 x1 x2 : Value) : (Instr.field 196 (.agg #[x0, x1, x2]) 0).run Try.prog w = .ok (x0) w := by kernel_rfl
@[go_sem] theorem field_196_1 (w : World) (x0 x1 x2 : Value) : (Instr.field 196 (.agg #[x0, x1, x2]) 1).run Try.prog w = .ok (x1) w := by kernel_rfl
@[go_sem] theorem field_196_2 (w : World) (x0 x1 x2 : Value) : (Instr.field 196 (.agg #[x0, x1, x2]) 2).run Try.prog w = .ok (x2) w := by kernel_rfl
@[go_sem] theorem field_197_0 (w : World) (x0 x1 x2 : Value) : (Instr.field 197 (.agg #[x0, x1, x2]) 0).run Try.prog w = .ok (x0) w := by kernel_rfl
@[go_sem] theorem field_197_1 (w : World) (x0 x1 x2 : Value) : (Instr.field 197 (.agg #[x0, x1, x2]) 1).run Try.prog w = .ok (x1) w := by kernel_rfl
@[go_sem] theorem field_197_2 (w : World) (x0 x1 x2 : Value) : (Instr.field 197 (.agg #[x0, x1, x2]) 2).run Try.prog w = .ok (x2) w := by kernel_rfl
@[go_sem] theorem field_205_0 (w : World) (x0 x1 : Value) : (Instr.field 205 (.agg #[x0, x1]) 0).run Try.prog w = .ok (x0) w := by kernel_rfl
@[go_sem] theorem field_205_1 (w : World) (x0 x1 : Value) : (Instr.field 205 (.agg #[x0, x1]) 1).run Try.prog w = .ok (x1) w := by kernel_rfl
@[go_sem] theorem field_206_0 (w : World) (x0 x1 : Value) : (Instr.field 206 (.agg #[x0, x1]) 0).run Try.prog w = .ok (x0) w := by kernel_rfl
@[go_sem] theorem field_206_1 (w : World) (x0 x1 : Value) : (Instr.field 206 (.agg #[x0, x1]) 1).run Try.prog w = .ok (x1) w := by kernel_rfl
@[go_sem] theorem field_221_0 (w : World) (x0 x1 x2 x3 : Value) : (Instr.field 221 (.agg #[x0, x1, x2, x3]) 0).run Try.prog w = .ok (x0) w := by kernel_rfl
@[go_sem] theorem field_221_1 (w : World) (x0 x1 x2 x3 : Value) : (Instr.field 221 (.agg #[x0, x1, x2, x3]) 1).run Try.prog w = .ok (x1) w := by kernel_rfl
@[go_sem] theorem field_221_2 (w : World) (x0 x1 x2 x3 : Value) : (Instr.field 221 (.agg #[x0, x1, x2, x3]) 2).run Try.prog w = .ok (x2) w := by kernel_rfl
@[go_sem] theorem field_221_3 (w : World) (x0 x1 x2 x3 : Value) : (Instr.field 221 (.agg #[x0, x1, x2, x3]) 3).run Try.prog w = .ok (x3) w := by kernel_rfl
@[go_sem] theorem field_222_0 (w : World) (x0 x1 x2 x3 : Value) : (Instr.field 222 (.agg #[x0, x1, x2, x3]) 0).run Try.prog w = .ok (x0) w := by kernel_rfl
@[go_sem] theorem field_222_1 (w : World) (x0 x1 x2 x3 : Value) : (Instr.field 222 (.agg #[x0, x1, x2, x3]) 1).run Try.prog w = .ok (x1) w := by kernel_rfl
@[go_sem] theorem field_222_2 (w : World) (x0 x1 x2 x3 : Value) : (Instr.field 222 (.agg #[x0, x1, x2, x3]) 2).run Try.prog w = .ok (x2) w := by kernel_rfl
@[go_sem] theorem field_222_3 (w : World) (x0 x1 x2 x3 : Value) : (Instr.field 222 (.agg #[x0, x1, x2, x3]) 3).run Try.prog w = .ok (x3) w := by kernel_rfl
@[go_sem] theorem field_224_0 (w : World) (x0 x1 x2 x3 x4 x5 x6 : Value) : (Instr.field 224 (.agg #[x0, x1, x2, x3, x4, x5, x6]) 0).run Try.prog w = .ok (.agg #[x0, x1, x2, x3, x4]) w := by kernel_rfl
@[go_sem] theorem field_224_1 (w : World) (x0 x1 x2 x3 x4 x5 x6 : Value) : (Instr.field 224 (.agg #[x0, x1, x2, x3, x4, x5, x6]) 1).run Try.prog w = .ok (x5) w := by kernel_rfl
@[go_sem] theorem field_224_2 (w : World) (x0 x1 x2 x3 x4 x5 x6 : Value) : (Instr.field 224 (.agg #[x0, x1, x2, x3, x4, x5, x6]) 2).run Try.prog w = .ok (x6) w := by kernel_rfl
@[go_sem] theorem field_225_0 (w : World) (x0 x1 x2 x3 x4 x5 x6 : Value) : (Instr.field 225 (.agg #[x0, x1, x2, x3, x4, x5, x6]) 0).run Try.prog w = .ok (.agg #[x0, x1, x2, x3, x4]) w := by kernel_rfl
@[go_sem] theorem field_225_1 (w : World) (x0 x1 x2 x3 x4 x5 x6 : Value) : (Instr.field 225 (.agg #[x0, x1, x2, x3, x4, x5, x6]) 1).run Try.prog w = .ok (x5) w := by kernel_rfl
@[go_sem] theorem field_225_2 (w : World) (x0 x1 x2 x3 x4 x5 x6 : Value) : (Instr.field 225 (.agg #[x0, x1, x2, x3, x4, x5, x6]) 2).run Try.prog w = .ok (x6) w := by kernel_rfl
@[go_sem] theorem field_231_0 (w : World) (x0 x1 x2 x3 : Value) : (Instr.field 231 (.agg #[x0, x1, x2, x3]) 0).run Try.prog w = .ok (x0) w := by kernel_rfl
@[go_sem] theorem field_231_1 (w : World) (x0 x1 x2 x3 : Value) : (Instr.field 231 (.agg #[x0, x1, x2, x3]) 1).run Try.prog w = .ok (x1) w := by kernel_rfl
@[go_sem] theorem field_231_2 (w : World) (x0 x1 x2 x3 : Value) : (Instr.field 231 (.agg #[x0, x1, x2, x3]) 2).run Try.prog w = .ok (x2) w := by kernel_rfl
@[go_sem] theorem field_231_3 (w : World) (x0 x1 x2 x3 : Value) : (Instr.field 231 (.agg #[x0, x1, x2, x3]) 3).run Try.prog w = .ok (x3) w := by kernel_rfl
@[go_sem] theorem field_243_0 (w : World) (x0 x1 x2 x3 x4 x5 x6 x7 x8 x9 x10 : Value) : (Instr.field 243 (.agg #[x0, x1, x2, x3, x4, x5, x6, x7, x8, x9, x10]) 0).run Try.prog w = .ok (x0) w := by kernel_rfl
@[go_sem] theorem field_243_1 (w : World) (x0 x1 x2 x3 x4 x5 x6 x7 x8 x9 x10 : Value) : (Instr.field 243 (.agg #[x0, x1, x2, x3, x4, x5, x6, x7, x8, x9, x10]) 1).run Try.prog w = .ok (x1) w := by kernel_rfl
@[go_sem] theorem field_243_2 (w : World) (x0 x1 x2 x3 x4 x5 x6 x7 x8 x9 x10 : Value) : (Instr.field 243 (.agg #[x0, x1, x2, x3, x4, x5, x6, x7, x8, x9, x10]) 2).run Try.prog w = .ok (x2) w := by kernel_rfl
@[go_sem] theorem field_243_3 (w : World) (x0 x1 x2 x3 x4 x5 x6 x7 x8 x9 x10 : Value) : (Instr.field 243 (.agg #[x0, x1, x2, x3, x4, x5, x6, x7, x8, x9, x10]) 3).run Try.prog w = .ok (x3) w := by kernel_rfl
@[go_sem] theorem field_243_4 (w : World) (x0 x1 x2 x3 x4 x5 x6 x7 x8 x9 x10 : Value) : (Instr.field 243 (.agg #[x0, x1, x2, x3, x4, x5, x6, x7, x8, x9, x10]) 4).run Try.prog w = .ok (x4) w := by kernel_rfl
@[go_sem] theorem field_243_5 (w : World) (x0 x1 x2 x3 x4 x5 x6 x7 x8 x9 x10 : Value) : (Instr.field 243 (.agg #[x0, x1, x2, x3, x4, x5, x6, x7, x8, x9, x10]) 5).run Try.prog w = .ok (x5) w := by kernel_rfl
@[go_sem] theorem field_243_6 (w : World) (x0 x1 x2 x3 x4 x5 x6 x7 x8 x9 x10 : Value) : (Instr.field 243 (.agg #[x0, x1, x2, x3, x4, x5, x6, x7, x8, x9, x10]) 6).run Try.prog w = .ok (x6) w := by kernel_rfl
@[go_sem] theorem field_243_7 (w : World) (x0 x1 x2 x3 x4 x5 x6 x7 x8 x9 x10 : Value) : (Instr.field 243 (.agg #[x0, x1, x2, x3, x4, x5, x6, x7, x8, x9, x10]) 7).run Try.prog w = .ok (x7) w := by kernel_rfl
@[go_sem] theorem field_243_8 (w : World) (x0 x1 x2 x3 x4 x5 x6 x7 x8 x9 x10 : Value) : (Instr.field 243 (.agg #[x0, x1, x2, x3, x4, x5, x6, x7, x8, x9, x10]) 8).run Try.prog w = .ok (x8) w := by kernel_rfl
@[go_sem] theorem field_243_9 (w : World) (x0 x1 x2 x3 x4 x5 x6 x7 x8 x9 x10 : Value) : (Instr.field 243 (.agg #[x0, x1, x2, x3, x4, x5, x6, x7, x8, x9, x10]) 9).run Try.prog w = .ok (x9) w := by kernel_rfl
@[go_sem] theorem field_243_10 (w : World) (x0 x1 x2 x3 x4 x5 x6 x7 x8 x9 x10 : Value) : (Instr.field 243 (.agg #[x0, x1, x2, x3, x4, x5, x6, x7, x8, x9, x10]) 10).run Try.prog w = .ok (x10) w := by kernel_rfl
@[go_sem] theorem field_244_0 (w : World) (x0 x1 x2 x3 x4 x5 x6 x7 x8 x9 x10 : Value) : (Instr.field 244 (.agg #[x0, x1, x2, x3, x4, x5, x6, x7, x8, x9, x10]) 0).run Try.prog w = .ok (x0) w := by kernel_rfl
@[go_sem] theorem field_244_1 (w : World) (x0 x1 x2 x3 x4 x5 x6 x7 x8 x9 x10 : Value) : (Instr.field 244 (.agg #[x0, x1, x2, x3, x4, x5, x6, x7, x8, x9, x10]) 1).run Try.prog w = .ok (x1) w := by kernel_rfl
@[go_sem] theorem field_244_2 (w : World) (x0 x1 x2 x3 x4 x5 x6 x7 x8 x9 x10 : Value) : (Instr.field 244 (.agg #[x0, x1, x2, x3, x4, x5, x6, x7, x8, x9, x10]) 2).run Try.prog w = .ok (x2) w := by kernel_rfl
@[go_sem] theorem field_244_3 (w : World) (x0 x1 x2 x3 x4 x5 x6 x7 x8 x9 x10 : Value) : (Instr.field 244 (.agg #[x0, x1, x2, x3, x4, x5, x6, x7, x8, x9, x10]) 3).run Try.prog w = .ok (x3) w := by kernel_rfl
@[go_sem] theorem field_244_4 (w : World) (x0 x1 x2 x3 x4 x5 x6 x7 x8 x9 x10 : Value) : (Instr.field 244 (.agg #[x0, x1, x2, x3, x4, x5, x6, x7, x8, x9, x10]) 4).run Try.prog w = .ok (x4) w := by kernel_rfl
@[go_sem] theorem field_244_5 (w : World) (x0 x1 x2 x3 x4 x5 x6 x7 x8 x9 x10 : Value) : (Instr.field 244 (.agg #[x0, x1, x2, x3, x4, x5, x6, x7, x8, x9, x10]) 5).run Try.prog w = .ok (x5) w := by kernel_rfl
@[go_sem] theorem field_244_6 (w : World) (x0 x1 x2 x3 x4 x5 x6 x7 x8 x9 x10 : Value) : (Instr.field 244 (.agg #[x0, x1, x2, x3, x4, x5, x6, x7, x8, x9, x10]) 6).run Try.prog w = .ok (x6) w := by kernel_rfl
@[go_sem] theorem field_244_7 (w : World) (x0 x1 x2 x3 x4 x5 x6 x7 x8 x9 x10 : Value) : (Instr.field 244 (.agg #[x0, x1, x2, x3, x4, x5, x6, x7, x8, x9, x10]) 7).run Try.prog w = .ok (x7) w := by kernel_rfl
@[go_sem] theorem field_244_8 (w : World) (x0 x1 x2 x3 x4 x5 x6 x7 x8 x9 x10 : Value) : (Instr.field 244 (.agg #[x0, x1, x2, x3, x4, x5, x6, x7, x8, x9, x10]) 8).run Try.prog w = .ok (x8) w := by kernel_rfl
@[go_sem] theorem field_244_9 (w : World) (x0 x1 x2 x3 x4 x5 x6 x7 x8 x9 x10 : Value) : (Instr.field 244 (.agg #[x0, x1, x2, x3, x4, x5, x6, x7, x8, x9, x10]) 9).run Try.prog w = .ok (x9) w := by kernel_rfl
@[go_sem] theorem field_244_10 (w : World) (x0 x1 x2 x3 x4 x5 x6 x7 x8 x9 x10 : Value) : (Instr.field 244 (.agg #[x0, x1, x2, x3, x4, x5, x6, x7, x8, x9, x10]) 10).run Try.prog w = .ok (x10) w := by kernel_rfl
end Go.Proofs.Ytmkbinbggiocaaa

set_option linter.unusedVariables false
set_option linter.unusedSimpArgs false
namespace Go.Proofs.Ytmkbinbggiocaaa
open Go.RowKit

/-- The world w' is w, but that the blocks of F may hold something else, and that there may be new blocks. -/
structure Mod (F : List Nat) (w w' : World) : Prop where
  os : w'.os = w.os
  tape : w'.tape = w.tape
  output : w'.output = w.output
  size : w.heap.size ≤ w'.heap.size
  block : ∀ i, i < w.heap.size → i ∉ F → w'.heap[i]? = w.heap[i]?

theorem Mod.refl (F : List Nat) (w : World) : Mod F w w := ⟨rfl, rfl, rfl, Nat.le_refl _, fun _ _ _ => rfl⟩
theorem Mod.mono {F F' : List Nat} {w w' : World} (h : Mod F w w') (hs : ∀ b ∈ F, b ∈ F') : Mod F' w w' :=
  ⟨h.os, h.tape, h.output, h.size, fun i hi hn => h.block i hi fun hm => hn (hs i hm)⟩
/-- Blocks that the second step may change and that the first world did not have don't matter. -/
theorem Mod.trans {F F1 : List Nat} {w w1 w2 : World} (h : Mod F w w1) (k : Mod F1 w1 w2) (hs : ∀ b ∈ F1, b < w.heap.size → b ∈ F) : Mod F w w2 :=
  ⟨k.os.trans h.os, k.tape.trans h.tape, k.output.trans h.output, Nat.le_trans h.size k.size,
    fun i hi hn => (k.block i (Nat.lt_of_lt_of_le hi h.size) fun hm => hn (hs i hm hi)).trans (h.block i hi hn)⟩
theorem Mod.drew {F : List Nat} {w w' : World} (h : Mod F w w') : Mod F w w'.drew := ⟨h.os, h.tape, h.output, h.size, h.block⟩
theorem Mod.drewN {F : List Nat} {w w' : World} (h : Mod F w w') (n : Nat) : Mod F w (w'.drewN n) := ⟨h.os, h.tape, h.output, h.size, h.block⟩
theorem Mod.alloc {F : List Nat} {w w' : World} (h : Mod F w w') (o : Obj) : Mod F w (w'.alloc o) :=
  h.trans ⟨rfl, rfl, rfl, by simp, fun k hk _ => Below.heap_alloc _ _ _ hk⟩ (F1 := []) (by simp)
theorem Mod.setCell {F : List Nat} {w w' : World} (h : Mod F w w') (a : Addr) (u : Value) (hb : a.block < w.heap.size → a.block ∈ F) : Mod F w (w'.setCell a u) :=
  h.trans (F1 := [a.block]) ⟨rfl, rfl, rfl, by simp [World.setCell], fun k _ hn => Below.heap_setCell _ _ _ _ (by simpa using hn)⟩
    (by intro b hb1 hlt; simp at hb1; subst hb1; exact hb hlt)
theorem Mod.grown {F : List Nat} {w w1 w2 : World} (h : Mod F w w1) {row : Option Nat} (hg : w1.grownBy w2 row) (hr : ∀ b, row = some b → b < w.heap.size → b ∈ F) : Mod F w w2 :=
  h.trans (F1 := row.toList) ⟨hg.os, hg.tape, hg.output, hg.size, fun k hk hn => hg.block k hk (by intro e; subst e; simp at hn)⟩
    (by intro b hb hlt; exact hr b (by simpa using hb) hlt)
theorem Mod.of0 {F : List Nat} {w w' : World} (h : Mod [] w w') : Mod F w w' := h.mono (by simp)
theorem Mod.toBelow {F : List Nat} {w w' : World} (h : Mod F w w') {B : Nat} (hB : B ≤ w.heap.size) (hF : ∀ b ∈ F, B ≤ b) : Below B w w' :=
  ⟨h.os, h.tape, h.output, h.size, fun k hk => h.block k (by omega) fun hm => by have := hF k hm; omega⟩
theorem Mod.ofBelow {w w' : World} (h : Below w.heap.size w w') : Mod [] w w' := ⟨h.os, h.tape, h.output, h.size, fun k hk _ => h.block k hk⟩
theorem Mod.below {w w' : World} (h : Mod [] w w') : Below w.heap.size w w' := h.toBelow (Nat.le_refl _) (by simp)

/-- Block b holds the cells cs, of type t, none of them frozen. -/
def Has (w : World) (b : Nat) (cs : List Value) (t : TypeId) : Prop := w.heap[b]? = some (.cells cs.toArray t (0, 0))
theorem Has.lt {w : World} {b : Nat} {cs : List Value} {t : TypeId} (h : Has w b cs t) : b < w.heap.size := (Array.getElem?_eq_some_iff.1 h).1
theorem Has.keep {F : List Nat} {w w' : World} {b : Nat} {cs : List Value} {t : TypeId} (h : Has w b cs t) (m : Mod F w w') (hb : b ∉ F) : Has w' b cs t := (m.block b h.lt hb).trans h
theorem Has.cell {w : World} {b : Nat} {cs : List Value} {t : TypeId} (h : Has w b cs t) (i : Nat) {v : Value} (hv : cs[i]? = some v) : w.cell? ⟨b, i, none⟩ = some v := by
  unfold World.cell?; rw [show w.heap[(⟨b, i, none⟩ : Addr).block]? = _ from h]; simpa using hv
theorem Has.free {w : World} {b : Nat} {cs : List Value} {t : TypeId} (h : Has w b cs t) (i : Nat) : w.frozen? ⟨b, i, none⟩ = false := by
  unfold World.frozen?; rw [show w.heap[(⟨b, i, none⟩ : Addr).block]? = _ from h]; simp
theorem Has.set {w : World} {b : Nat} {cs : List Value} {t : TypeId} (h : Has w b cs t) (i : Nat) (v : Value) : Has (w.setCell ⟨b, i, none⟩ v) b (cs.set i v) t := by
  unfold Has at h ⊢
  simp only [World.setCell, Array.getElem?_modify, if_true, h, Option.map_some]
  simp
theorem Has.other {w : World} {b : Nat} {cs : List Value} {t : TypeId} (h : Has w b cs t) (a : Addr) (v : Value) (hb : b ≠ a.block) : Has (w.setCell a v) b cs t :=
  (Below.heap_setCell w a v b hb).trans h
theorem Has.alloc {w : World} {b : Nat} {cs : List Value} {t : TypeId} (h : Has w b cs t) (o : Obj) : Has (w.alloc o) b cs t :=
  (Below.heap_alloc w o b h.lt).trans h
theorem Has.drew {w : World} {b : Nat} {cs : List Value} {t : TypeId} (h : Has w b cs t) : Has w.drew b cs t := h
theorem Has.drewN {w : World} {b : Nat} {cs : List Value} {t : TypeId} (h : Has w b cs t) (n : Nat) : Has (w.drewN n) b cs t := h
theorem Has.new (w : World) (cs : List Value) (t : TypeId) : Has (w.alloc (.cells cs.toArray t)) w.heap.size cs t := heap_alloc_new w _

/-- A row that is owned, and the block that it lies in. -/
theorem own_other {w : World} {base e size n : Nat} {v : Value} {xs : List Value} (h : w.ownsRow base e size v n xs) (a : Addr) (u : Value) (hb : v.ownBlock ≠ some a.block) : (w.setCell a u).ownsRow base e size v n xs :=
  h.kept (row := some a.block) ⟨rfl, rfl, rfl, by simp [World.setCell], fun k _ hn => Below.heap_setCell _ _ _ _ (by simpa using hn)⟩ (.inr hb)
theorem own_keep {F : List Nat} {w w' : World} {base e size n : Nat} {v : Value} {xs : List Value} (h : w.ownsRow base e size v n xs) (m : Mod F w w') (hb : ∀ g, v.ownBlock = some g → g ∉ F) : w'.ownsRow base e size v n xs := by
  refine ⟨h.1, ?_⟩
  rcases h.2 with hn | ⟨g, cap, cur, rfl, hb0, hgg, rest⟩
  · exact .inl hn
  · exact .inr ⟨g, cap, cur, rfl, hb0, (m.block g (Array.getElem?_eq_some_iff.1 hgg).1 (hb g rfl)).trans hgg, rest⟩
theorem own_lt {w : World} {base e size n : Nat} {v : Value} {xs : List Value} (h : w.ownsRow base e size v n xs) {g : Nat} (hg : v.ownBlock = some g) : g < w.heap.size := (h.lt g hg).2

/-! ### append(v, x..) onto a row that is owned, the new ones boxed just ahead -/
section
variable {P : Program} {ops : Array Oper} {rest : List Oper} {o : Oper} {a : Act} {Q : Exit → Act → World → Prop}
theorem app_own {W : World} (hgd : o.guard = none) (s x : Operand) (t e : TypeId) (z : Value) (size bytes : Nat)
    (ho : o.op = .call { callee := .builtin .append, args := #[s, x], argTypes := #[t, t] })
    (ht : P.underlying t = some (.slice e)) (hinfo : (P.info? e).map (fun i => (i.zero, i.size, i.bytes)) = some (some z, size, bytes)) (hz : z.cells.size = size) (hsz : 0 < size) (hb0 : 0 < bytes)
    (v : Value) (n m : Nat) (xs news : List Value) (hs : a.eval s = v) {B : Nat} (hx : a.eval x = .slice (some ⟨B, 0, none⟩) m m) (hB : B = W.heap.size) (hl : news.length = m * size) (h1 : ∀ u ∈ news, u.oneCell' = true)
    (HO : W.ownsRow 0 e size v n xs) (hby : (n + m) * bytes ≤ 140737488355328)
    (h : ∀ a1 c1 w1, w1.ownsRow 0 e size (.slice a1 (n + m) c1) (n + m) (xs ++ news) → Mod v.ownBlock.toList W w1 → ((Value.slice a1 (n + m) c1).ownBlock = v.ownBlock ∨ ∃ b, (Value.slice a1 (n + m) c1).ownBlock = some b ∧ W.heap.size ≤ b) → wpList P ops Q rest (a.put o.dst (.slice a1 (n + m) c1)) w1) :
    wpList P ops Q (o :: rest) a (W.alloc (.cells news.toArray e)) := by
  subst hB
  obtain ⟨i0, hi, hzz⟩ := Option.map_eq_some_iff.1 hinfo
  simp only [Prod.mk.injEq] at hzz
  obtain ⟨hz0, hz1, hz2⟩ := hzz
  have hlen : n + m ≤ 140737488355328 := Nat.le_trans (Nat.le_mul_of_pos_right _ hb0) hby
  refine wpList_append_own_at (W.alloc (.cells news.toArray e)) hgd s x t ho 0 e i0 z size bytes ht hi hz0 hz1 hz2 hz hsz v n xs hs (HO.alloc _) ⟨W.heap.size, 0, none⟩ m m news hx hl
    (World.news_of_block (cs := news.toArray) (t := e) (fr := (0, 0)) (heap_alloc_new W _)) h1 (by simp only [maxLen]; omega) hby (Nat.zero_le _) ?_
  intro v1 w1 hown hg _ hat
  obtain ⟨a1, c1, rfl⟩ : ∃ a1 c1, v1 = .slice a1 (n + m) c1 := by
    rcases hown.2 with ⟨rfl, h0⟩ | ⟨g, cap, cur, rfl, _⟩
    · exact ⟨none, 0, by rw [h0]⟩
    · exact ⟨_, _, rfl⟩
  refine h a1 c1 w1 hown (((Mod.refl _ W).alloc _).grown hg fun b hb _ => by simp [hb]) ?_
  rcases hat with hat | hat
  · exact .inl hat
  · exact .inr ⟨_, hat, by simp⟩
end
/-- The block of a row behind an append. -/
theorem own_fresh {w : World} {F : List Nat} {v v1 : Value} (hF : ∀ b, v.ownBlock = some b → b ∈ F) (h : v1.ownBlock = v.ownBlock ∨ ∃ b, v1.ownBlock = some b ∧ w.heap.size ≤ b) :
    ∀ b, v1.ownBlock = some b → b ∈ F ∨ w.heap.size ≤ b := by
  intro b hb
  rcases h with h | ⟨b', hb', hle⟩
  · exact .inl (hF b (h ▸ hb))
  · rw [hb] at hb'; injection hb' with e; exact .inr (e ▸ hle)

/-! ### what a block holds behind stores, by simp -/
def setObj (a : Addr) (v : Value) : Obj → Obj
  | .cells c e fr => .cells (if a.spot.isSome then c else c.setIfInBounds a.off v) e fr
  | o => o
theorem setObj_cells (b i : Nat) (v : Value) (c : Array Value) (e : TypeId) (fr : Nat × Nat) : setObj ⟨b, i, none⟩ v (.cells c e fr) = .cells (c.setIfInBounds i v) e fr := rfl
theorem heap_set (w : World) (a : Addr) (v : Value) (k : Nat) : (w.setCell a v).heap[k]? = if k = a.block then (w.heap[k]?).map (setObj a v) else w.heap[k]? := by
  simp only [World.setCell, Array.getElem?_modify]
  by_cases h : k = a.block
  · subst h; simp; rfl
  · rw [if_neg (fun e => h e.symm), if_neg h]
theorem heap_al (w : World) (o : Obj) (k : Nat) (h : k < w.heap.size) : (w.alloc o).heap[k]? = w.heap[k]? := Below.heap_alloc w o k h

/-! ### a slice that is read, wherever it begins -/
def Reads (w : World) (size : Nat) (v : Value) (n : Nat) (xs : List Value) : Prop :=
  xs.length = n * size ∧ ((v = .slice none 0 0 ∧ n = 0) ∨ ∃ g o c, v = .slice (some ⟨g, o, none⟩) n c ∧ n ≤ c ∧ c ≤ maxLen ∧ ∀ j u, xs[j]? = some u → w.cell? ⟨g, o + j, none⟩ = some u)
theorem Reads.keep {F : List Nat} {w w' : World} {size n : Nat} {v : Value} {xs : List Value} (h : Reads w size v n xs) (m : Mod F w w') (hb : ∀ g, v.ownBlock = some g → g ∉ F) : Reads w' size v n xs := by
  refine ⟨h.1, ?_⟩
  rcases h.2 with hn | ⟨g, o, c, rfl, h1, h2, h3⟩
  · exact .inl hn
  · exact .inr ⟨g, o, c, rfl, h1, h2, fun j u hu => (World.cell?_of_block (m.block g (World.block_lt_of_cell? w ⟨g, o + j, none⟩ (h3 j u hu)) (hb g rfl))).trans (h3 j u hu)⟩
theorem Reads.nil (w : World) (size : Nat) : Reads w size (.slice none 0 0) 0 [] := ⟨by simp, .inl ⟨rfl, rfl⟩⟩
theorem Reads.own {w : World} {base e size n : Nat} {v : Value} {xs : List Value} (h : w.ownsRow base e size v n xs) : Reads w size v n xs := by
  refine ⟨h.1, ?_⟩
  rcases h.2 with hn | ⟨g, cap, cur, rfl, h0, h1, h2, h3, h4, h5⟩
  · exact .inl hn
  · refine .inr ⟨g, 0, cap, rfl, h2, h3, fun j u hu => ?_⟩
    have hj := (List.getElem?_eq_some_iff.1 hu).1
    have := World.ownsRow.cellAt (⟨h.1, .inr ⟨g, cap, cur, rfl, h0, h1, h2, h3, h4, h5⟩⟩ : w.ownsRow base e size _ n xs) j (by rw [← h.1]; exact hj)
    rw [Nat.zero_add, this, hu]
theorem Reads.cell {w : World} {size n g o c : Nat} {xs : List Value} (h : Reads w size (.slice (some ⟨g, o, none⟩) n c) n xs) (j : Nat) {u : Value} (hu : xs[j]? = some u) : w.cell? ⟨g, o + j, none⟩ = some u := by
  rcases h.2 with ⟨he, _⟩ | ⟨g', o', c', he, h1, h2, h3⟩
  · cases he
  · injection he with he _ _; injection he with he; injection he with e1 e2; subst e1; subst e2; exact h3 j u hu
theorem Reads.cases {w : World} {size n : Nat} {v : Value} {xs : List Value} (h : Reads w size v n xs) :
    (v = .slice none 0 0 ∧ n = 0 ∧ xs = []) ∨ ∃ g o c, v = .slice (some ⟨g, o, none⟩) n c ∧ n ≤ c ∧ c ≤ maxLen := by
  rcases h.2 with ⟨rfl, rfl⟩ | ⟨g, o, c, rfl, h1, h2, _⟩
  · exact .inl ⟨rfl, rfl, List.eq_nil_of_length_eq_zero (by simpa using h.1)⟩
  · exact .inr ⟨g, o, c, rfl, h1, h2⟩
/-- All but the first k. -/
theorem Reads.tail {w : World} {size n g o c : Nat} {xs : List Value} (h : Reads w size (.slice (some ⟨g, o, none⟩) n c) n xs) (k : Nat) (hk : k ≤ n) (o' : Nat) (ho : k < n → o' = o + k * size) :
    Reads w size (.slice (some ⟨g, o', none⟩) (n - k) (c - k)) (n - k) (xs.drop (k * size)) := by
  rcases h.2 with ⟨he, _⟩ | ⟨g1, o1, c1, he, h1, h2, h3⟩
  · cases he
  · injection he with he e2 e3; subst e3; injection he with he; injection he with e1 e4; subst e1; subst e4
    refine ⟨by rw [List.length_drop, h.1, Nat.sub_mul], .inr ⟨g, o', c - k, rfl, by omega, Nat.le_trans (Nat.sub_le _ _) h2, fun j u hu => ?_⟩⟩
    rw [List.getElem?_drop] at hu
    have hlt := (List.getElem?_eq_some_iff.1 hu).1
    rw [h.1] at hlt
    have hkn : k < n := by
      rcases Nat.lt_or_ge k n with h | h
      · exact h
      · exfalso
        have : n = k := by omega
        subst this
        omega
    rw [ho hkn, Nat.add_assoc]
    exact h3 _ _ hu
section
variable {P : Program} {ops : Array Oper} {rest : List Oper} {o : Oper} {a : Act} {Q : Exit → Act → World → Prop}
/-- append(v, src...): v owned, src read; nil let in. -/
theorem app_src {W : World} (hgd : o.guard = none) (s x : Operand) (t e : TypeId) (z : Value) (size bytes : Nat)
    (ho : o.op = .call { callee := .builtin .append, args := #[s, x], argTypes := #[t, t] })
    (ht : P.underlying t = some (.slice e)) (hinfo : (P.info? e).map (fun i => (i.zero, i.size, i.bytes)) = some (some z, size, bytes)) (hz : z.cells.size = size) (hsz : 0 < size) (hb0 : 0 < bytes)
    (v v2 : Value) (n m : Nat) (xs news : List Value) (hs : a.eval s = v) (hx : a.eval x = v2) (h1 : ∀ u ∈ news, u.oneCell' = true)
    (HO : W.ownsRow 0 e size v n xs) (HR : Reads W size v2 m news) (hby : (n + m) * bytes ≤ 140737488355328)
    (h : ∀ a1 c1 w1, w1.ownsRow 0 e size (.slice a1 (n + m) c1) (n + m) (xs ++ news) → Mod v.ownBlock.toList W w1 → ((Value.slice a1 (n + m) c1).ownBlock = v.ownBlock ∨ ∃ b, (Value.slice a1 (n + m) c1).ownBlock = some b ∧ W.heap.size ≤ b) → wpList P ops Q rest (a.put o.dst (.slice a1 (n + m) c1)) w1) :
    wpList P ops Q (o :: rest) a W := by
  obtain ⟨i0, hi, hzz⟩ := Option.map_eq_some_iff.1 hinfo
  simp only [Prod.mk.injEq] at hzz
  obtain ⟨hz0, hz1, hz2⟩ := hzz
  have hlen : n + m ≤ 140737488355328 := Nat.le_trans (Nat.le_mul_of_pos_right _ hb0) hby
  have form : ∀ (v1 : Value) (w1 : World), w1.ownsRow 0 e size v1 (n + m) (xs ++ news) → ∃ a1 c1, v1 = Value.slice a1 (n + m) c1 := by
    intro v1 w1 hown
    rcases hown.2 with ⟨rfl, h0⟩ | ⟨g, cap, cur, rfl, _⟩
    · exact ⟨none, 0, by rw [h0]⟩
    · exact ⟨_, _, rfl⟩
  rcases HR.2 with ⟨rfl, rfl⟩ | ⟨g, o2, c, rfl, _, _, hc⟩
  · have hn : news = [] := List.eq_nil_of_length_eq_zero (by simpa using HR.1)
    subst hn
    have HO' : W.ownsRow 0 e size v (n + 0) (xs ++ []) := by simpa using HO
    obtain ⟨a1, c1, rfl⟩ := form v W HO'
    exact wpList_append_own_none hgd s x t ho 0 e i0 size ht hi _ n xs hs HO hx (h a1 c1 W HO' (Mod.refl _ _) (.inl rfl))
  · refine wpList_append_own_at W hgd s x t ho 0 e i0 z size bytes ht hi hz0 hz1 hz2 hz hsz v n xs hs HO ⟨g, o2, none⟩ m c news hx HR.1
      (fun j u hu => ?_) h1 (by simp only [maxLen]; omega) hby (Nat.zero_le _) ?_
    · have := hc j u hu
      unfold Addr.add
      split
      · rename_i h0; subst h0; simpa using this
      · exact this
    · intro v1 w1 hown hg _ hat
      obtain ⟨a1, c1, rfl⟩ := form v1 w1 hown
      refine h a1 c1 w1 hown ((Mod.refl _ W).grown hg fun b hb _ => by simp [hb]) ?_
      rcases hat with hat | hat
      · exact .inl hat
      · exact .inr ⟨_, hat, Nat.le_refl _⟩
end

/-! ### a slot for a result, made ahead of a call that only makes memory -/
theorem slot2 {w w' : World} {t : TypeId} {x y : Value} (m : Mod [] (w.alloc (.cells #[x, y] t)) w') :
    w.heap.size < w'.heap.size ∧ w'.cell? ⟨w.heap.size, 0, none⟩ = some x ∧ w'.cell? ⟨w.heap.size, 1, none⟩ = some y ∧ ∀ i, w'.frozen? ⟨w.heap.size, i, none⟩ = false := by
  have hk := (Has.new w [x, y] t).keep m (by simp)
  exact ⟨hk.lt, hk.cell 0 rfl, hk.cell 1 rfl, hk.free⟩
theorem slot3 {w w' : World} {t : TypeId} {x y z : Value} (m : Mod [] (w.alloc (.cells #[x, y, z] t)) w') :
    w.heap.size < w'.heap.size ∧ w'.cell? ⟨w.heap.size, 0, none⟩ = some x ∧ w'.cell? ⟨w.heap.size, 1, none⟩ = some y ∧ w'.cell? ⟨w.heap.size, 2, none⟩ = some z ∧ ∀ i, w'.frozen? ⟨w.heap.size, i, none⟩ = false := by
  have hk := (Has.new w [x, y, z] t).keep m (by simp)
  exact ⟨hk.lt, hk.cell 0 rfl, hk.cell 1 rfl, hk.cell 2 rfl, hk.free⟩
end Go.Proofs.Ytmkbinbggiocaaa

set_option linter.unusedVariables false
set_option linter.unusedSimpArgs false
namespace Go.Proofs.Ytmkbinbggiocaaa
open Go.RowKit
theorem ge_of_new {v v1 : Value} {N : Nat} (M : Nat) (h0 : v.ownBlock = none) (h : v1.ownBlock = v.ownBlock ∨ ∃ b, v1.ownBlock = some b ∧ N ≤ b) (hM : M ≤ N) : ∀ b, v1.ownBlock = some b → M ≤ b := by
  intro b hb
  rcases h with h | ⟨b', h, hle⟩
  · rw [h, h0] at hb; cases hb
  · rw [hb] at h; injection h with e; omega
theorem ge_of_old {v v1 : Value} {N : Nat} (M : Nat) (h0 : ∀ b, v.ownBlock = some b → M ≤ b) (h : v1.ownBlock = v.ownBlock ∨ ∃ b, v1.ownBlock = some b ∧ N ≤ b) (hM : M ≤ N) : ∀ b, v1.ownBlock = some b → M ≤ b := by
  intro b hb
  rcases h with h | ⟨b', h, hle⟩
  · rw [h] at hb; exact h0 b hb
  · rw [hb] at h; injection h with e; omega
theorem Has.keepGe {w w' : World} {b M : Nat} {cs : List Value} {t : TypeId} {v : Value} (h : Has w b cs t) (m : Mod v.ownBlock.toList w w') (hv : ∀ g, v.ownBlock = some g → M ≤ g) (hb : b < M) : Has w' b cs t :=
  h.keep m fun hh => by have := hv b (by simpa using hh); omega
theorem Mod.ge {w w' w0 : World} {F : List Nat} {v : Value} (h : Mod F w0 w) (m : Mod v.ownBlock.toList w w') (hv : ∀ g, v.ownBlock = some g → w0.heap.size ≤ g) : Mod F w0 w' :=
  h.trans m fun b hb hlt => by have := hv b (by simpa using hb); omega
/-- Where what is left behind the first k begins: at the old place, if nothing is left of the capacity. -/
def offAt (c k o s : Nat) : Nat := if c = k then o else o + k * s
theorem slice_from {P : Program} (t e size : Nat) (ht : P.underlying t = some (.slice (P.elem t))) (hs : ∀ w : World, (sizeOf (P.elem t)).run P w = .ok size w) (g o n c k : Nat) (kk : Int) (hkk : kk = (k : Int)) (h : k ≤ n) :
    ∀ w : World, (Instr.slice t (.slice (some ⟨g, o, none⟩) n c) (some (.int .i64 kk)) none none).run P w = .ok (.slice (some ⟨g, offAt c k o size, none⟩) (n - k) (c - k)) w := by
  intro w
  subst hkk
  rw [run_slice_l w t (some ⟨g, o, none⟩) n c ht .i64 k (by omega) (by omega), hs]
  simp only [Result.andThen, sliced, Int.toNat_natCast, offAt]
  by_cases hc : c = k
  · simp [hc]
  · simp [hc, Addr.add_lit]
/-- A call answers a slice of its own making, and changes nothing that was there. -/
def RowOut (e size n : Nat) (xs : List Value) (w : World) (end_ : Ending) (w' : World) : Prop :=
  ∃ a c, end_ = .returned (.slice a n c) ∧ w'.ownsRow 0 e size (.slice a n c) n xs ∧ Mod [] w w' ∧ ∀ b, (Value.slice a n c).ownBlock = some b → w.heap.size ≤ b
end Go.Proofs.Ytmkbinbggiocaaa

set_option linter.unusedVariables false
set_option linter.unusedSimpArgs false
namespace Go.Proofs.Ytmkbinbggiocaaa
open Go.RowKit

section
variable {α : Type} (enc : α → List Value) (size : Nat)
def flat (l : List α) : List Value := l.flatMap enc
variable {enc} {size}
theorem flat_length (he : ∀ x, (enc x).length = size) (l : List α) : (flat enc l).length = l.length * size := by
  induction l with
  | nil => simp [flat]
  | cons a l ih => simp only [flat, List.flatMap_cons, List.length_append, he, List.length_cons] at ih ⊢; rw [ih, Nat.add_mul]; omega
theorem flat_append (l m : List α) : flat enc (l ++ m) = flat enc l ++ flat enc m := by simp [flat]
theorem flat_one (x : α) : flat enc [x] = enc x := by simp [flat]
theorem flat_split (l : List α) (k : Nat) (h : k < l.length) : flat enc l = flat enc (l.take k) ++ enc l[k] ++ flat enc (l.drop (k + 1)) := by
  have e : l = l.take k ++ (l[k] :: l.drop (k + 1)) := by rw [← List.drop_eq_getElem_cons h, List.take_append_drop]
  have e2 : flat enc l = flat enc (l.take k ++ (l[k] :: l.drop (k + 1))) := congrArg (flat enc) e
  rw [e2, flat, flat, flat, List.flatMap_append, List.flatMap_cons, List.append_assoc]
theorem flat_get (he : ∀ x, (enc x).length = size) (l : List α) (k j : Nat) (h : k < l.length) (hj : j < size) : (flat enc l)[k * size + j]? = (enc l[k])[j]? := by
  have hl : (flat enc (l.take k)).length = k * size := by rw [flat_length he, List.length_take, Nat.min_eq_left (Nat.le_of_lt h)]
  rw [flat_split l k h, List.append_assoc, List.getElem?_append_right (by omega), hl, Nat.add_sub_cancel_left, List.getElem?_append_left (by rw [he]; exact hj)]
theorem mid_set {β : Type} (A B C : List β) (n j : Nat) (v : β) (hA : A.length = n) (hj : j < B.length) : (A ++ B ++ C).set (n + j) v = A ++ B.set j v ++ C := by
  subst hA
  rw [List.append_assoc, List.set_append_right _ _ (by omega), Nat.add_sub_cancel_left, List.set_append_left _ _ hj, List.append_assoc]
/-- All cells of one element are set anew. -/
theorem flat_mid (l : List α) (k : Nat) (h : k < l.length) (x : α) :
    flat enc (l.take k) ++ enc x ++ flat enc (l.drop (k + 1)) = flat enc (l.set k x) := by
  rw [flat_split (l.set k x) k (by simpa using h)]
  congr 1
  · rw [List.getElem_set_self, List.take_set_of_le (Nat.le_refl _)]
  · rw [List.drop_set_of_lt (Nat.lt_succ_self _)]
theorem flat_take_length (he : ∀ x, (enc x).length = size) (l : List α) (k : Nat) (h : k < l.length) : (flat enc (l.take k)).length = k * size := by
  rw [flat_length he, List.length_take, Nat.min_eq_left (Nat.le_of_lt h)]
end
end Go.Proofs.Ytmkbinbggiocaaa

set_option linter.unusedVariables false
set_option linter.unusedSimpArgs false
namespace Go.Proofs.Ytmkbinbggiocaaa
open Go.ChangeShapes Go.WideShapes Go.ChangeAt Go.RowKit Go.Deep
open Go.ChangeMaps (open_string shut_string)

theorem flat_ints (k : IntKind) (l : List Int) : flat (fun x => [Value.int k x]) l = l.map fun x => .int k x := by
  induction l with
  | nil => rfl
  | cons a l ih => simp only [flat, List.flatMap_cons, List.map_cons] at ih ⊢; rw [ih]; rfl
theorem own : ownKnob Try.prog.godebug = none := by kernel_rfl
theorem laidOut : laidOutB Try.prog = true := by kernel_rfl

theorem choose_list {α : Type} {P : Nat → α → Prop} (n : Nat) (h : ∀ i, i < n → ∃ x, P i x) : ∃ l : List α, l.length = n ∧ ∀ i x, l[i]? = some x → P i x := by
  induction n with
  | zero => exact ⟨[], rfl, by simp⟩
  | succ n ih =>
    obtain ⟨l, hl, hp⟩ := ih fun i hi => h i (by omega)
    obtain ⟨x, hx⟩ := h n (by omega)
    refine ⟨l ++ [x], by simp [hl], fun i y hy => ?_⟩
    by_cases hi : i < l.length
    · rw [List.getElem?_append_left hi] at hy; exact hp i y hy
    · have hlt := (List.getElem?_eq_some_iff.1 hy).1
      simp at hlt
      have e : i = l.length := by omega
      subst e
      rw [List.getElem?_append_right (Nat.le_refl _)] at hy
      simp at hy; subst hy; rw [hl]; exact hx
theorem reads_of_elems {α : Type} {enc : α → List Value} {size : Nat} (he : ∀ x, (enc x).length = size) (hs : 0 < size) (w : World) (l : List α) (g o c : Nat) (hlc : l.length ≤ c) (hc : c ≤ maxLen)
    (h : ∀ i x, l[i]? = some x → ∀ r u, (enc x)[r]? = some u → w.cell? ⟨g, o + (i * size + r), none⟩ = some u) :
    Reads w size (.slice (some ⟨g, o, none⟩) l.length c) l.length (flat enc l) := by
  refine ⟨flat_length he l, .inr ⟨g, o, c, rfl, hlc, hc, fun j u hu => ?_⟩⟩
  have hj := (List.getElem?_eq_some_iff.1 hu).1
  rw [flat_length he] at hj
  have hi : j / size < l.length := by rw [Nat.div_lt_iff_lt_mul hs]; exact hj
  have hr : j % size < size := Nat.mod_lt _ hs
  have e : j = j / size * size + j % size := by rw [Nat.mul_comm]; exact (Nat.div_add_mod j size).symm
  rw [e] at hu ⊢
  rw [flat_get he l _ _ hi hr] at hu
  exact h (j / size) _ (List.getElem?_eq_getElem hi) _ u hu
/-- A row that an argument leads to, as the walks want it. -/
def ArgRow (w : World) (size : Nat) (a : Option Addr) (n c : Nat) (xs : List Value) : Prop := 0 < n → Reads w size (.slice a n c) n xs
section
variable {H : Type} {enc : TypeId × Value → H} {w : World} {spare : Nat → Bool} {held : Bool}
/-- A slice whose elements read: each element's cells. -/
theorem open_row {α : Type} {encE : α → List Value} {size t e : Nat} (he : ∀ x, (encE x).length = size) (hs : 0 < size) (ht : Try.prog.underlying t = some (.slice e)) (hC : Try.prog.cellsOf e = size)
    (hel : ∀ n cs d p, DataW.trod enc Try.prog w 0 spare held n e cs = some (d, p) → ∃ x, cs = encE x) {fuel len cap : Nat} {a : Option Addr} {x : DataW H × List MemPlace}
    (h : DataW.trod enc Try.prog w 0 spare held fuel t [.slice a len cap] = some x) : ∃ l : List α, l.length = len ∧ ArgRow w size a l.length cap (flat encE l) := by
  rcases open_slice ht h with ⟨h0, _⟩ | ⟨ad, len', cap', m, n, D, Pl, hcs, _, hl, hm, hmm, _, hi⟩
  · simp at h0
    obtain ⟨rfl, rfl, rfl⟩ := h0
    exact ⟨[], rfl, fun h => absurd h (by simp)⟩
  · simp at hcs
    obtain ⟨rfl, rfl, rfl⟩ := hcs
    have hlm : len ≤ m := by rw [hmm]; split <;> omega
    obtain ⟨l, hll, hP⟩ := choose_list (α := α) (P := fun i x => w.cells? 0 (ad.add (i * size)) size = some (encE x)) len (fun i hi' => by
      obtain ⟨cs', h1, h2⟩ := hi i (by omega)
      obtain ⟨x, rfl⟩ := hel _ _ _ _ h2
      rw [hC] at h1
      exact ⟨x, h1⟩)
    refine ⟨l, hll, fun hpos => ?_⟩
    have hcell : ∀ i x, l[i]? = some x → ∀ r u, (encE x)[r]? = some u → w.cell? (ad.add (i * size + r)) = some u := by
      intro i x hx r u hu
      obtain ⟨_, hcl, hat⟩ := World.cells?_some (hP i x hx)
      have hr : r < size := by have := (List.getElem?_eq_some_iff.1 hu).1; rw [he] at this; exact this
      have := hat r hr
      rw [Go.Deep.add_add] at this
      rw [this, hu]
    obtain ⟨x0, hx0⟩ : ∃ x0, l[0]? = some x0 := ⟨l[0]'(by omega), List.getElem?_eq_getElem (by omega)⟩
    obtain ⟨u0, hu0⟩ : ∃ u0, (encE x0)[0]? = some u0 := ⟨(encE x0)[0]'(by rw [he]; exact hs), List.getElem?_eq_getElem _⟩
    have h00 := hcell 0 x0 hx0 0 u0 hu0
    obtain ⟨g, o, spot⟩ := ad
    have hspot : spot = none := by simpa [Addr.add] using World.cell?_spot h00
    subst hspot
    refine reads_of_elems he hs w l g o cap (by omega) hm fun i x hx r u hu => ?_
    have := hcell i x hx r u hu
    rwa [Addr.add_lit] at this
/-- A struct of one-cell fields: each field's own cell, and its reading. -/
theorem fields_of {t : Nat} {fs : Array Field} (ht : Try.prog.underlying t = some (.struct fs)) (hone : oneCellFields Try.prog fs = true) (hC : Try.prog.cellsOf t = fs.size) {n : Nat} {cs : List Value} {x : DataW H × List MemPlace}
    (h : DataW.trod enc Try.prog w 0 spare held n t cs = some x) : cs.length = fs.size ∧ ∀ (j : Nat) (f : Field), fs[j]? = some f → ∃ (v : Value) (y : DataW H × List MemPlace) (m : Nat), cs[j]? = some v ∧ DataW.trod enc Try.prog w 0 spare held m f.type [v] = some y := by
  obtain ⟨ys, n', hn', hy, hlen, hyl, hf⟩ := DataW.trod_struct ht h
  refine ⟨hlen.trans hC, fun j f hj => ?_⟩
  obtain ⟨ho, hk⟩ := hone_of hone j f hj
  have hjl : j < fs.size := (Array.getElem?_eq_some_iff.1 hj).1
  have h1 := hf j f hj
  rw [ho, hk] at h1
  have hjc : j < cs.length := by rw [hlen, hC]; exact hjl
  have hone' : (cs.drop j).take 1 = [cs[j]] := by
    rw [List.drop_eq_getElem_cons hjc]
    rfl
  rw [hone'] at h1
  have hys : ys[j]? = some (ys[j]'(by omega)) := List.getElem?_eq_getElem (by omega)
  exact ⟨_, _, n', List.getElem?_eq_getElem hjc, h1.trans hys⟩
theorem list3 {l : List Value} {a b c : Value} (hl : l.length = 3) (h0 : l[0]? = some a) (h1 : l[1]? = some b) (h2 : l[2]? = some c) : l = [a, b, c] := by
  apply List.ext_getElem?
  intro i
  rcases i with _ | _ | _ | i
  · simpa using h0
  · simpa using h1
  · simpa using h2
  · rw [List.getElem?_eq_none (by omega)]; simp
theorem list2 {l : List Value} {a b : Value} (hl : l.length = 2) (h0 : l[0]? = some a) (h1 : l[1]? = some b) : l = [a, b] := by
  apply List.ext_getElem?
  intro i
  rcases i with _ | _ | i
  · simpa using h0
  · simpa using h1
  · rw [List.getElem?_eq_none (by omega)]; simp
theorem cell_int {k : IntKind} {e : Nat} (ht : Try.prog.underlying e = some (.int k)) {n : Nat} {v : Value} {x : DataW H × List MemPlace} (h : DataW.trod enc Try.prog w 0 spare held n e [v] = some x) : ∃ a : Int, v = .int k a := by
  obtain ⟨a, ha, _⟩ := DataW.trod_int ht h
  simp at ha
  exact ⟨a, ha⟩
theorem elem_int {k : IntKind} {e : Nat} (ht : Try.prog.underlying e = some (.int k)) : ∀ n cs (d : DataW H) p, DataW.trod enc Try.prog w 0 spare held n e cs = some (d, p) → ∃ x : Int, cs = [.int k x] := by
  intro n cs d p h
  obtain ⟨x, rfl, _⟩ := DataW.trod_int ht h
  exact ⟨x, rfl⟩
end
end Go.Proofs.Ytmkbinbggiocaaa

set_option linter.unusedVariables false
set_option linter.unusedSimpArgs false
namespace Go.Proofs.Ytmkbinbggiocaaa
open Go.RowKit

def Rd (w : World) (size : Nat) (v : Value) (n : Nat) (xs : List Value) : Prop :=
  xs.length = n * size ∧ ((v = .slice none 0 0 ∧ n = 0) ∨ ∃ ad c, v = .slice (some ad) n c ∧ n ≤ c ∧ c ≤ maxLen ∧ ∀ j u, xs[j]? = some u → w.cell? (ad.add j) = some u)
theorem Rd.keep {F : List Nat} {w w' : World} {size n : Nat} {v : Value} {xs : List Value} (h : Rd w size v n xs) (m : Mod F w w') (hb : ∀ g, v.ownBlock = some g → g ∉ F) : Rd w' size v n xs := by
  refine ⟨h.1, ?_⟩
  rcases h.2 with hn | ⟨ad, c, rfl, h1, h2, h3⟩
  · exact .inl hn
  · refine .inr ⟨ad, c, rfl, h1, h2, fun j u hu => ?_⟩
    have hc := h3 j u hu
    have hblk : (ad.add j).block = ad.block := by unfold Addr.add; split <;> rfl
    refine (World.cell?_of_block (m.block _ (World.block_lt_of_cell? w _ hc) ?_)).trans hc
    rw [hblk]; exact hb _ rfl
theorem Rd.still {w w' : World} {size n : Nat} {v : Value} {xs : List Value} (h : Rd w size v n xs) (m : Mod [] w w') : Rd w' size v n xs := h.keep m (by simp)
theorem Rd.nil (w : World) (size : Nat) : Rd w size (.slice none 0 0) 0 [] := ⟨by simp, .inl ⟨rfl, rfl⟩⟩
theorem Rd.ofReads {w : World} {size n : Nat} {v : Value} {xs : List Value} (h : Reads w size v n xs) : Rd w size v n xs := by
  refine ⟨h.1, ?_⟩
  rcases h.2 with hn | ⟨g, o, c, rfl, h1, h2, h3⟩
  · exact .inl hn
  · exact .inr ⟨⟨g, o, none⟩, c, rfl, h1, h2, fun j u hu => by rw [Addr.add_lit]; exact h3 j u hu⟩
theorem Rd.own {w : World} {base e size n : Nat} {v : Value} {xs : List Value} (h : w.ownsRow base e size v n xs) : Rd w size v n xs := Rd.ofReads (Reads.own h)
theorem Rd.val {w : World} {size n : Nat} {v : Value} {xs : List Value} (h : Rd w size v n xs) : ∃ a c, v = .slice a n c := by
  rcases h.2 with ⟨rfl, rfl⟩ | ⟨ad, c, rfl, _⟩
  · exact ⟨none, 0, rfl⟩
  · exact ⟨some ad, c, rfl⟩
theorem Rd.le {w : World} {size n : Nat} {v : Value} {xs : List Value} (h : Rd w size v n xs) : n ≤ 9223372036854775807 := by
  rcases h.2 with ⟨rfl, rfl⟩ | ⟨ad, c, rfl, h1, h2, _⟩
  · omega
  · simp only [maxLen] at h2; omega
/-- Where there is something to read, the row begins at a plain place. -/
theorem Rd.at {w : World} {size n c : Nat} {a : Option Addr} {xs : List Value} (h : Rd w size (.slice a n c) n xs) (hn : 0 < xs.length) :
    ∃ g o, a = some ⟨g, o, none⟩ ∧ n ≤ c ∧ c ≤ maxLen ∧ ∀ j u, xs[j]? = some u → w.cell? ⟨g, o + j, none⟩ = some u := by
  rcases h.2 with ⟨he, h0⟩ | ⟨ad, c', he, h1, h2, h3⟩
  · rw [h.1, h0] at hn; simp at hn
  · injection he with he _ hc
    subst he; subst hc
    obtain ⟨g, o, spot⟩ := ad
    have h00 := h3 0 xs[0] (List.getElem?_eq_getElem hn)
    have hspot : spot = none := by simpa [Addr.add] using World.cell?_spot h00
    subst hspot
    exact ⟨g, o, rfl, h1, h2, fun j u hu => by have := h3 j u hu; rwa [Addr.add_lit] at this⟩
theorem Rd.cellAt {w : World} {size n g o c : Nat} {xs : List Value} (h : Rd w size (.slice (some ⟨g, o, none⟩) n c) n xs) (j : Nat) {u : Value} (hu : xs[j]? = some u) : w.cell? ⟨g, o + j, none⟩ = some u := by
  obtain ⟨g', o', e, _, _, h3⟩ := h.at (by rcases Nat.lt_or_ge j xs.length with h' | h'; · omega
                                           · simp [List.getElem?_eq_none h'] at hu)
  simp only [Option.some.injEq, Addr.mk.injEq] at e
  obtain ⟨rfl, rfl, _⟩ := e
  exact h3 j u hu
theorem Rd.toReads {w : World} {size n c : Nat} {a : Option Addr} {xs : List Value} (h : Rd w size (.slice a n c) n xs) (hn : 0 < xs.length) : Reads w size (.slice a n c) n xs := by
  obtain ⟨g, o, rfl, h1, h2, h3⟩ := h.at hn
  exact ⟨h.1, .inr ⟨g, o, c, rfl, h1, h2, h3⟩⟩

section
variable {P : Program} {ops : Array Oper} {rest : List Oper} {o : Oper} {a : Act} {Q : Exit → Act → World → Prop}
/-- append(v, src...): v owned, src read; what is nil or empty let in. -/
theorem app_rd {W : World} (hgd : o.guard = none) (s x : Operand) (t e : TypeId) (z : Value) (size bytes : Nat)
    (ho : o.op = .call { callee := .builtin .append, args := #[s, x], argTypes := #[t, t] })
    (ht : P.underlying t = some (.slice e)) (hinfo : (P.info? e).map (fun i => (i.zero, i.size, i.bytes)) = some (some z, size, bytes)) (hz : z.cells.size = size) (hsz : 0 < size) (hb0 : 0 < bytes)
    (v v2 : Value) (n m : Nat) (xs news : List Value) (hs : a.eval s = v) (hx : a.eval x = v2) (h1 : ∀ u ∈ news, u.oneCell' = true)
    (HO : W.ownsRow 0 e size v n xs) (HR : Rd W size v2 m news) (hby : (n + m) * bytes ≤ 140737488355328)
    (h : ∀ a1 c1 w1, w1.ownsRow 0 e size (.slice a1 (n + m) c1) (n + m) (xs ++ news) → Mod v.ownBlock.toList W w1 → ((Value.slice a1 (n + m) c1).ownBlock = v.ownBlock ∨ ∃ b, (Value.slice a1 (n + m) c1).ownBlock = some b ∧ W.heap.size ≤ b) → wpList P ops Q rest (a.put o.dst (.slice a1 (n + m) c1)) w1) :
    wpList P ops Q (o :: rest) a W := by
  rcases HR.2 with ⟨rfl, rfl⟩ | ⟨ad, c, rfl, hc1, hc2, hc⟩
  · exact app_src hgd s x t e z size bytes ho ht hinfo hz hsz hb0 v _ n 0 xs news hs hx h1 HO ⟨HR.1, .inl ⟨rfl, rfl⟩⟩ hby h
  · obtain ⟨i0, hi, hzz⟩ := Option.map_eq_some_iff.1 hinfo
    simp only [Prod.mk.injEq] at hzz
    obtain ⟨hz0, hz1, hz2⟩ := hzz
    have hlen : n + m ≤ 140737488355328 := Nat.le_trans (Nat.le_mul_of_pos_right _ hb0) hby
    refine wpList_append_own_at W hgd s x t ho 0 e i0 z size bytes ht hi hz0 hz1 hz2 hz hsz v n xs hs HO ad m c news hx HR.1 hc h1 (by simp only [maxLen]; omega) hby (Nat.zero_le _) ?_
    intro v1 w1 hown hg _ hat
    obtain ⟨a1, c1, rfl⟩ : ∃ a1 c1, v1 = Value.slice a1 (n + m) c1 := by
      rcases hown.2 with ⟨rfl, h0⟩ | ⟨g, cap, cur, rfl, _⟩
      · exact ⟨none, 0, by rw [h0]⟩
      · exact ⟨_, _, rfl⟩
    refine h a1 c1 w1 hown ((Mod.refl _ W).grown hg fun b hb _ => by simp [hb]) ?_
    rcases hat with hat | hat
    · exact .inl hat
    · exact .inr ⟨_, hat, Nat.le_refl _⟩
end
/-- A row of the call's own making, as an answer: the slice, what it holds; nothing that was there has changed. -/
structure Made (w w' : World) (e size : Nat) (a : Option Addr) (n c : Nat) (xs : List Value) : Prop where
  own : w'.ownsRow 0 e size (.slice a n c) n xs
  mod : Mod [] w w'
  new : ∀ b, (Value.slice a n c).ownBlock = some b → w.heap.size ≤ b
def MadeOut (e size n : Nat) (xs : List Value) (w : World) (end_ : Ending) (w' : World) : Prop := ∃ a c, end_ = .returned (.slice a n c) ∧ Made w w' e size a n c xs
theorem Made.push {w w1 w2 : World} {e size n n' c c' : Nat} {a a' : Option Addr} {xs xs' : List Value} (h : Made w w1 e size a n c xs) (ho : w2.ownsRow 0 e size (.slice a' n' c') n' xs') (m : Mod (Value.slice a n c).ownBlock.toList w1 w2)
    (hn : (Value.slice a' n' c').ownBlock = (Value.slice a n c).ownBlock ∨ ∃ b, (Value.slice a' n' c').ownBlock = some b ∧ w1.heap.size ≤ b) : Made w w2 e size a' n' c' xs' :=
  ⟨ho, h.mod.ge m h.new, ge_of_old _ h.new hn h.mod.size⟩
theorem Made.still {w w1 w2 : World} {e size n c : Nat} {a : Option Addr} {xs : List Value} (h : Made w w1 e size a n c xs) (m : Mod [] w1 w2) : Made w w2 e size a n c xs :=
  ⟨own_keep h.own m (by simp), h.mod.trans m (by simp), h.new⟩
theorem Made.before {w0 w w1 : World} {e size n c : Nat} {a : Option Addr} {xs : List Value} (h : Made w w1 e size a n c xs) (m : Mod [] w0 w) : Made w0 w1 e size a n c xs :=
  ⟨h.own, m.trans h.mod (by simp), fun b hb => Nat.le_trans m.size (h.new b hb)⟩

/-! ### bytes -/
def u8s (l : List Int) : List Value := l.map fun x => .int .u8 x
theorem u8s_append (l m : List Int) : u8s (l ++ m) = u8s l ++ u8s m := by simp [u8s]
theorem u8s_length (l : List Int) : (u8s l).length = l.length := by simp [u8s]
theorem u8s_one (l : List Int) : ∀ u ∈ u8s l, u.oneCell' = true := by simp [u8s, Value.oneCell']
theorem u8s_get {l : List Int} {i : Nat} {x : Int} (h : l[i]? = some x) : (u8s l)[i]? = some (.int .u8 x) := by simp [u8s, h]
end Go.Proofs.Ytmkbinbggiocaaa

set_option linter.unusedVariables false
set_option linter.unusedSimpArgs false
namespace Go.Proofs.Ytmkbinbggiocaaa
open Go.ChangeShapes Go.WideShapes Go.ChangeAt Go.RowKit Go.Deep
theorem wf64 {x : Int} (h : (Lit.int .i64 x).wf = true) : -9223372036854775808 ≤ x ∧ x ≤ 9223372036854775807 := by
  simp only [Lit.wf, Bool.and_eq_true, decide_eq_true_eq] at h
  have h1 : IntKind.i64.min = -9223372036854775808 := by decide
  have h2 : IntKind.i64.max = 9223372036854775807 := by decide
  omega
theorem wf8 {x : Int} (h : (Lit.int .u8 x).wf = true) : 0 ≤ x ∧ x < 256 := by
  simp only [Lit.wf, Bool.and_eq_true, decide_eq_true_eq] at h
  have h1 : IntKind.u8.min = 0 := by decide
  have h2 : IntKind.u8.max = 255 := by decide
  omega
section
variable {H : Type} {enc : TypeId × Value → H} {w : World} {spare : Nat → Bool} {held : Bool}
theorem open_rd {α : Type} {encE : α → List Value} {Pr : α → Prop} {size t e : Nat} (he : ∀ x, (encE x).length = size) (hs : 0 < size) (ht : Try.prog.underlying t = some (.slice e)) (hC : Try.prog.cellsOf e = size)
    (hel : ∀ n cs d p, DataW.trod enc Try.prog w 0 spare held n e cs = some (d, p) → ∃ x, cs = encE x ∧ Pr x) {fuel len cap : Nat} {a : Option Addr} {x : DataW H × List MemPlace}
    (h : DataW.trod enc Try.prog w 0 spare held fuel t [.slice a len cap] = some x) : ∃ l : List α, l.length = len ∧ Rd w size (.slice a len cap) len (flat encE l) ∧ ∀ x ∈ l, Pr x := by
  rcases open_slice ht h with ⟨h0, _⟩ | ⟨ad, len', cap', m, n, D, Pl, hcs, _, hl, hm, hmm, _, hi⟩
  · simp at h0
    obtain ⟨rfl, rfl, rfl⟩ := h0
    exact ⟨[], rfl, Rd.nil _ _, by simp⟩
  · simp at hcs
    obtain ⟨rfl, rfl, rfl⟩ := hcs
    have hlm : len ≤ m := by rw [hmm]; split <;> omega
    obtain ⟨l, hll, hP⟩ := choose_list (α := α) (P := fun i x => w.cells? 0 (ad.add (i * size)) size = some (encE x) ∧ Pr x) len (fun i hi' => by
      obtain ⟨cs', h1, h2⟩ := hi i (by omega)
      obtain ⟨x, rfl, hx⟩ := hel _ _ _ _ h2
      rw [hC] at h1
      exact ⟨x, h1, hx⟩)
    have hcell : ∀ i x, l[i]? = some x → ∀ r u, (encE x)[r]? = some u → w.cell? (ad.add (i * size + r)) = some u := by
      intro i x hx r u hu
      obtain ⟨_, hcl, hat⟩ := World.cells?_some (hP i x hx).1
      have hr : r < size := by have := (List.getElem?_eq_some_iff.1 hu).1; rw [he] at this; exact this
      have := hat r hr
      rw [Go.Deep.add_add] at this
      rw [this, hu]
    refine ⟨l, hll, ⟨?_, .inr ⟨ad, cap, rfl, by omega, hm, fun j u hu => ?_⟩⟩, fun x hx => ?_⟩
    · rw [← hll]
      clear hcell hP hll hi h
      induction l with
      | nil => simp [flat]
      | cons y l ih => simp only [flat, List.flatMap_cons, List.length_append, he, List.length_cons] at ih ⊢; rw [ih, Nat.add_mul]; omega
    · have hj : j < (flat encE l).length := (List.getElem?_eq_some_iff.1 hu).1
      have hi' : j / size < l.length := by
        rw [Nat.div_lt_iff_lt_mul hs]
        refine Nat.lt_of_lt_of_le hj (Nat.le_of_eq ?_)
        clear hcell hP hll hi h hu hj
        induction l with
        | nil => simp [flat]
        | cons y l ih => simp only [flat, List.flatMap_cons, List.length_append, he, List.length_cons] at ih ⊢; rw [ih, Nat.add_mul]; omega
      have hr : j % size < size := Nat.mod_lt _ hs
      have hjd : j = (j / size) * size + j % size := by rw [Nat.mul_comm]; exact (Nat.div_add_mod j size).symm
      rw [hjd] at hu ⊢
      rw [flat_get he l _ _ hi' hr] at hu
      exact hcell (j / size) _ (List.getElem?_eq_getElem hi') _ u hu
    · obtain ⟨i, hi2, rfl⟩ := List.getElem_of_mem hx
      exact (hP i _ (List.getElem?_eq_getElem hi2)).2
/-- An integer's cell: the number is one of its kind. -/
theorem elem_intw {k : IntKind} {e : Nat} (ht : Try.prog.underlying e = some (.int k)) : ∀ n cs (d : DataW H) p, DataW.trod enc Try.prog w 0 spare held n e cs = some (d, p) → ∃ x : Int, cs = [.int k x] ∧ (Lit.int k x).wf = true := by
  intro n cs d p h
  obtain ⟨x, rfl, _, hw⟩ := DataW.trod_int ht h
  exact ⟨x, rfl, hw⟩
/-- A slice of numbers. -/
theorem open_nums {k : IntKind} {t e : Nat} (ht : Try.prog.underlying t = some (.slice e)) (he : Try.prog.underlying e = some (.int k)) (hC : Try.prog.cellsOf e = 1) {fuel : Nat} {v : Value} {x : DataW H × List MemPlace}
    (h : DataW.trod enc Try.prog w 0 spare held fuel t [v] = some x) : ∃ l : List Int, Rd w 1 v l.length (l.map fun x => .int k x) ∧ ∀ x ∈ l, (Lit.int k x).wf = true := by
  have hv : ∃ a len cap, v = .slice a len cap := by
    rcases open_slice ht h with ⟨h0, _⟩ | ⟨ad, len', cap', m, n, D, Pl, hcs, _⟩
    · exact ⟨none, 0, 0, by simpa using h0⟩
    · exact ⟨some ad, len', cap', by simpa using hcs⟩
  obtain ⟨a, len, cap, rfl⟩ := hv
  have ho := open_rd (α := Int) (encE := fun x => [Value.int k x]) (Pr := fun x => (Lit.int k x).wf = true) (size := 1) (fun _ => by simp) (by omega) ht hC (elem_intw he) h
  obtain ⟨l, hl, hr, hp⟩ := ho
  rw [flat_ints] at hr
  subst hl
  exact ⟨l, hr, hp⟩
/-- A struct by value: its cells. -/
theorem open_agg {t : Nat} {fs : Array Field} (ht : Try.prog.underlying t = some (.struct fs)) {v : Value} (hval : ∃ cs, v = .agg cs) {d : DataW H} {p : List MemPlace}
    (h : DataW.Trod enc Try.prog w 0 spare held t v d p) : ∃ cs : List Value, v = .agg cs.toArray ∧ ∃ fuel, DataW.trod enc Try.prog w 0 spare held fuel t cs = some (d, p) := by
  obtain ⟨cs, rfl⟩ := hval
  obtain ⟨fuel, hf⟩ := h
  exact ⟨cs.toList, by simp, fuel, by simpa [Value.cells] using hf⟩
end
end Go.Proofs.Ytmkbinbggiocaaa

set_option linter.unusedVariables false
set_option linter.unusedSimpArgs false
namespace Go.Proofs.Ytmkbinbggiocaaa
open Go.RowKit
namespace Code
theorem infoU8 : (Try.prog.info? 5).map (fun i => (i.zero, i.size, i.bytes)) = some (some (.int .u8 0), 1, 1) := by kernel_rfl
set_option maxHeartbeats 1000000 in
theorem clone_any {w : World} {vb : Value} {bs : List Int} (hb : Rd w 1 vb bs.length (u8s bs)) (hlen : bs.length ≤ 1000000) :
    Calls Try.prog 96 #[vb] w (MadeOut 5 1 bs.length (u8s bs) w) := by
  rcases hb.2 with ⟨rfl, h0⟩ | ⟨ad, c, rfl, h1, h2, h3⟩
  · have hn := fun w : World => Lib.run_eql_slice_nil (P := Try.prog) w 45 5 none 0 0 0 0 Try.underlying45
    have hbs : bs = [] := List.eq_nil_of_length_eq_zero h0
    subst hbs
    clear h0 hb hlen
    go_enter Try.func96, Try.ntmps96
    go_wp2
    go_ret
    exact ⟨none, 0, rfl, World.ownsRow_nil _ _ _ _, Mod.refl _ _, by simp [Value.ownBlock]⟩
  · have hn := fun w : World => Lib.run_eql_slice_nil (P := Try.prog) w 45 5 (some ad) bs.length c 0 0 Try.underlying45
    have hb' := Lib.hid hb
    clear h3 hb
    go_enter Try.func96, Try.ntmps96
    go_wp2_with (at_builtin; refine app_rd rfl (.tmp 5) (.tmp 6) 45 5 _ 1 1 rfl Try.underlying45 infoU8 rfl (by omega) (by omega) (.slice (some ⟨w.heap.size, 0, none⟩) 0 0) (.slice (some ad) bs.length c) 0 bs.length [] (u8s bs) rfl rfl (u8s_one bs) (World.ownsRow_made w #[] 0 (Nat.zero_le _) (Nat.zero_le _) rfl) (hb'.out.still ((Mod.refl _ _).alloc _)) (by omega) ?_; intro a1 c1 w1 h1 h2 h3)
    go_ret
    rw [Nat.zero_add] at h1 h3
    exact ⟨a1, c1, rfl, h1, ((Mod.refl [] w).alloc _).ge h2 (by simp [Value.ownBlock]), ge_of_old _ (by simp [Value.ownBlock]) h3 (by simp)⟩

/-! ### code.Nat -/
/-- A number's bytes: seven bits each, the lowest first. -/
def natB (n : Nat) : List Int := if n < 128 then [(n : Int)] else ((n % 128 + 128 : Nat) : Int) :: natB (n / 128)
termination_by n
decreasing_by omega
theorem natB_small {n : Nat} (h : n < 128) : natB n = [(n : Int)] := by rw [natB, if_pos h]
theorem natB_big {n : Nat} (h : ¬ n < 128) : natB n = ((n % 128 + 128 : Nat) : Int) :: natB (n / 128) := by rw [natB, if_neg h]
theorem natB_len (k : Nat) : ∀ n, n < 128 ^ k → 0 < k → (natB n).length ≤ k := by
  induction k with
  | zero => intro n _ h; omega
  | succ k ih =>
    intro n hn _
    by_cases h : n < 128
    · rw [natB_small h]; simp
    · rw [natB_big h, List.length_cons]
      have : n / 128 < 128 ^ k := by rw [Nat.div_lt_iff_lt_mul (by omega)]; rw [Nat.pow_succ] at hn; omega
      have hk : 0 < k := by
        rcases Nat.eq_zero_or_pos k with rfl | h'
        · simp at this; omega
        · exact h'
      have := ih _ this hk
      omega
theorem or128 (m : Nat) : bits .or .u8 ((m : Int) % 256) 128 = ((m % 128 + 128 : Nat) : Int) := by
  have h : ∀ x : Fin 256, bits .or .u8 ((x.val : Nat) : Int) 128 = ((x.val % 128 + 128 : Nat) : Int) := by decide +kernel
  have h1 := h ⟨m % 256, Nat.mod_lt _ (by omega)⟩
  simp only at h1
  rw [show ((m : Int) % 256) = ((m % 256 : Nat) : Int) from by omega, h1]
  omega
set_option maxHeartbeats 1000000 in
theorem nat_any {w : World} {vb : Value} {bs : List Int} (n : Nat) (hn : n < 18446744073709551616) (hb : Rd w 1 vb bs.length (u8s bs)) (hlen : bs.length ≤ 900000) :
    Calls Try.prog 32 #[vb, .int .u64 n] w (MadeOut 5 1 (bs ++ natB n).length (u8s (bs ++ natB n)) w) := by
  go_enter Try.func32, Try.ntmps32
  go_wp2_with fail
  refine (clone_any hb (by omega)).mono ?_
  rintro e w1 ⟨a1, c1, rfl, hm⟩
  dsimp only
  have htot : (bs ++ natB n).length ≤ 900010 := by
    have := natB_len 10 n (by omega) (by omega)
    rw [List.length_append]; omega
  clear hb
  go_wp2_with fail
  go_loopw [1, 5] (fun i v wr => ∃ (m : Nat) (zs : List Int) (av : Option Addr) (cv : Nat), i = .int .u64 m ∧ v = .slice av zs.length cv ∧ m ≤ n ∧ zs ++ natB m = bs ++ natB n ∧ Made w wr 5 1 av zs.length cv (u8s zs)) (fun i _ _ => (intOf i).toNat)
  case atStart => exact ⟨n, bs, a1, c1, rfl, rfl, Nat.le_refl _, rfl, hm⟩
  case round =>
    clear hm
    obtain ⟨m, zs, av, cv, rfl, rfl, hmn, heq, hm⟩ := hrel
    obtain ⟨wo, hwo⟩ : ∃ wo : World, wo = wr := ⟨_, rfl⟩
    clear hwo
    have hzl : zs.length + (natB m).length ≤ 900010 := by rw [← List.length_append, heq]; exact htot
    have heq' := Lib.hid heq
    clear heq htot
    by_cases h : m < 128
    · have hd : decide (128 ≤ (m : Int)) = false := by simp; omega
      have e : bs ++ natB n = zs ++ [(m : Int)] := by rw [← heq'.out, natB_small h]
      have e' := Lib.hid e
      clear e
      have hz : zs.length + 1 ≤ 900010 := by rw [natB_small h] at hzl; simpa using hzl
      go_wp2_with (at_builtin; refine app_own rfl (.tmp 18) (.tmp 21) 45 5 _ 1 1 rfl Try.underlying45 infoU8 rfl (by omega) (by omega) (.slice av zs.length cv) zs.length 1 (u8s zs) [.int .u8 m] rfl rfl (by simp) rfl (by simp [Value.oneCell']) hm.own (by omega) ?_; intro aA cA wA hA mA vA)
      go_ret
      rw [e'.out, List.length_append, u8s_append]
      exact ⟨aA, cA, rfl, hm.push hA mA vA⟩
    · have hd : decide (128 ≤ (m : Int)) = true := by simp; omega
      have e : (zs ++ [((m % 128 + 128 : Nat) : Int)]) ++ natB (m / 128) = bs ++ natB n := by rw [← heq'.out, natB_big h]; simp
      have e' := Lib.hid e
      clear e
      have hz : zs.length + 1 ≤ 900010 := by rw [natB_big h, List.length_cons] at hzl; omega
      have ho := or128 m
      go_wp2_with (at_builtin; refine app_own rfl (.tmp 12) (.tmp 16) 45 5 _ 1 1 rfl Try.underlying45 infoU8 rfl (by omega) (by omega) (.slice av zs.length cv) zs.length 1 (u8s zs) (u8s [((m % 128 + 128 : Nat) : Int)]) rfl rfl (by simp) rfl (u8s_one _) hm.own (by omega) ?_; intro aA cA wA hA mA vA)
      go_roundw
      case rel =>
        refine ⟨m / 128, zs ++ [((m % 128 + 128 : Nat) : Int)], aA, cA, ?_, by rw [List.length_append]; rfl, by omega, e'.out, ?_⟩
        · simp
        · rw [List.length_append, u8s_append]; exact hm.push hA mA vA
      case measure => simp [intOf]; omega
/-! ### sign, Int -/
def signN (n : Int) : Nat := if 0 ≤ n then (2 * n).toNat else (-2 * n - 1).toNat
theorem xor_ones (x : Nat) (h : x < 18446744073709551616) : x ^^^ 18446744073709551615 = 18446744073709551615 - x := by
  have h1 : (BitVec.ofNat 64 x ^^^ BitVec.allOnes 64).toNat = x ^^^ 18446744073709551615 := by
    rw [BitVec.toNat_xor, BitVec.toNat_ofNat, BitVec.toNat_allOnes]
    have : x % 2 ^ 64 = x := Nat.mod_eq_of_lt (by simpa using h)
    rw [this]
  have h2 : (~~~ (BitVec.ofNat 64 x)).toNat = 18446744073709551615 - x := by
    rw [BitVec.toNat_not, BitVec.toNat_ofNat]
    have : x % 2 ^ 64 = x := Nat.mod_eq_of_lt (by simpa using h)
    rw [this]
  rw [← h1, BitVec.xor_allOnes, h2]
theorem sign_pos_bits (n : Int) (h0 : 0 ≤ n) (h1 : n ≤ 9223372036854775807) : bits .xor .u64 (n * 2) (n / 9223372036854775808) = ((signN n : Nat) : Int) := by
  have e : n / 9223372036854775808 = 0 := by omega
  rw [e, u64_xor _ _ (by omega) (by omega) (by omega) (by omega)]
  simp only [Int.toNat_zero, Nat.xor_zero, signN, if_pos h0]
  omega
theorem sign_neg_bits (n : Int) (h0 : n < 0) (h1 : -9223372036854775808 ≤ n) : bits .xor .u64 (IntKind.u64.wrap (IntKind.u64.wrap n * 2)) (IntKind.u64.wrap (n / 9223372036854775808)) = ((signN n : Nat) : Int) := by
  have e : n / 9223372036854775808 = -1 := by omega
  have e1 : IntKind.u64.wrap (-1) = 18446744073709551615 := by rw [IntKind.wrap_u64]; rfl
  have e2 : IntKind.u64.wrap (IntKind.u64.wrap n * 2) = 2 * n + 18446744073709551616 := by rw [IntKind.wrap_u64, IntKind.wrap_u64]; omega
  rw [e, e1, e2, u64_xor _ _ (by omega) (by omega) (by omega) (by omega)]
  rw [show (18446744073709551615 : Int).toNat = 18446744073709551615 from rfl, xor_ones _ (by omega)]
  simp only [signN, if_neg (show ¬ 0 ≤ n by omega)]
  omega
theorem signN_lt (n : Int) (h0 : -9223372036854775808 ≤ n) (h1 : n ≤ 9223372036854775807) : signN n < 18446744073709551616 := by
  unfold signN; split <;> omega
set_option maxHeartbeats 1000000 in
theorem sign_any (n : Int) (w : World) (h0 : -9223372036854775808 ≤ n) (h1 : n ≤ 9223372036854775807) :
    Calls Try.prog 97 #[.int .i64 n] w fun e w' => e = .returned (.int .u64 (signN n)) ∧ w = w' := by
  by_cases h : 0 ≤ n
  · have e := Lib.hid (sign_pos_bits n h h1)
    go_enter Try.func97, Try.ntmps97
    go_wp2
    go_ret
    exact ⟨by rw [← e.out]; rfl, rfl⟩
  · have h' : n < 0 := by omega
    have e := Lib.hid (sign_neg_bits n h' h0)
    clear h
    go_enter Try.func97, Try.ntmps97
    go_wp2
    go_ret
    exact ⟨by rw [← e.out]; rfl, rfl⟩
set_option maxHeartbeats 1000000 in
theorem int_any {w : World} {vb : Value} {bs : List Int} (n : Int) (h0 : -9223372036854775808 ≤ n) (h1 : n ≤ 9223372036854775807) (hb : Rd w 1 vb bs.length (u8s bs)) (hlen : bs.length ≤ 900000) :
    Calls Try.prog 34 #[vb, .int .i64 n] w (MadeOut 5 1 (bs ++ natB (signN n)).length (u8s (bs ++ natB (signN n))) w) := by
  go_enter Try.func34, Try.ntmps34
  go_wp2_with fail
  refine (sign_any n w h0 h1).mono ?_
  rintro e w1 ⟨rfl, rfl⟩
  dsimp only
  have hs := signN_lt n h0 h1
  have hn := nat_any (signN n) hs hb hlen
  generalize signN n = m at *
  clear hb
  go_wp2_with fail
  refine hn.mono ?_
  rintro e w1 ⟨a1, c1, rfl, hm⟩
  dsimp only
  go_wp2_with fail
  go_ret
  exact ⟨a1, c1, rfl, hm⟩
end Code
end Go.Proofs.Ytmkbinbggiocaaa

set_option linter.unusedVariables false
set_option linter.unusedSimpArgs false
namespace Go.Proofs.Ytmkbinbggiocaaa
open Go.RowKit
namespace Code
/-- The number that stands at the head of bytes, and how many bytes it has; i bytes have gone ahead. -/
def natP : Nat → List Int → Option (Nat × Nat)
  | _, [] => none
  | i, x :: r =>
    if 9 < i ∨ (i = 9 ∧ 1 < x % 128) then none
    else if x < 128 then (if i = 0 ∨ 0 < x then some (x.toNat, 1) else none)
    else (natP (i + 1) r).map fun p => ((x % 128).toNat + 128 * p.1, p.2 + 1)
theorem natP_cons (i : Nat) (x : Int) (r : List Int) : natP i (x :: r) = if 9 < i ∨ (i = 9 ∧ 1 < x % 128) then none
    else if x < 128 then (if i = 0 ∨ 0 < x then some (x.toNat, 1) else none)
    else (natP (i + 1) r).map fun p => ((x % 128).toNat + 128 * p.1, p.2 + 1) := by rw [natP]
theorem pow7 (j : Nat) : (2 : Int) ^ (7 * j) = ((128 ^ j : Nat) : Int) := by
  rw [Int.natCast_pow, Int.pow_mul]; rfl
theorem or_shift (m p j : Nat) (hm : m < 128 ^ j) (hp : p * 128 ^ j < 18446744073709551616) (hs : m + p * 128 ^ j < 18446744073709551616) :
    bits .or .u64 (m : Int) (IntKind.u64.wrap ((p : Int) * 2 ^ (7 * j))) = ((m + p * 128 ^ j : Nat) : Int) := by
  rw [pow7]
  have e : IntKind.u64.wrap ((p : Int) * ((128 ^ j : Nat) : Int)) = ((p * 128 ^ j : Nat) : Int) := by
    rw [IntKind.wrap_u64, ← Int.natCast_mul]; omega
  rw [e, u64_or _ _ (by omega) (by omega) (by omega) (by omega)]
  simp only [Int.toNat_natCast]
  have h7 : 128 ^ j = 2 ^ (7 * j) := by rw [Nat.pow_mul]
  rw [Nat.or_comm, h7, Nat.mul_comm p]
  rw [h7] at hm
  rw [← Nat.two_pow_add_eq_or_of_lt hm p, Nat.add_comm]
theorem natB_ne (n : Nat) : natB n ≠ [] := by
  by_cases h : n < 128
  · rw [natB_small h]; simp
  · rw [natB_big h]; simp
theorem natP_sound : ∀ (xs : List Int) (i n k : Nat), (∀ x ∈ xs, 0 ≤ x ∧ x < 256) → natP i xs = some (n, k) → natB n = xs.take k ∧ k = (natB n).length ∧ (i = 0 ∨ 0 < n) ∧ i ≤ 9 ∧ n < 2 * 128 ^ (9 - i)
  | [], i, n, k, _, h => by simp [natP] at h
  | x :: r, i, n, k, hb, h => by
    have hx := hb x (by simp)
    unfold natP at h
    split at h
    · exact absurd h (by simp)
    rename_i hi
    split at h
    · rename_i h1
      split at h
      · rename_i h2
        simp only [Option.some.injEq, Prod.mk.injEq] at h
        obtain ⟨rfl, rfl⟩ := h
        rw [natB_small (by omega)]
        refine ⟨by simp; omega, rfl, by omega, by omega, ?_⟩
        have hi9 : i ≤ 9 := by omega
        rcases Nat.lt_or_ge i 9 with h9 | h9
        · have : 128 ^ 1 ≤ 128 ^ (9 - i) := Nat.pow_le_pow_right (by omega) (by omega)
          omega
        · have : i = 9 := by omega
          subst this
          have : x % 128 = x := by omega
          simp; omega
      · exact absurd h (by simp)
    · rename_i h1
      cases hp : natP (i + 1) r with
      | none => simp [hp] at h
      | some p =>
        obtain ⟨m, j⟩ := p
        simp only [hp, Option.map_some, Option.some.injEq, Prod.mk.injEq] at h
        obtain ⟨rfl, rfl⟩ := h
        obtain ⟨h3, h4, h5, h6, h7⟩ := natP_sound r (i + 1) m j (fun y hy => hb y (by simp [hy])) hp
        have hm : 0 < m := by omega
        rw [natB_big (by omega)]
        have e1 : ((x % 128).toNat + 128 * m) / 128 = m := by omega
        have e2 : (((x % 128).toNat + 128 * m) % 128 + 128 : Nat) = x.toNat := by omega
        rw [e1, e2, List.length_cons, ← h4, h3]
        refine ⟨by simp; omega, rfl, by omega, by omega, ?_⟩
        have : 128 ^ (9 - i) = 128 * 128 ^ (9 - (i + 1)) := by rw [← Nat.pow_succ']; congr 1; omega
        omega
theorem natP_full : ∀ (n i : Nat) (xs : List Int), i ≤ 9 → n < 2 * 128 ^ (9 - i) → (i = 0 ∨ 0 < n) → natP i (natB n ++ xs) = some (n, (natB n).length) := by
  intro n
  induction n using Nat.strongRecOn with
  | ind n ih =>
    intro i xs hi hn h0
    by_cases h : n < 128
    · rw [natB_small h, List.singleton_append]
      unfold natP
      have : ¬ (9 < i ∨ (i = 9 ∧ 1 < (n : Int) % 128)) := by
        rintro (h1 | ⟨rfl, h1⟩)
        · omega
        · simp at hn; omega
      rw [if_neg this, if_pos (by omega), if_pos (by omega)]
      simp
    · rw [natB_big h, List.cons_append]
      unfold natP
      have h9 : i < 9 := by
        rcases Nat.lt_or_ge i 9 with h9 | h9
        · exact h9
        · have : i = 9 := by omega
          subst this
          simp at hn; omega
      have : ¬ (9 < i ∨ (i = 9 ∧ 1 < ((n % 128 + 128 : Nat) : Int) % 128)) := by omega
      rw [if_neg this, if_neg (by omega)]
      have e : 128 ^ (9 - i) = 128 * 128 ^ (9 - (i + 1)) := by rw [← Nat.pow_succ']; congr 1; omega
      rw [ih (n / 128) (by omega) (i + 1) xs (by omega) (by omega) (by omega)]
      simp only [Option.map_some, List.length_cons]
      congr 2
      omega
theorem natP_back (n : Nat) (h : n < 18446744073709551616) (xs : List Int) : natP 0 (natB n ++ xs) = some (n, (natB n).length) :=
  natP_full n 0 xs (by omega) (by simpa using h) (.inl rfl)
end Code
end Go.Proofs.Ytmkbinbggiocaaa

set_option linter.unusedVariables false
set_option linter.unusedSimpArgs false
namespace Go.Proofs.Ytmkbinbggiocaaa
open Go.RowKit
namespace Code
def valN : List Int → Nat
  | [] => 0
  | x :: r => (x % 128).toNat + 128 * valN r
theorem valN_snoc : ∀ (l : List Int) (x : Int), valN (l ++ [x]) = valN l + 128 ^ l.length * (x % 128).toNat
  | [], x => by simp [valN]
  | y :: l, x => by
    rw [List.cons_append, valN, valN, valN_snoc l x, List.length_cons, Nat.pow_succ, Nat.mul_add, Nat.mul_comm (128 ^ l.length) 128, Nat.mul_assoc]
    omega
theorem natB_shape (n : Nat) : valN (natB n) = n ∧ ∃ A x, natB n = A ++ [x] ∧ (∀ y ∈ A, 128 ≤ y) ∧ 0 ≤ x ∧ x < 128 := by
  induction n using Nat.strongRecOn with
  | ind n ih =>
    by_cases h : n < 128
    · rw [natB_small h]
      refine ⟨?_, [], n, rfl, by simp, by omega, by omega⟩
      simp only [valN]
      omega
    · rw [natB_big h]
      obtain ⟨h1, A, x, h2, h3, h4, h5⟩ := ih (n / 128) (by omega)
      refine ⟨?_, ((n % 128 + 128 : Nat) : Int) :: A, x, by rw [h2]; rfl, ?_, h4, h5⟩
      · rw [valN, h1]
        omega
      · intro y hy
        rcases List.mem_cons.1 hy with rfl | hy
        · omega
        · exact h3 y hy
/-- Where the first byte below 128 stands, there a number that stands at the head ends. -/
theorem natP_ends {xs : List Int} {n j k : Nat} {x : Int} (hb : ∀ x ∈ xs, 0 ≤ x ∧ x < 256) (h : natP 0 xs = some (n, j)) : ∃ y, xs[j - 1]? = some y ∧ y < 128 ∧ 0 < j ∧ j ≤ 10 ∧ n < 18446744073709551616 ∧ natB n = xs.take j ∧ ∀ i z, i < j - 1 → xs[i]? = some z → 128 ≤ z := by
  obtain ⟨h1, h2, _, _, h5⟩ := natP_sound xs 0 n j hb h
  obtain ⟨_, A, y, h3, h4, h6, h7⟩ := natB_shape n
  have hn : n < 18446744073709551616 := by simpa using h5
  have hl10 := natB_len 10 n (by omega) (by omega)
  have hj : j = A.length + 1 := by rw [h2, h3]; simp
  rw [h3] at h1
  have hjl : j ≤ xs.length := by
    have := congrArg List.length h1
    rw [List.length_take] at this
    simp at this
    omega
  refine ⟨y, ?_, h7, by omega, by omega, hn, by rw [h3, h1], fun i z hi hz => ?_⟩
  · have : (xs.take j)[j - 1]? = some y := by rw [← h1, hj]; simp
    rw [List.getElem?_take, if_pos (by omega)] at this
    exact this
  · have : (xs.take j)[i]? = some z := by rw [List.getElem?_take, if_pos (by omega)]; exact hz
    rw [← h1, List.getElem?_append_left (by omega)] at this
    exact h4 z (List.mem_of_getElem? this)
theorem refnat_hit {xs : List Int} {k : Nat} {x : Int} (hb : ∀ x ∈ xs, 0 ≤ x ∧ x < 256) (hx : xs[k]? = some x) (hx1 : x < 128) (hk : ∀ i z, i < k → xs[i]? = some z → 128 ≤ z) :
    (natB (valN (xs.take (k + 1)) % 18446744073709551616) = xs.take (k + 1) → natP 0 xs = some (valN (xs.take (k + 1)) % 18446744073709551616, k + 1)) ∧
    (natB (valN (xs.take (k + 1)) % 18446744073709551616) ≠ xs.take (k + 1) → natP 0 xs = none) := by
  have hkl : k < xs.length := (List.getElem?_eq_some_iff.1 hx).1
  refine ⟨fun h => ?_, fun h => ?_⟩
  · have h2 := natP_back (valN (xs.take (k + 1)) % 18446744073709551616) (by omega) (xs.drop (k + 1))
    rw [h, List.take_append_drop, List.length_take] at h2
    rw [h2]
    congr 2
    omega
  · cases hp : natP 0 xs with
    | none => rfl
    | some p =>
      obtain ⟨n, j⟩ := p
      obtain ⟨y, hy, hy1, hj0, _, hn, hB, hlt⟩ := natP_ends (k := 0) (x := 0) hb hp
      have hjk : j = k + 1 := by
        rcases Nat.lt_trichotomy (j - 1) k with h' | h' | h'
        · have := hk (j - 1) y h' hy; omega
        · omega
        · have := hlt k x h' hx; omega
      subst hjk
      exfalso
      apply h
      have hv := (natB_shape n).1
      rw [hB] at hv
      rw [hv, Nat.mod_eq_of_lt hn, hB]
theorem refnat_miss {xs : List Int} (hb : ∀ x ∈ xs, 0 ≤ x ∧ x < 256) (hk : ∀ i z, i < 10 → xs[i]? = some z → 128 ≤ z) : natP 0 xs = none := by
  cases hp : natP 0 xs with
  | none => rfl
  | some p =>
    obtain ⟨n, j⟩ := p
    obtain ⟨y, hy, hy1, hj0, hj10, _⟩ := natP_ends (k := 0) (x := 0) hb hp
    have := hk (j - 1) y (by omega) hy
    omega
end Code
end Go.Proofs.Ytmkbinbggiocaaa

set_option linter.unusedVariables false
set_option linter.unusedSimpArgs false
namespace Go.Proofs.Ytmkbinbggiocaaa
open Go.RowKit
namespace Code
/-- May the numbers be: each above the last one, and below n? -/
def risesB (n : Int) : Int → List Int → Bool
  | _, [] => true
  | last, v :: l => decide (last < v) && decide (v < n) && risesB n v l
def bit (v : Int) : Nat := 2 ^ (v % 8).toNat
def byteAt (l : List Int) (j : Nat) : Nat := ((l.filter fun v => decide (v / 8 = (j : Int))).map bit).sum
def bitsB (m : Nat) (l : List Int) : List Int := (List.range m).map fun j => ((byteAt l j : Nat) : Int)
theorem bitsB_len (m : Nat) (l : List Int) : (bitsB m l).length = m := by simp [bitsB]
theorem bitsB_nil (m : Nat) : bitsB m [] = List.replicate m 0 := by
  apply List.ext_getElem
  · simp [bitsB]
  · intro i h1 h2; simp [bitsB, byteAt]
theorem byteAt_snoc (l : List Int) (v : Int) (j : Nat) : byteAt (l ++ [v]) j = byteAt l j + if v / 8 = (j : Int) then bit v else 0 := by
  unfold byteAt
  rw [List.filter_append]
  by_cases h : v / 8 = (j : Int) <;> simp [h]
theorem bitsB_get (m : Nat) (l : List Int) (j : Nat) (h : j < m) : (bitsB m l)[j]? = some ((byteAt l j : Nat) : Int) := by simp [bitsB, h]
theorem bitsB_snoc (m : Nat) (l : List Int) (v : Int) (h0 : 0 ≤ v) (h : (v / 8).toNat < m) : bitsB m (l ++ [v]) = (bitsB m l).set (v / 8).toNat ((byteAt l (v / 8).toNat + bit v : Nat) : Int) := by
  apply List.ext_getElem
  · simp [bitsB]
  · intro i h1 h2
    simp only [bitsB, List.length_map, List.length_range] at h1
    rw [List.getElem_set]
    by_cases hi : (v / 8).toNat = i
    · subst hi
      simp only [if_true, bitsB, List.getElem_map, List.getElem_range, byteAt_snoc]
      rw [if_pos (by omega)]
    · simp only [if_neg hi, bitsB, List.getElem_map, List.getElem_range, byteAt_snoc]
      rw [if_neg (by omega), Nat.add_zero]
/-- Rising, told by places. -/
def Rising (l : List Int) : Prop := ∀ (i j : Nat) (x y : Int), l[i]? = some x → l[j]? = some y → i < j → x < y
theorem rises_iff (n : Int) : ∀ (l : List Int) (last : Int), risesB n last l = true ↔ (Rising l ∧ ∀ x ∈ l, last < x ∧ x < n)
  | [], last => by simp [risesB, Rising]
  | v :: l, last => by
    simp only [risesB, Bool.and_eq_true, decide_eq_true_eq, rises_iff n l v]
    constructor
    · rintro ⟨⟨h1, h2⟩, h3, h4⟩
      refine ⟨fun i j x y hx hy hij => ?_, fun x hx => ?_⟩
      · cases i with
        | zero =>
          cases j with
          | zero => omega
          | succ j => simp at hx hy; subst hx; exact (h4 y (List.mem_of_getElem? hy)).1
        | succ i =>
          cases j with
          | zero => omega
          | succ j => simp at hx hy; exact h3 i j x y hx hy (by omega)
      · rcases List.mem_cons.1 hx with rfl | hx
        · exact ⟨h1, h2⟩
        · have := h4 x hx; exact ⟨by omega, this.2⟩
    · rintro ⟨h1, h2⟩
      refine ⟨h2 v (by simp), fun i j x y hx hy hij => h1 (i + 1) (j + 1) x y (by simpa using hx) (by simpa using hy) (by omega), fun x hx => ⟨?_, (h2 x (List.mem_cons_of_mem _ hx)).2⟩⟩
      obtain ⟨j, hj⟩ := List.getElem?_of_mem hx
      exact h1 0 (j + 1) v x (by simp) (by simpa using hj) (by omega)
theorem byteAt_lt {l : List Int} (hr : Rising l) (h0 : ∀ x ∈ l, 0 ≤ x) (k : Nat) : ∀ v : Int, 0 ≤ v → (∀ (i : Nat) (x : Int), i < k → l[i]? = some x → x < v) → byteAt (l.take k) (v / 8).toNat < bit v := by
  induction k with
  | zero => intro v _ _; simp only [List.take_zero, byteAt, List.filter_nil, List.map_nil, List.sum_nil, bit]; exact Nat.two_pow_pos _
  | succ k ih =>
    intro v hv hlt
    have hprev := ih v hv (fun i x hi hx => hlt i x (by omega) hx)
    cases hx : l[k]? with
    | none => rw [List.take_add_one, hx]; simpa using hprev
    | some u =>
      have hu := hlt k u (by omega) hx
      have hu0 := h0 u (List.mem_of_getElem? hx)
      have e : l.take (k + 1) = l.take k ++ [u] := by rw [List.take_add_one, hx]; rfl
      rw [e, byteAt_snoc]
      by_cases h : u / 8 = (((v / 8).toNat : Nat) : Int)
      · rw [if_pos h]
        have h1 := ih u hu0 (fun i x hi hx' => hr i k x u hx' hx hi)
        have e8 : (u / 8).toNat = (v / 8).toNat := by omega
        rw [e8] at h1
        have h2 : (u % 8).toNat + 1 ≤ (v % 8).toNat := by omega
        have h3 : 2 ^ ((u % 8).toNat + 1) ≤ 2 ^ (v % 8).toNat := Nat.pow_le_pow_right (by omega) h2
        unfold bit at h1 ⊢
        rw [Nat.pow_succ] at h3
        omega
      · rw [if_neg h]; omega
theorem bit_le (v : Int) (h : 0 ≤ v) : bit v ≤ 128 := by
  unfold bit
  have : (v % 8).toNat ≤ 7 := by omega
  calc 2 ^ (v % 8).toNat ≤ 2 ^ 7 := Nat.pow_le_pow_right (by omega) this
    _ = 128 := rfl
theorem or_bit (k x : Nat) (hk : k < 8) (hx : x < 2 ^ k) : bits .or .u8 (x : Int) ((2 ^ k : Nat) : Int) = ((x + 2 ^ k : Nat) : Int) := by
  have h : ∀ k : Fin 8, ∀ x : Fin 256, x.val < 2 ^ k.val → bits .or .u8 ((x.val : Nat) : Int) ((2 ^ k.val : Nat) : Int) = ((x.val + 2 ^ k.val : Nat) : Int) := by decide +kernel
  have hx2 : x < 256 := Nat.lt_of_lt_of_le hx (by
    calc 2 ^ k ≤ 2 ^ 8 := Nat.pow_le_pow_right (by omega) (by omega)
      _ = 256 := rfl)
  exact h ⟨k, hk⟩ ⟨x, hx2⟩ hx
theorem or_bit_walk (x : Int) (b0 : Nat) (hx : 0 ≤ x) (h : b0 < bit x) : bits .or .u8 (b0 : Int) (2 ^ (x % 8).toNat % 256) = ((b0 + bit x : Nat) : Int) := by
  have hk : (x % 8).toNat < 8 := by omega
  have e : ((2 : Int) ^ (x % 8).toNat % 256) = ((2 ^ (x % 8).toNat : Nat) : Int) := by
    have h1 : (2 : Nat) ^ (x % 8).toNat ≤ 128 := bit_le x hx
    have h2 : ((2 : Int) ^ (x % 8).toNat) = ((2 ^ (x % 8).toNat : Nat) : Int) := by simp
    rw [h2]
    generalize 2 ^ (x % 8).toNat = p at *
    omega
  rw [e]
  exact or_bit _ _ hk h
end Code
end Go.Proofs.Ytmkbinbggiocaaa
