/- math/bits.TrailingZeros8, and the walk of a set's bytes. -/
import Derived.Test.YtmkbinbggiocaaaBitsBack
import Derived.Test.YtmkbinbggiocaaaReader2
set_option linter.unusedVariables false
set_option linter.unusedSimpArgs false
namespace Go.Proofs.Ytmkbinbggiocaaa
open Go.RowKit
namespace Code
set_option maxRecDepth 100000 in
set_option maxHeartbeats 1000000 in
theorem tz_any (b : Nat) (hb : b < 256) (w : World) : Calls Try.prog 104 #[.int .u8 b] w fun e w' => e = .returned (.int .i64 (((low b).head?.getD 8 : Nat) : Int)) ∧ w = w' := by
  have hb0 : (0 : Int) ≤ (b : Int) := by omega
  have hb1 : (b : Int) < 256 := by omega
  go_enter Try.func104, Try.ntmps104
  go_wp2_with fail
  go_ret
  refine ⟨congrArg (fun x => Ending.returned (Value.int .i64 x)) ?_, rfl⟩
  revert b
  decide +kernel
end Code
end Go.Proofs.Ytmkbinbggiocaaa
