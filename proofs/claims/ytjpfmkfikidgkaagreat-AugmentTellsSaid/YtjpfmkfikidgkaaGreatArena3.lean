/- What the calls on an arena of whole numbers do, part 3: Give, Len, Room, New. -/
import Derived.Test.YtjpfmkfikidgkaaGreatArena2
set_option linter.unusedVariables false
set_option linter.unusedSimpArgs false
namespace Go.Proofs.YtjpfmkfikidgkaaGreat
open Go.RowKit Arena
namespace ArI
theorem count_le {A : Ar Int} {C : List (RC Int)} {f : Int} (h : Fits 0 A C f) : A.count ≤ 1048576 ∧ A.count ≤ C.length ∧ C.length ≤ A.room ∧ A.room ≤ 1048576 := by
  have h4 := h.fits
  have h5 := h.most
  have h6 : A.count ≤ A.cells.length := Nat.sub_le _ _
  have h7 := h.len
  omega
/-! ### Len, Room -/
/-! ### New -/
def roomOf (n : Int) : Nat := (min (max n 0) 1048576).toNat
/-! ### Give -/
end ArI
end Go.Proofs.YtjpfmkfikidgkaaGreat
