/- The numbers that are given: both arenas tell the same ones. -/
import Derived.Test.YtjpfmkfikidgkaaGreatRef11c
import Derived.Test.YtjpfmkfikidgkaaGreatKit2
set_option linter.unusedVariables false
set_option linter.unusedSimpArgs false
namespace Go.Proofs.YtjpfmkfikidgkaaGreat
open Go.RowKit Arena
namespace ArI
def liveTo {E : Type} (A : Ar E) (k : Nat) : List Nat := (List.range k).filter fun i => (A.cells[i]?).join.isSome
def live {E : Type} (A : Ar E) : List Nat := liveTo A A.cells.length
theorem liveTo_len {E : Type} (A : Ar E) (k : Nat) : (liveTo A k).length ≤ k := by
  have := List.length_filter_le (fun i => (A.cells[i]?).join.isSome) (List.range k)
  simpa [liveTo] using this
theorem liveTo_yes {E : Type} {A : Ar E} {k : Nat} {x : E} (h : A.cells[k]? = some (some x)) : liveTo A (k + 1) = liveTo A k ++ [k] := by
  simp [liveTo, List.range_succ, List.filter_append, h]
theorem liveTo_no {E : Type} {A : Ar E} {k : Nat} (h : A.cells[k]? = some none) : liveTo A (k + 1) = liveTo A k := by
  simp [liveTo, List.range_succ, List.filter_append, h]
end ArI
namespace Ref11
end Ref11
end Go.Proofs.YtjpfmkfikidgkaaGreat
