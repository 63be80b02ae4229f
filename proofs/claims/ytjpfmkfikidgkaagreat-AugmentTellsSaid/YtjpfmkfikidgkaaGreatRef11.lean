/- What the calls on the reference's arena do, told of the plain arena. -/
import Derived.Test.YtjpfmkfikidgkaaGreatArena3
set_option linter.unusedVariables false
set_option linter.unusedSimpArgs false
namespace Go.Proofs.YtjpfmkfikidgkaaGreat
open Go.RowKit Arena
namespace Ref11

def ints (l : List Int) : List Value := l.map fun x => .int .i64 x
def bools (l : List Bool) : List Value := l.map fun x => .bool x
def nats (l : List Nat) : List Value := l.map fun (x : Nat) => Value.int .i64 (x : Int)

/-- What holds of the plain arena. -/
structure Ok (A : Ar Int) : Prop where
  fits : A.cells.length ≤ A.room
  most : A.room ≤ 1048576
  dead : ∀ i : Nat, A.cells[i]? = some none ↔ i ∈ A.free
  nodup : A.free.Nodup
theorem ok_of {z : Int} {A : Ar Int} {C : List (RC Int)} {f : Int} (h : Fits z A C f) : Ok A := ⟨h.fits, h.most, h.dead, h.nodup⟩

structure Same (A : Ar Int) (X : List Int) (I : List Bool) : Prop where
  lx : X.length = A.cells.length
  li : I.length = A.cells.length
  live : ∀ (i : Nat) (x : Int), A.cells[i]? = some (some x) → X[i]? = some x ∧ I[i]? = some true
  dead : ∀ i : Nat, A.cells[i]? = some none → I[i]? = some false

/-! ### New -/
/-! ### At -/
theorem row_form {w : World} {e : Nat} {v : Value} {xs : List Value} {n i : Nat} (h : w.ownsRow 0 e 1 v n xs) (hi : i < n) : ∃ g cap, v = .slice (some ⟨g, 0, none⟩) n cap := by
  rcases h.2 with ⟨rfl, h0⟩ | ⟨g, cap, cur, rfl, _⟩
  · omega
  · exact ⟨g, cap, rfl⟩
theorem row_slice {w : World} {e : Nat} {v : Value} {xs : List Value} {n : Nat} (h : w.ownsRow 0 e 1 v n xs) : ∃ a cap, v = .slice a n cap := by
  rcases h.2 with ⟨rfl, h0⟩ | ⟨g, cap, cur, rfl, _⟩
  · exact ⟨none, 0, by rw [h0]⟩
  · exact ⟨_, cap, rfl⟩
theorem ints_get {l : List Int} {i : Nat} {x : Int} (h : l[i]? = some x) : (ints l)[i]? = some (.int .i64 x) := by simp [ints, h]
theorem bools_get {l : List Bool} {i : Nat} {x : Bool} (h : l[i]? = some x) : (bools l)[i]? = some (.bool x) := by simp [bools, h]
theorem row_at {w : World} {e : Nat} {g cap n : Nat} {xs : List Value} (h : w.ownsRow 0 e 1 (.slice (some ⟨g, 0, none⟩) n cap) n xs) (i : Nat) {u : Value} (hu : xs[i]? = some u) : w.cell? ⟨g, i, none⟩ = some u := by
  have hi := (List.getElem?_eq_some_iff.1 hu).1
  rw [h.cellAt i (by rw [← h.1]; exact hi), hu]
end Ref11
end Go.Proofs.YtjpfmkfikidgkaaGreat
