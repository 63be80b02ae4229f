/- What the calls on an arena of whole numbers do, part 2: At, Set, Free, Give, Len, Room, New. -/
import Derived.Test.YtjpfmkfikidgkaaGreatArena
set_option linter.unusedVariables false
set_option linter.unusedSimpArgs false
namespace Go.Proofs.YtjpfmkfikidgkaaGreat
open Go.RowKit Arena
namespace ArI

theorem get_some {A : Ar Int} {n x : Int} (h : A.get n = some x) : 0 ≤ n ∧ A.cells[n.toNat]? = some (some x) := by
  unfold Ar.get at h
  split at h
  · rename_i h0
    refine ⟨h0, ?_⟩
    cases hc : A.cells[n.toNat]? with
    | none => simp [hc] at h
    | some o => simp [hc] at h; rw [h]
  · cases h
/-! ### At -/
/-! ### Set -/
theorem put_flat (C : List (RC Int)) (i : Nat) (x y : Int) (hc : C[i]? = some (y, true, 0)) : (flat encC C).set (i * 3) (.int .i64 x) = flat encC (C.set i (x, true, 0)) := by
  obtain ⟨hi, he⟩ := List.getElem?_eq_some_iff.1 hc
  rw [flat_split C i hi, show i * 3 = i * 3 + 0 from rfl, mid_set _ _ _ (i * 3) 0 _ (flat_take_length encC_len C i hi) (by rw [encC_len]; omega), ← flat_mid C i hi, he]
  rfl
/-! ### Free -/
theorem three_flat (C : List (RC Int)) (i : Nat) (c : RC Int) (hi : i < C.length) :
    (((flat encC C).set (i * 3) (.int .i64 c.1)).set (i * 3 + 1) (.bool c.2.1)).set (i * 3 + 2) (.int .i64 c.2.2) = flat encC (C.set i c) := by
  have hl := flat_take_length encC_len C i hi
  rw [flat_split C i hi, show i * 3 = i * 3 + 0 from rfl, mid_set _ _ _ (i * 3) 0 _ hl (by rw [encC_len]; omega), mid_set _ _ _ (i * 3) 1 _ hl (by simp [encC_len]),
    mid_set _ _ _ (i * 3) 2 _ hl (by simp [encC_len]), ← flat_mid C i hi]
  rfl
end ArI
end Go.Proofs.YtjpfmkfikidgkaaGreat
