/- Plain facts on lists of values that are laid one behind the other, each as equally many cells. -/
import Derived.WalkKit
set_option linter.unusedVariables false
set_option linter.unusedSimpArgs false
namespace Go.Proofs.YtjpfmkfikidgkaaGreat
open Go.RowKit

section
variable {α : Type} (enc : α → List Value) (size : Nat)
def flat (l : List α) : List Value := l.flatMap enc
variable {enc} {size}
theorem flat_length (he : ∀ x, (enc x).length = size) (l : List α) : (flat enc l).length = l.length * size := by
  induction l with
  | nil => simp [flat]
  | cons a l ih => simp only [flat, List.flatMap_cons, List.length_append, he, List.length_cons] at ih ⊢; rw [ih, Nat.add_mul]; omega
theorem flat_append (l m : List α) : flat enc (l ++ m) = flat enc l ++ flat enc m := by simp [flat]
theorem flat_one (x : α) : flat enc [x] = enc x := by simp [flat]
theorem flat_split (l : List α) (k : Nat) (h : k < l.length) : flat enc l = flat enc (l.take k) ++ enc l[k] ++ flat enc (l.drop (k + 1)) := by
  have e : l = l.take k ++ (l[k] :: l.drop (k + 1)) := by rw [← List.drop_eq_getElem_cons h, List.take_append_drop]
  have e2 : flat enc l = flat enc (l.take k ++ (l[k] :: l.drop (k + 1))) := congrArg (flat enc) e
  rw [e2, flat, flat, flat, List.flatMap_append, List.flatMap_cons, List.append_assoc]
theorem flat_get (he : ∀ x, (enc x).length = size) (l : List α) (k j : Nat) (h : k < l.length) (hj : j < size) : (flat enc l)[k * size + j]? = (enc l[k])[j]? := by
  have hl : (flat enc (l.take k)).length = k * size := by rw [flat_length he, List.length_take, Nat.min_eq_left (Nat.le_of_lt h)]
  rw [flat_split l k h, List.append_assoc, List.getElem?_append_right (by omega), hl, Nat.add_sub_cancel_left, List.getElem?_append_left (by rw [he]; exact hj)]
theorem mid_set {β : Type} (A B C : List β) (n j : Nat) (v : β) (hA : A.length = n) (hj : j < B.length) : (A ++ B ++ C).set (n + j) v = A ++ B.set j v ++ C := by
  subst hA
  rw [List.append_assoc, List.set_append_right _ _ (by omega), Nat.add_sub_cancel_left, List.set_append_left _ _ hj, List.append_assoc]
/-- All cells of one element are set anew. -/
theorem flat_mid (l : List α) (k : Nat) (h : k < l.length) (x : α) :
    flat enc (l.take k) ++ enc x ++ flat enc (l.drop (k + 1)) = flat enc (l.set k x) := by
  rw [flat_split (l.set k x) k (by simpa using h)]
  congr 1
  · rw [List.getElem_set_self, List.take_set_of_le (Nat.le_refl _)]
  · rw [List.drop_set_of_lt (Nat.lt_succ_self _)]
theorem flat_take_length (he : ∀ x, (enc x).length = size) (l : List α) (k : Nat) (h : k < l.length) : (flat enc (l.take k)).length = k * size := by
  rw [flat_length he, List.length_take, Nat.min_eq_left (Nat.le_of_lt h)]
end
end Go.Proofs.YtjpfmkfikidgkaaGreat
