/- Several objects side by side: what the one of a number is, and what it becomes. -/
import Derived.Test.YtjpfmkfikidgkaaGreatSep
set_option linter.unusedVariables false
set_option linter.unusedSimpArgs false
namespace Go.Proofs.YtjpfmkfikidgkaaGreat
open Go.RowKit
section
variable {w0 w : World} {L : List Part}
theorem Sep.get {P : Part} (h : Sep w0 w L) (i : Nat) (hi : L[i]? = some P) : Sep w0 w (P :: L.eraseIdx i) := by
  obtain ⟨hl, he⟩ := List.getElem?_eq_some_iff.1 hi
  have := h.pick i hl
  rwa [he] at this
theorem Sep.put {P : Part} {i : Nat} (h : Sep w0 w (P :: L.eraseIdx i)) (hi : i < L.length) : Sep w0 w (L.set i P) := h.putBack hi
theorem Sep.blkAt {b : Nat} {cs : List Value} {t : TypeId} (h : Sep w0 w L) (i : Nat) (hi : L[i]? = some (Blk b cs t)) : Has w b cs t := (h.get i hi).blk
theorem Sep.rowAt {e size n : Nat} {v : Value} {xs : List Value} (h : Sep w0 w L) (i : Nat) (hi : L[i]? = some (Row e size n v xs)) : w.ownsRow 0 e size v n xs := (h.get i hi).row
theorem lt_of_some {α : Type _} {L : List α} {i : Nat} {x : α} (h : L[i]? = some x) : i < L.length := (List.getElem?_eq_some_iff.1 h).1
theorem Sep.setAt {b : Nat} {cs : List Value} {t : TypeId} (h : Sep w0 w L) (i : Nat) (hi : L[i]? = some (Blk b cs t)) (j : Nat) (v : Value) : Sep w0 (w.setCell ⟨b, j, none⟩ v) (L.set i (Blk b (cs.set j v) t)) :=
  ((h.get i hi).set j v).put (lt_of_some hi)
theorem Sep.rowsetAt {e size n g c : Nat} {xs : List Value} (h : Sep w0 w L) (i : Nat) (hi : L[i]? = some (Row e size n (.slice (some ⟨g, 0, none⟩) n c) xs)) (j : Nat) (u : Value) : Sep w0 (w.setCell ⟨g, j, none⟩ u) (L.set i (Row e size n (.slice (some ⟨g, 0, none⟩) n c) (xs.set j u))) :=
  ((h.get i hi).rowset j u).put (lt_of_some hi)
theorem Sep.growAt {w' : World} {e size n n1 : Nat} {v v1 : Value} {xs xs1 : List Value} (h : Sep w0 w L) (i : Nat) (hi : L[i]? = some (Row e size n v xs)) (ho : w'.ownsRow 0 e size v1 n1 xs1) (m : Mod v.ownBlock.toList w w')
    (hv : v1.ownBlock = v.ownBlock ∨ ∃ b, v1.ownBlock = some b ∧ w.heap.size ≤ b) : Sep w0 w' (L.set i (Row e size n1 v1 xs1)) :=
  ((h.get i hi).grow ho m hv).put (lt_of_some hi)
theorem Sep.dropAt (h : Sep w0 w L) (i : Nat) (hi : i < L.length) : Sep w0 w (L.eraseIdx i) := by
  have := h.pick i hi
  exact this.tail
/-- Two objects lie apart. -/
theorem Parts.two {w : World} {P Q : Part} : ∀ {L : List Part} {F : List Nat}, Parts w L F → ∀ (i j : Nat), i < j → L[i]? = some P → L[j]? = some Q → ∃ F1 F2, P w F1 ∧ Q w F2 ∧ (∀ b ∈ F1, b ∉ F2) ∧ (∀ b ∈ F1, b ∈ F) ∧ ∀ b ∈ F2, b ∈ F
  | [], _, _, i, _, _, hi, _ => by simp at hi
  | R :: L, F, h, i, j, hij, hi, hj => by
    obtain ⟨_, F1, F2, rfl, h1, h2, h3⟩ := h
    obtain ⟨j, rfl⟩ : ∃ k, j = k + 1 := ⟨j - 1, by omega⟩
    simp only [List.getElem?_cons_succ] at hj
    cases i with
    | zero =>
      simp only [List.getElem?_cons_zero, Option.some.injEq] at hi
      subst hi
      obtain ⟨G, g1, g2⟩ : ∃ G, Q w G ∧ ∀ b ∈ G, b ∈ F2 := by
        clear h3
        induction L generalizing F2 j with
        | nil => simp at hj
        | cons S L ih =>
          obtain ⟨_, G1, G2, rfl, k1, k2, _⟩ := h2
          cases j with
          | zero => simp only [List.getElem?_cons_zero, Option.some.injEq] at hj; subst hj; exact ⟨G1, k1, fun b hb => by simp [hb]⟩
          | succ j =>
            simp only [List.getElem?_cons_succ] at hj
            obtain ⟨G, g1, g2⟩ := ih _ k2 _ hj (by omega)
            exact ⟨G, g1, fun b hb => by simp [g2 b hb]⟩
      exact ⟨F1, G, h1, g1, fun b hb hb2 => h3 b hb (g2 b hb2), fun b hb => by simp [hb], fun b hb => by simp [g2 b hb]⟩
    | succ i =>
      simp only [List.getElem?_cons_succ] at hi
      obtain ⟨G1, G2, g1, g2, g3, g4, g5⟩ := Parts.two h2 i j (by omega) hi hj
      exact ⟨G1, G2, g1, g2, g3, fun b hb => by simp [g4 b hb], fun b hb => by simp [g5 b hb]⟩
theorem Sep.blkblk {b b' : Nat} {cs cs' : List Value} {t t' : TypeId} (h : Sep w0 w L) (i j : Nat) (hij : i < j) (hi : L[i]? = some (Blk b cs t)) (hj : L[j]? = some (Blk b' cs' t')) : b ≠ b' := by
  obtain ⟨F, hp, _⟩ := h.out
  obtain ⟨F1, F2, ⟨_, rfl⟩, ⟨_, rfl⟩, h3, _⟩ := hp.two i j hij hi hj
  have := h3 b (by simp)
  simpa using this
theorem Sep.blkrow {b : Nat} {cs xs : List Value} {t : TypeId} {e size n : Nat} {v : Value} (h : Sep w0 w L) (i j : Nat) (hij : i < j) (hi : L[i]? = some (Blk b cs t)) (hj : L[j]? = some (Row e size n v xs)) : v.ownBlock ≠ some b := by
  obtain ⟨F, hp, _⟩ := h.out
  obtain ⟨F1, F2, ⟨_, rfl⟩, ⟨_, rfl⟩, h3, _⟩ := hp.two i j hij hi hj
  have := h3 b (by simp)
  intro hh
  rw [hh] at this
  simp at this
theorem Sep.rowrow {xs xs' : List Value} {e size n e' size' n' : Nat} {v v' : Value} {g : Nat} (h : Sep w0 w L) (i j : Nat) (hij : i < j) (hi : L[i]? = some (Row e size n v xs)) (hj : L[j]? = some (Row e' size' n' v' xs')) (hg : v.ownBlock = some g) : v'.ownBlock ≠ some g := by
  obtain ⟨F, hp, _⟩ := h.out
  obtain ⟨F1, F2, ⟨_, rfl⟩, ⟨_, rfl⟩, h3, _⟩ := hp.two i j hij hi hj
  have := h3 g (by simp [hg])
  intro hh
  rw [hh] at this
  simp at this
end
end Go.Proofs.YtjpfmkfikidgkaaGreat
