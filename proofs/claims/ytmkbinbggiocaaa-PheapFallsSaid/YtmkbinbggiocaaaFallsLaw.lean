/- PheapFalls: what the heap is along the law's three loops. -/
import Derived.Test.YtmkbinbggiocaaaForest
set_option linter.unusedVariables false
set_option linter.unusedSimpArgs false
namespace Go.Proofs.Ytmkbinbggiocaaa
open Arena
namespace Hp
structure Fill (H : Hp) (I : List Bool) (X : List Int) (keys : List Int) (k : Nat) : Prop where
  ok : Ok H I X
  li : I.length = keys.length
  i : ∀ u < keys.length, I.getD u false = decide (u < k)
  x : ∀ u < k, X.getD u 0 = keys.getD u 0
  lo : 0 ≤ H.links
  hi : H.links ≤ 2 * k
theorem fill_new {keys : List Int} (h : keys.length ≤ 4096) : Fill (newH keys.length) (List.replicate keys.length false) (List.replicate keys.length 0) keys 0 :=
  ⟨new_ok _ h, by simp, fun u hu => by simp [List.getD_eq_getElem?_getD, List.getElem?_replicate, hu], fun u hu => by omega, Int.le_refl _, by simp [newH]⟩
theorem pushR_at {I : List Bool} {k : Nat} (hk : k < I.length) : pushR I (k : Int) = !I.getD k false := by
  unfold pushR
  rw [decide_eq_true (by omega), Int.toNat_natCast]
  rfl
theorem Fill.step {H : Hp} {I : List Bool} {X keys : List Int} {k : Nat} (h : Fill H I X keys k) (hk : k < keys.length) :
    ∃ H1 H2 I' X', pushT H (k : Int) (keys.getD k 0) = some (H1, true) ∧ pushT H1 (k : Int) (keys.getD k 0) = some (H2, false) ∧ Fill H2 I' X' keys (k + 1) ∧ 0 ≤ H1.links ∧ H1.links ≤ 2 * k + 1 := by
  have hkl : k < I.length := by rw [h.li]; exact hk
  have hxl : k < X.length := by have := h.ok.len; omega
  have e1 : pushR I (k : Int) = true := by rw [pushR_at hkl, h.i k hk]; simp
  obtain ⟨H1, a1, a2, a3, a4, a5⟩ := push_ok h.ok (k : Int) (keys.getD k 0)
  rw [e1, if_pos rfl, if_pos rfl, Int.toNat_natCast] at a2
  rw [e1] at a1
  have g1 : (I.set k true).getD k false = true := by rw [getD_set, if_pos ⟨rfl, hkl⟩]
  have e2 : pushR (I.set k true) (k : Int) = false := by rw [pushR_at (by rw [List.length_set]; exact hkl), g1]; rfl
  obtain ⟨H2, b1, b2, b3, b4, b5⟩ := push_ok a2 (k : Int) (keys.getD k 0)
  rw [e2] at b1 b2
  simp only [Bool.false_eq_true, if_false] at b2
  have := h.lo
  have := h.hi
  refine ⟨H1, H2, _, _, a1, b1, ⟨b2, by rw [List.length_set]; exact h.li, fun u hu => ?_, fun u hu => ?_, by omega, by omega⟩, by omega, by omega⟩
  · rw [getD_set]
    by_cases e : u = k
    · rw [if_pos ⟨e, hkl⟩]; symm; exact decide_eq_true (by omega)
    · rw [if_neg (fun hh => e hh.1), h.i u hu]
      by_cases hlt : u < k
      · rw [decide_eq_true hlt, decide_eq_true (by omega)]
      · rw [decide_eq_false hlt, decide_eq_false (by omega)]
  · rw [getD_set]
    by_cases e : u = k
    · rw [if_pos ⟨e, hxl⟩, e]
    · rw [if_neg (fun hh => e hh.1)]; exact h.x u (by omega)
structure Now (H : Hp) (I : List Bool) (X : List Int) (now : List Int) (c : Nat) : Prop where
  ok : Ok H I X
  li : I.length = now.length
  all : ∀ u < now.length, I.getD u false = true
  x : ∀ u < now.length, X.getD u 0 = now.getD u 0
  lo : 0 ≤ H.links
  hi : H.links ≤ c
theorem Fill.now {H : Hp} {I : List Bool} {X keys : List Int} (h : Fill H I X keys keys.length) : Now H I X keys (2 * keys.length) :=
  ⟨h.ok, h.li, fun u hu => by rw [h.i u hu]; exact decide_eq_true hu, h.x, h.lo, h.hi⟩
theorem Now.step {H : Hp} {I : List Bool} {X now : List Int} {c k : Nat} (h : Now H I X now c) (hk : k < now.length) (key : Int) :
    ∃ H' X', raiseT H (k : Int) key = some (H', !decide (key < now.getD k 0)) ∧ Now H' I X' (now.set k (if now.getD k 0 < key then key else now.getD k 0)) (c + 1) := by
  have hxl : k < X.length := by have := h.ok.len; have := h.li; omega
  have hin : inR I (k : Int) = true := by unfold inR; rw [Int.toNat_natCast, h.all k hk, decide_eq_true (by have := h.li; omega)]; rfl
  have e : raiseR I X (k : Int) key = !decide (key < now.getD k 0) := by unfold raiseR; rw [hin, Int.toNat_natCast, h.x k hk]; rfl
  obtain ⟨H', a1, a2, a3, a4, a5⟩ := raise_ok h.ok (k : Int) key
  rw [e] at a1 a2
  have := h.lo
  have := h.hi
  refine ⟨H', _, a1, ⟨a2, by rw [List.length_set]; exact h.li, fun u hu => h.all u (by simpa using hu), fun u hu => ?_, by omega, by omega⟩⟩
  rw [List.length_set] at hu
  by_cases hlt : key < now.getD k 0
  · rw [decide_eq_true hlt, if_neg (show ¬ now.getD k 0 < key by omega)]
    simp only [Bool.not_true, Bool.false_eq_true, if_false]
    rw [getD_set, h.x u hu]
    split
    · rename_i e; rw [e.1]
    · rfl
  · rw [decide_eq_false hlt]
    simp only [Bool.not_false, if_true, Int.toNat_natCast]
    rw [getD_set, getD_set]
    by_cases eu : u = k
    · rw [if_pos ⟨eu, hxl⟩, if_pos ⟨eu, hk⟩]
      split <;> omega
    · rw [if_neg (fun hh => eu hh.1), if_neg (fun hh => eu hh.1)]
      exact h.x u hu
structure Left (H : Hp) (I : List Bool) (X : List Int) (now : List Int) (m : Nat) (last at_ : Int) (c : Nat) : Prop where
  ok : Ok H I X
  li : I.length = now.length
  x : ∀ u < now.length, I.getD u false = true → X.getD u 0 = now.getD u 0
  cnt : I.countP id = m
  top : at_ = -1 ∨ (0 ≤ at_ ∧ ∀ u < now.length, I.getD u false = true → aheadK ((u : Int), now.getD u 0) (at_, last) = false)
  lo : 0 ≤ H.links
  hi : H.links ≤ c
theorem count_all {I : List Bool} (h : ∀ u < I.length, I.getD u false = true) : I.countP id = I.length := by
  rw [List.countP_eq_length]
  intro b hb
  obtain ⟨i, hi, rfl⟩ := List.getElem_of_mem hb
  have := h i hi
  rw [List.getD_eq_getElem?_getD, List.getElem?_eq_getElem hi] at this
  exact this
theorem count_none {I : List Bool} (h : ∀ u < I.length, I.getD u false = false) : I.countP id = 0 := by
  rw [List.countP_eq_zero]
  intro b hb
  obtain ⟨i, hi, rfl⟩ := List.getElem_of_mem hb
  have := h i hi
  rw [List.getD_eq_getElem?_getD, List.getElem?_eq_getElem hi] at this
  simp only [Option.getD_some] at this
  simp [this]
theorem Now.left {H : Hp} {I : List Bool} {X now : List Int} {c : Nat} (h : Now H I X now c) (last : Int) : Left H I X now now.length last (-1) c :=
  ⟨h.ok, h.li, fun u hu _ => h.x u hu, by rw [← h.li]; exact count_all (fun u hu => h.all u (by rw [← h.li]; exact hu)), .inl rfl, h.lo, h.hi⟩
theorem Left.step {H : Hp} {I : List Bool} {X now : List Int} {m c : Nat} {last at_ : Int} (h : Left H I X now (m + 1) last at_ c) :
    ∃ (H' : Hp) (I' : List Bool) (X' : List Int) (v : Nat), popT 4096 H = some (H', (v : Int), now.getD v 0, true) ∧ v < now.length ∧ (at_ = -1 ∨ (0 ≤ at_ ∧ (now.getD v 0 < last ∨ (now.getD v 0 = last ∧ at_ ≤ v)))) ∧ Left H' I' X' now m (now.getD v 0) v (c + 8193) := by
  obtain ⟨H', a1, a2, a3, a4, a5⟩ := pop_ok h.ok
  have hlo := h.lo
  have hhi := h.hi
  have hli := h.li
  have hcnt := h.cnt
  unfold popI popX at a2
  unfold topV at a1
  cases hf : firstR I X with
  | none =>
    have := count_none (first_none hf)
    omega
  | some p =>
    obtain ⟨v, x⟩ := p
    rw [hf] at a1 a2
    simp only at a1 a2
    obtain ⟨b1, b2, b3, b4⟩ := first_some hf
    have hv : v < now.length := by omega
    have hx : x = now.getD v 0 := by rw [← b3]; exact h.x v hv b2
    subst hx
    refine ⟨H', _, _, v, a1, hv, ?_, a2, by rw [List.length_set]; exact hli, fun u hu hI => ?_, ?_, .inr ⟨by omega, fun u hu hI => ?_⟩, by omega, by omega⟩
    · rcases h.top with e | ⟨e1, e2⟩
      · exact .inl e
      · exact .inr ⟨e1, aheadK_false.1 (e2 v hv b2)⟩
    · rw [getD_set] at hI ⊢
      by_cases e : u = v
      · rw [if_pos ⟨e, b1⟩] at hI; cases hI
      · rw [if_neg (fun hh => e hh.1)] at hI ⊢
        exact h.x u hu hI
    · have := countP_set b1 false
      rw [b2] at this
      simp only [if_true, Bool.false_eq_true, if_false] at this
      omega
    · rw [getD_set] at hI
      by_cases e : u = v
      · rw [if_pos ⟨e, b1⟩] at hI; cases hI
      · rw [if_neg (fun hh => e hh.1)] at hI
        have := b4 u (by omega) hI
        rwa [h.x u hu hI] at this
theorem Left.stop {H : Hp} {I : List Bool} {X now : List Int} {c : Nat} {last at_ : Int} (h : Left H I X now 0 last at_ c) :
    ∃ H', popT 4096 H = some (H', 0, 0, false) ∧ H'.A.count = 0 := by
  obtain ⟨H', a1, a2, a3, a4, a5⟩ := pop_ok h.ok
  have hcnt := h.cnt
  unfold popI popX at a2
  unfold topV at a1
  cases hf : firstR I X with
  | none =>
    rw [hf] at a1 a2
    exact ⟨H', a1, by rw [len_ok a2]; exact hcnt⟩
  | some p =>
    obtain ⟨v, x⟩ := p
    obtain ⟨b1, b2, b3, b4⟩ := first_some hf
    have := countP_set b1 false
    rw [b2] at this
    simp only [if_true, Bool.false_eq_true, if_false] at this
    omega
end Hp
end Go.Proofs.Ytmkbinbggiocaaa
