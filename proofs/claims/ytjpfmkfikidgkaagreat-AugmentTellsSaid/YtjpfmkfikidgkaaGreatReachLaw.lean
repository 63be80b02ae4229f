/- To where something may go, as a plain thing. -/
import Derived.Test.YtjpfmkfikidgkaaGreatResLaw
set_option linter.unusedVariables false
set_option linter.unusedSimpArgs false
namespace Go.Proofs.YtjpfmkfikidgkaaGreat
namespace Edge
/-- From v something may go to a vertex. -/
inductive Rch (L : List Ed) (f : List Int) (v : Nat) : Nat → Prop
  | base : Rch L f v v
  | step {u i h : Nat} : Rch L f v u → i < 2 * L.length → tailE L i = (u : Int) → 0 < leftE L f i → headE L i = (h : Int) → Rch L f v h
/-- All these vertices, in order. -/
def IsReach (L : List Ed) (f : List Int) (v : Nat) (l : List Nat) : Prop := (l.Pairwise fun a b => a < b) ∧ ∀ x, x ∈ l ↔ Rch L f v x
theorem reach_one {L : List Ed} {f : List Int} {v : Nat} {l m : List Nat} (hl : IsReach L f v l) (hm : IsReach L f v m) : l = m :=
  ascF_eq (f := fun x => (x : Int)) (hl.1.imp (fun {a b} h => by show (a : Int) < (b : Int); omega)) (hm.1.imp (fun {a b} h => by show (a : Int) < (b : Int); omega)) (fun x => by rw [hl.2, hm.2])
theorem rch_lt {n : Nat} {L : List Ed} {f : List Int} {v x : Nat} (hG : GOk n L) (hv : v < n) (h : Rch L f v x) : x < n := by
  cases h with
  | base => exact hv
  | step h1 h2 h3 h4 h5 =>
    have := head_in hG h2
    omega
theorem nodup_le : ∀ (n : Nat) (l : List Nat), l.Nodup → (∀ x ∈ l, x < n) → l.length ≤ n
  | 0, l, _, h => by
    cases l with
    | nil => simp
    | cons a l => have := h a (by simp); omega
  | n + 1, l, hd, h => by
    by_cases c : n ∈ l
    · have h1 := nodup_le n (l.erase n) (hd.erase n) (fun x hx => by
        rw [hd.mem_erase_iff] at hx
        have := h x hx.2
        omega)
      rw [List.length_erase_of_mem c] at h1
      omega
    · have := nodup_le n l hd (fun x hx => by
        have h1 := h x hx
        have h2 : x ≠ n := fun e => c (e ▸ hx)
        omega)
      omega
/-- The vertices found so far, of which the first i are done. -/
structure RSt (n : Nat) (L : List Ed) (f : List Int) (v : Nat) (O : List Nat) (i : Nat) : Prop where
  nd : O.Nodup
  rc : ∀ x ∈ O, Rch L f v x
  v0 : v ∈ O
  cl : ∀ u ∈ O.take i, ∀ a h : Nat, a < 2 * L.length → tailE L a = (u : Int) → 0 < leftE L f a → headE L a = (h : Int) → h ∈ O
theorem RSt.le {n : Nat} {L : List Ed} {f : List Int} {v : Nat} {O : List Nat} {i : Nat} (h : RSt n L f v O i) (hG : GOk n L) (hv : v < n) : O.length ≤ n := nodup_le n O h.nd (fun x hx => rch_lt hG hv (h.rc x hx))
theorem RSt.start (n : Nat) (L : List Ed) (f : List Int) (v : Nat) : RSt n L f v [v] 0 := ⟨by simp, fun x hx => by simp only [List.mem_singleton] at hx; subst hx; exact .base, by simp, by simp⟩
/-- A new one is found. -/
theorem RSt.more {n : Nat} {L : List Ed} {f : List Int} {v : Nat} {O : List Nat} {i : Nat} (hs : RSt n L f v O i) (hi : i < O.length) {a h : Nat} (ha : a < 2 * L.length) (ht : tailE L a = ((O[i] : Nat) : Int)) (hl : 0 < leftE L f a) (hh : headE L a = (h : Int)) (hn : h ∉ O) : RSt n L f v (O ++ [h]) i := by
  refine ⟨?_, fun x hx => ?_, by simp [hs.v0], fun u hu a' h' h1 h2 h3 h4 => ?_⟩
  · rw [List.nodup_append]
    refine ⟨hs.nd, by simp, ?_⟩
    intro x hx y hy
    rw [List.mem_singleton] at hy
    subst hy
    intro e
    subst e
    exact hn hx
  · rcases List.mem_append.1 hx with hx | hx
    · exact hs.rc x hx
    · rw [List.mem_singleton] at hx
      subst hx
      exact .step (hs.rc _ (List.getElem_mem hi)) ha ht hl hh
  · rw [List.take_append_of_le_length (by omega)] at hu
    exact List.mem_append.2 (.inl (hs.cl u hu a' h' h1 h2 h3 h4))
/-- One vertex is done. -/
theorem RSt.next {n : Nat} {L : List Ed} {f : List Int} {v : Nat} {O : List Nat} {i : Nat} (hs : RSt n L f v O i) (hi : i < O.length) (hd : ∀ a h : Nat, a < 2 * L.length → tailE L a = ((O[i] : Nat) : Int) → 0 < leftE L f a → headE L a = (h : Int) → h ∈ O) : RSt n L f v O (i + 1) := by
  refine ⟨hs.nd, hs.rc, hs.v0, fun u hu => ?_⟩
  rw [List.take_succ_eq_append_getElem hi, List.mem_append, List.mem_singleton] at hu
  rcases hu with hu | rfl
  · exact hs.cl u hu
  · exact hd
/-- All is found. -/
theorem RSt.all {n : Nat} {L : List Ed} {f : List Int} {v : Nat} {O : List Nat} (hs : RSt n L f v O O.length) : ∀ x, x ∈ O ↔ Rch L f v x := by
  intro x
  refine ⟨hs.rc x, fun hr => ?_⟩
  induction hr with
  | base => exact hs.v0
  | step h1 h2 h3 h4 h5 ih => exact hs.cl _ (by rw [List.take_length]; exact ih) _ _ h2 h3 h4 h5
theorem reach_sort {n : Nat} {L : List Ed} {f : List Int} {v : Nat} {O : List Nat} (hs : RSt n L f v O O.length) : ∃ l, IsReach L f v l ∧ l.length = O.length ∧ (ints O).mergeSort (fun x y => decide (x ≤ y)) = ints l := by
  have hp := List.mergeSort_perm (ints O) (fun x y => decide (x ≤ y))
  have hsort := List.pairwise_mergeSort (le := fun (x y : Int) => decide (x ≤ y)) (fun a b c h1 h2 => by simp only [decide_eq_true_eq] at *; omega) (fun a b => by simp only [Bool.or_eq_true, decide_eq_true_eq]; omega) (ints O)
  generalize (ints O).mergeSort (fun x y => decide (x ≤ y)) = S at *
  have hnn : ∀ y ∈ S, 0 ≤ y := fun y hy => by
    rw [hp.mem_iff] at hy
    unfold ints at hy
    obtain ⟨x, _, rfl⟩ := List.mem_map.1 hy
    omega
  have hSl : S = ints (S.map Int.toNat) := by
    unfold ints
    rw [List.map_map]
    conv => lhs; rw [← List.map_id S]
    exact List.map_congr_left (fun y hy => by have := hnn y hy; simp only [id, Function.comp]; omega)
  have hpO : (S.map Int.toNat).Perm O := by
    have h1 := hp.map Int.toNat
    have h2 : (ints O).map Int.toNat = O := by
      unfold ints
      rw [List.map_map]
      conv => rhs; rw [← List.map_id O]
      exact List.map_congr_left (fun y _ => by simp)
    rw [h2] at h1
    exact h1
  refine ⟨S.map Int.toNat, ⟨?_, fun x => by rw [hpO.mem_iff]; exact hs.all x⟩, hpO.length_eq, hSl⟩
  have hnd : (S.map Int.toNat).Nodup := hpO.nodup_iff.2 hs.nd
  have h3 : (S.map Int.toNat).Pairwise fun a b => a ≤ b := by
    rw [List.pairwise_map]
    exact hsort.imp (fun {a b} h => by have : a ≤ b := (by simpa using h); omega)
  exact (h3.and hnd).imp (fun {a b} h => by have := h.1; have := h.2; omega)
/-- Who has been met. -/
def metL (n : Nat) (O : List Nat) : List Bool := (List.range n).map fun x => decide (x ∈ O)
theorem metL_len (n : Nat) (O : List Nat) : (metL n O).length = n := by simp [metL]
theorem metL_get {n : Nat} {O : List Nat} {x : Nat} (h : x < n) : (metL n O)[x]? = some (decide (x ∈ O)) := by
  unfold metL
  rw [List.getElem?_map, List.getElem?_range h]; rfl
theorem metL_nil (n : Nat) : metL n [] = List.replicate n false := by
  apply List.eq_replicate_iff.2 ⟨metL_len _ _, ?_⟩
  intro x hx
  simp only [metL, List.mem_map] at hx
  obtain ⟨v, _, rfl⟩ := hx
  simp
theorem metL_set (n : Nat) (O : List Nat) (h : Nat) : (metL n O).set h true = metL n (O ++ [h]) := by
  apply List.ext_getElem
  · simp [metL]
  intro i g1 g2
  simp only [metL, List.getElem_set, List.getElem_map, List.getElem_range]
  by_cases c : h = i
  · subst c; simp
  · rw [if_neg c]
    have : (i ∈ O ++ [h]) ↔ i ∈ O := by
      rw [List.mem_append, List.mem_singleton]
      exact ⟨fun hh => hh.elim id (fun e => absurd e.symm c), .inl⟩
    simp only [this]
end Edge
end Go.Proofs.YtjpfmkfikidgkaaGreat
