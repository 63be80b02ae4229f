/- A graph is made: its parts; rows of numbers are sorted. -/
import Derived.Test.YtjpfmkfikidgkaaGreatEnds
import Derived.Test.YtjpfmkfikidgkaaGreatMerge4
import Derived.Test.YtjpfmkfikidgkaaGreatShelf
set_option linter.unusedVariables false
set_option linter.unusedSimpArgs false
namespace Go.Proofs.YtjpfmkfikidgkaaGreat
open Go.RowKit
section
open Go.Sort
theorem putRow_map {α : Type} [Inhabited α] (enc : α → Value) (w : World) (g : Nat) (d : Array α) : putRow enc w g 0 d = putRow id w g 0 (d.map enc) := by
  unfold putRow
  refine mapBlock_congr _ _ _ _ (fun c e fr _ => ?_)
  unfold putCells
  apply Array.ext
  · simp
  · intro i h1 h2
    simp only [Array.getElem_mapIdx, Array.size_map, Nat.sub_zero]
    by_cases h : 0 ≤ i ∧ i < 0 + d.size
    · rw [if_pos h, if_pos h, getElem!_pos d i (by omega), getElem!_pos (d.map enc) i (by simp; omega)]
      simp
    · rw [if_neg h, if_neg h]
theorem own_holdsI {w : World} {e g c : Nat} {xs : List Int} (h : w.ownsRow 0 e 1 (.slice (some ⟨g, 0, none⟩) xs.length c) xs.length (i64s xs)) : Holds (Value.int .i64) w g 0 xs.toArray := by
  intro j hj
  simp only [List.size_toArray] at hj
  rw [Nat.zero_add, h.cellAt j (by omega), h.frozenAt j, i64s_get hj, getElem!_pos _ _ (by simpa using hj)]
  exact ⟨rfl, rfl⟩
/-- slices.Sort of numbers. -/
theorem sortI_any {w : World} {a : Option Addr} {c : Nat} {xs : List Int} (h : w.ownsRow 0 3 1 (.slice a xs.length c) xs.length (i64s xs)) (hl : xs.length ≤ 4294967296) :
    Calls Tryz.prog 103 #[.slice a xs.length c] w fun e w' => e = .returned (.tuple #[]) ∧ w'.ownsRow 0 3 1 (.slice a xs.length c) xs.length (i64s (xs.mergeSort fun x y => decide (x ≤ y))) ∧ Mod (Value.slice a xs.length c).ownBlock.toList w w' := by
  rcases Nat.eq_zero_or_pos xs.length with h0 | h0
  · have hx := List.eq_nil_of_length_eq_zero h0
    subst hx
    refine Calls.mono (show Calls Tryz.prog 103 _ _ _ from AnyM.slices_Sort_int_none Sh.sortI a c w) ?_
    rintro e w' ⟨rfl, rfl⟩
    exact ⟨rfl, by simpa using h, Mod.refl _ _⟩
  · obtain ⟨g, rfl, hg, _⟩ := row_form h h0
    refine Calls.mono (show Calls Tryz.prog 103 _ _ _ from AnyM.slices_Sort_int Sh.sortI g 0 c xs w (own_holdsI h) hg (by omega)) ?_
    rintro e w' ⟨rfl, n, os, rfl⟩
    rw [putRow_map]
    have := own_put (m := n) h ((xs.mergeSort fun x y => decide (x ≤ y)).toArray.map (Value.int .i64)) (by simp) os
    refine ⟨rfl, ?_, by simpa [Value.ownBlock] using this.2⟩
    have e1 : ((xs.mergeSort fun x y => decide (x ≤ y)).toArray.map (Value.int .i64)).toList = i64s (xs.mergeSort fun x y => decide (x ≤ y)) := by simp [i64s]
    rw [e1] at this
    exact this.1
end
namespace Edge
/-- A vertex's row whose numbers are set in another order. -/
theorem ESt.rowIn {w0 w : World} {b gn gd n : Nat} {vl : Value} {tot : Int} {RS : List Value} {XS : List (List Int)} {DS : List Int} {R : List Part} (h : ESt w0 w b gn gd n vl tot RS XS DS R) {v : Nat} (hv : v < n) :
    ∃ a c x, RS[v]? = some (.slice a x.length c) ∧ XS[v]? = some x ∧ w.ownsRow 0 3 1 (.slice a x.length c) x.length (i64s x) ∧
      (∀ (w' : World) (x1 : List Int), x1.length = x.length → w'.ownsRow 0 3 1 (.slice a x.length c) x.length (i64s x1) → Mod (Value.slice a x.length c).ownBlock.toList w w' → ESt w0 w' b gn gd n vl tot RS (XS.set v x1) DS R) := by
  have h1 : v < RS.length := by rw [h.lr]; exact hv
  have h2 : v < XS.length := by rw [h.lx]; exact hv
  have hi : 3 + v < (endsL b gn gd n vl tot RS XS DS R).length := by
    unfold endsL rowsP
    simp only [List.length_cons, List.length_append, List.length_zipWith]
    omega
  have hp := h.sep.pick (3 + v) hi
  have e : (endsL b gn gd n vl tot RS XS DS R)[3 + v] = Row 3 1 XS[v].length RS[v] (i64s XS[v]) := by
    unfold endsL rowsP
    simp only [Nat.add_comm 3 v, List.getElem_cons_succ]
    rw [List.getElem_append_left (by simp only [List.length_zipWith]; omega), List.getElem_zipWith]
  rw [e] at hp
  have ho := hp.row
  obtain ⟨a, c, hs⟩ : ∃ a c, RS[v] = .slice a XS[v].length c := by
    rcases ho.2 with ⟨he, h0⟩ | ⟨g, cap, cur, he, _⟩
    · exact ⟨none, 0, by rw [he, h0]⟩
    · exact ⟨_, _, he⟩
  rw [hs] at hp ho
  refine ⟨a, c, XS[v], by rw [List.getElem?_eq_getElem h1, hs], List.getElem?_eq_getElem h2, ho, fun w' x1 hl o1 m1 => ⟨?_, h.lr, by rw [List.length_set]; exact h.lx, h.ld⟩⟩
  have hg := (hp.grow o1 m1 (.inl rfl)).putBack hi
  rw [← hl, ← show RS[v] = .slice a x1.length c by rw [hs, hl]] at hg
  have e2 : (endsL b gn gd n vl tot RS XS DS R).set (3 + v) (Row 3 1 x1.length RS[v] (i64s x1)) = endsL b gn gd n vl tot RS (XS.set v x1) DS R := by
    unfold endsL
    rw [Nat.add_comm 3 v]
    simp only [List.set_cons_succ]
    rw [List.set_append_left _ _ (by unfold rowsP; simp only [List.length_zipWith]; omega), rowsP_set, List.set_getElem_self]
  rw [e2] at hg
  exact hg
def nextsL (n : Nat) (L : List Ed) : List (List Int) := (List.range n).map fun (v : Nat) => nexts L (v : Int)
def degL (n : Nat) (L : List Ed) : List Int := (List.range n).map fun (v : Nat) => degree L (v : Int)
def nearL (n : Nat) (L : List Ed) : List (List Int) := (List.range n).map fun (v : Nat) => near n L (v : Int)
theorem nextsL_snoc {n : Nat} {L : List Ed} {e : Ed} (hu : 0 ≤ e.1 ∧ e.1 < n) (hv : 0 ≤ e.2.1 ∧ e.2.1 < n) (huv : e.1 ≠ e.2.1) : XSk (nextsL n L) e.1 e.2.1 2 = nextsL n (L ++ [e]) := by
  unfold XSk nextsL
  apply List.ext_getElem
  · simp
  intro i h1 h2
  simp only [List.length_map, List.length_range, List.length_set] at h1 h2
  simp only [List.getElem_set, List.getElem_map, List.getElem_range, List.getD_eq_getElem?_getD, List.getElem?_set, List.length_map, List.length_range, List.getElem?_map, nexts_append, nexts]
  have a1 : e.1.toNat < n := by omega
  have a2 : e.2.1.toNat < n := by omega
  by_cases c1 : e.2.1.toNat = i
  · subst c1
    rw [if_pos rfl, if_neg (show ¬ e.1.toNat = e.2.1.toNat by omega), List.getElem?_range a2, if_neg (show ¬ e.1 = ((e.2.1.toNat : Nat) : Int) by omega), if_pos (show e.2.1 = ((e.2.1.toNat : Nat) : Int) by omega)]
    simp
  · rw [if_neg c1]
    by_cases c2 : e.1.toNat = i
    · subst c2
      rw [if_pos rfl, List.getElem?_range a1, if_pos (show e.1 = ((e.1.toNat : Nat) : Int) by omega), if_neg (show ¬ e.2.1 = ((e.1.toNat : Nat) : Int) by omega)]
      simp
    · rw [if_neg c2, if_neg (show ¬ e.1 = ((i : Nat) : Int) by omega), if_neg (show ¬ e.2.1 = ((i : Nat) : Int) by omega)]
      simp
theorem degL_snoc {n : Nat} {L : List Ed} {e : Ed} (hu : 0 ≤ e.1 ∧ e.1 < n) (hv : 0 ≤ e.2.1 ∧ e.2.1 < n) (huv : e.1 ≠ e.2.1) : DSk (degL n L) e.1 e.2.1 e.2.2 2 = degL n (L ++ [e]) := by
  unfold DSk degL
  apply List.ext_getElem
  · simp
  intro i h1 h2
  simp only [List.length_map, List.length_range, List.length_set] at h1 h2
  simp only [List.getElem_set, List.getElem_map, List.getElem_range, List.getD_eq_getElem?_getD, List.getElem?_set, List.length_map, List.length_range, List.getElem?_map, degree_append, degree]
  have a1 : e.1.toNat < n := by omega
  have a2 : e.2.1.toNat < n := by omega
  by_cases c1 : e.2.1.toNat = i
  · subst c1
    rw [if_pos rfl, if_neg (show ¬ e.1.toNat = e.2.1.toNat by omega), List.getElem?_range a2, if_neg (show ¬ e.1 = ((e.2.1.toNat : Nat) : Int) by omega), if_pos (show e.2.1 = ((e.2.1.toNat : Nat) : Int) by omega)]
    simp
  · rw [if_neg c1]
    by_cases c2 : e.1.toNat = i
    · subst c2
      rw [if_pos rfl, List.getElem?_range a1, if_pos (show e.1 = ((e.1.toNat : Nat) : Int) by omega), if_neg (show ¬ e.2.1 = ((e.1.toNat : Nat) : Int) by omega)]
      simp
    · rw [if_neg c2, if_neg (show ¬ e.1 = ((i : Nat) : Int) by omega), if_neg (show ¬ e.2.1 = ((i : Nat) : Int) by omega)]
      simp
/-- A graph, as an object. -/
def NetP (b n : Nat) (L : List Ed) : Part := fun w F => ∃ gn gd a c RS, RS.length = n ∧ Parts w (endsL b gn gd n (.slice a L.length c) (total L) RS (nearL n L) (degL n L) [Row 146 3 L.length (.slice a L.length c) (flat encEd L)]) F
instance (b n : Nat) (L : List Ed) : Good (NetP b n L) where
  lt h := by obtain ⟨_, _, _, _, _, _, h⟩ := h; exact h.lt
  keep h m hd := by obtain ⟨gn, gd, a, c, RS, h1, h⟩ := h; exact ⟨gn, gd, a, c, RS, h1, h.keep m hd⟩
end Edge
end Go.Proofs.YtjpfmkfikidgkaaGreat
