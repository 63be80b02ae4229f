/- Arcs as plain things: two to each edge, where each leads, which ones lead out of a vertex, in order. -/
import Derived.Test.YtjpfmkfikidgkaaGreatNetLaw
set_option linter.unusedVariables false
set_option linter.unusedSimpArgs false
namespace Go.Proofs.YtjpfmkfikidgkaaGreat
namespace Edge
/-- Each edge's two arcs: head and weight. -/
def arcsL (L : List Ed) : List (Int × Int) := L.flatMap fun e => [(e.2.1, e.2.2), (e.1, e.2.2)]
theorem arcsL_len : ∀ L : List Ed, (arcsL L).length = 2 * L.length
  | [] => rfl
  | e :: l => by
    have := arcsL_len l
    simp only [arcsL, List.flatMap_cons, List.length_append, List.length_cons, List.length_nil] at this ⊢
    omega
theorem arcsL_append (L M : List Ed) : arcsL (L ++ M) = arcsL L ++ arcsL M := by simp [arcsL]
theorem arcsL_even : ∀ (L : List Ed) (k : Nat), (arcsL L)[2 * k]? = (L[k]?).map fun e => (e.2.1, e.2.2)
  | [], k => by simp [arcsL]
  | e :: l, 0 => by simp [arcsL]
  | e :: l, k + 1 => by
    have := arcsL_even l k
    rw [show 2 * (k + 1) = 2 * k + 1 + 1 by omega]
    simp only [arcsL, List.flatMap_cons, List.cons_append, List.nil_append, List.getElem?_cons_succ] at this ⊢
    exact this
theorem arcsL_odd : ∀ (L : List Ed) (k : Nat), (arcsL L)[2 * k + 1]? = (L[k]?).map fun e => (e.1, e.2.2)
  | [], k => by simp [arcsL]
  | e :: l, 0 => by simp [arcsL]
  | e :: l, k + 1 => by
    have := arcsL_odd l k
    rw [show 2 * (k + 1) + 1 = 2 * k + 1 + 1 + 1 by omega]
    simp only [arcsL, List.flatMap_cons, List.cons_append, List.nil_append, List.getElem?_cons_succ] at this ⊢
    exact this
def back (i : Nat) : Nat := if i % 2 = 0 then i + 1 else i - 1
theorem back_back (i : Nat) : back (back i) = i := by
  unfold back
  by_cases h : i % 2 = 0
  · rw [if_pos h, if_neg (by omega)]; omega
  · rw [if_neg h, if_pos (by omega)]; omega
theorem back_half (i : Nat) : back i / 2 = i / 2 := by unfold back; split <;> omega
theorem back_lt {i m : Nat} : back i < 2 * m ↔ i < 2 * m := by unfold back; split <;> omega
def headE (L : List Ed) (i : Nat) : Int := match (arcsL L)[i]? with | some x => x.1 | none => -1
def capE (L : List Ed) (i : Nat) : Int := match (arcsL L)[i]? with | some x => x.2 | none => 0
def tailE (L : List Ed) (i : Nat) : Int := headE L (back i)
theorem headE_get {L : List Ed} {i : Nat} (h : i < 2 * L.length) : headE L i = if i % 2 = 0 then (L[i / 2]'(by omega)).2.1 else (L[i / 2]'(by omega)).1 := by
  unfold headE
  by_cases h2 : i % 2 = 0
  · rw [if_pos h2]
    have := arcsL_even L (i / 2)
    rw [show 2 * (i / 2) = i by omega, List.getElem?_eq_getElem (show i / 2 < L.length by omega)] at this
    rw [this]; rfl
  · rw [if_neg h2]
    have := arcsL_odd L (i / 2)
    rw [show 2 * (i / 2) + 1 = i by omega, List.getElem?_eq_getElem (show i / 2 < L.length by omega)] at this
    rw [this]; rfl
theorem capE_get {L : List Ed} {i : Nat} (h : i < 2 * L.length) : capE L i = (L[i / 2]'(by omega)).2.2 := by
  unfold capE
  by_cases h2 : i % 2 = 0
  · have := arcsL_even L (i / 2)
    rw [show 2 * (i / 2) = i by omega, List.getElem?_eq_getElem (show i / 2 < L.length by omega)] at this
    rw [this]; rfl
  · have := arcsL_odd L (i / 2)
    rw [show 2 * (i / 2) + 1 = i by omega, List.getElem?_eq_getElem (show i / 2 < L.length by omega)] at this
    rw [this]; rfl
theorem headE_out {L : List Ed} {i : Nat} (h : ¬ i < 2 * L.length) : headE L i = -1 := by
  unfold headE; rw [List.getElem?_eq_none (by rw [arcsL_len]; omega)]
theorem capE_out {L : List Ed} {i : Nat} (h : ¬ i < 2 * L.length) : capE L i = 0 := by
  unfold capE; rw [List.getElem?_eq_none (by rw [arcsL_len]; omega)]
theorem tailE_get {L : List Ed} {i : Nat} (h : i < 2 * L.length) : tailE L i = if i % 2 = 0 then (L[i / 2]'(by omega)).1 else (L[i / 2]'(by omega)).2.1 := by
  unfold tailE
  rw [headE_get (back_lt.2 h)]
  have hb := back_half i
  by_cases h2 : i % 2 = 0
  · rw [if_pos h2, if_neg (by unfold back; rw [if_pos h2]; omega)]
    congr 2
  · rw [if_neg h2, if_pos (by unfold back; rw [if_neg h2]; omega)]
    simp only [hb]
theorem tailE_out {L : List Ed} {i : Nat} (h : ¬ i < 2 * L.length) : tailE L i = -1 := headE_out (fun h2 => h (back_lt.1 h2))
theorem head_back (L : List Ed) (i : Nat) : headE L (back i) = tailE L i := rfl
theorem tail_back (L : List Ed) (i : Nat) : tailE L (back i) = headE L i := by unfold tailE; rw [back_back]
theorem cap_back {L : List Ed} {i : Nat} : capE L (back i) = capE L i := by
  by_cases h : i < 2 * L.length
  · rw [capE_get (back_lt.2 h), capE_get h]
    have hb := back_half i
    congr 3
  · rw [capE_out (fun h2 => h (back_lt.1 h2)), capE_out h]
theorem tail_in {n : Nat} {L : List Ed} (hG : GOk n L) {i : Nat} (h : i < 2 * L.length) : 0 ≤ tailE L i ∧ tailE L i < n := by
  have := hG.ends (L[i / 2]'(by omega)) (List.getElem_mem _)
  rw [tailE_get h]
  split <;> omega
theorem head_in {n : Nat} {L : List Ed} (hG : GOk n L) {i : Nat} (h : i < 2 * L.length) : 0 ≤ headE L i ∧ headE L i < n := by
  have := hG.ends (L[i / 2]'(by omega)) (List.getElem_mem _)
  rw [headE_get h]
  split <;> omega
theorem rising_inj {L : List Ed} (h : Rising L) {i k : Nat} (hi : i < L.length) (hk : k < L.length) (he : key L[i] = key L[k]) : i = k := by
  rcases Nat.lt_trichotomy i k with h1 | h1 | h1
  · have := List.pairwise_iff_getElem.1 h i k hi hk h1
    rw [he] at this
    exact absurd this (before_irrefl _)
  · exact h1
  · have := List.pairwise_iff_getElem.1 h k i hk hi h1
    rw [he] at this
    exact absurd this (before_irrefl _)
theorem arc_inj {n : Nat} {L : List Ed} (hG : GOk n L) {i k : Nat} (hi : i < 2 * L.length) (hk : k < 2 * L.length) (ht : tailE L i = tailE L k) (hh : headE L i = headE L k) : i = k := by
  have e1 := hG.ends (L[i / 2]'(by omega)) (List.getElem_mem _)
  have e2 := hG.ends (L[k / 2]'(by omega)) (List.getElem_mem _)
  rw [tailE_get hi, tailE_get hk] at ht
  rw [headE_get hi, headE_get hk] at hh
  by_cases c1 : i % 2 = 0 <;> by_cases c2 : k % 2 = 0
  · rw [if_pos c1, if_pos c2] at ht hh
    have := rising_inj hG.rising (show i / 2 < L.length by omega) (show k / 2 < L.length by omega) (Prod.ext ht hh)
    omega
  · rw [if_pos c1, if_neg c2] at ht hh; omega
  · rw [if_neg c1, if_pos c2] at ht hh; omega
  · rw [if_neg c1, if_neg c2] at ht hh
    have := rising_inj hG.rising (show i / 2 < L.length by omega) (show k / 2 < L.length by omega) (Prod.ext hh ht)
    omega
/-- Of the first m arcs those that lead out of a vertex. -/
def ofU (L : List Ed) (m v : Nat) : List Nat := (List.range m).filter fun i => decide (tailE L i = (v : Int))
/-- All of them, in the order of their heads. -/
def ofS (n : Nat) (L : List Ed) (v : Nat) : List Nat := (List.range n).flatMap fun (u : Nat) => (List.range (2 * L.length)).filter fun i => decide (tailE L i = (v : Int) ∧ headE L i = (u : Int))
theorem mem_ofU {L : List Ed} {m v i : Nat} : i ∈ ofU L m v ↔ i < m ∧ tailE L i = (v : Int) := by simp [ofU]
theorem mem_ofS {n : Nat} {L : List Ed} (hG : GOk n L) {v i : Nat} : i ∈ ofS n L v ↔ i < 2 * L.length ∧ tailE L i = (v : Int) := by
  simp only [ofS, List.mem_flatMap, List.mem_range, List.mem_filter, decide_eq_true_eq]
  constructor
  · rintro ⟨u, _, h1, h2, _⟩; exact ⟨h1, h2⟩
  · rintro ⟨h1, h2⟩
    have := head_in hG h1
    exact ⟨(headE L i).toNat, by omega, h1, h2, by omega⟩
theorem ofS_asc {n : Nat} {L : List Ed} (hG : GOk n L) (v : Nat) : (ofS n L v).Pairwise fun a b => headE L a < headE L b := by
  unfold ofS
  rw [List.pairwise_flatMap]
  constructor
  · intro u _
    have h1 : ((List.range (2 * L.length)).filter fun i => decide (tailE L i = (v : Int) ∧ headE L i = (u : Int))).Pairwise (· < ·) := List.Pairwise.filter _ List.pairwise_lt_range
    refine List.Pairwise.imp_of_mem ?_ h1
    intro a b ha hb hab
    simp only [List.mem_filter, List.mem_range, decide_eq_true_eq] at ha hb
    have := arc_inj hG ha.1 hb.1 (by rw [ha.2.1, hb.2.1]) (by rw [ha.2.2, hb.2.2])
    omega
  · refine List.Pairwise.imp ?_ List.pairwise_lt_range
    intro a b hab x hx y hy
    simp only [List.mem_filter, decide_eq_true_eq] at hx hy
    rw [hx.2.2, hy.2.2]
    omega
theorem ascF_eq {f : Nat → Int} : ∀ {l m : List Nat}, (l.Pairwise fun a b => f a < f b) → (m.Pairwise fun a b => f a < f b) → (∀ x, x ∈ l ↔ x ∈ m) → l = m
  | [], [], _, _, _ => rfl
  | [], b :: m, _, _, h => by have := (h b).2 (by simp); simp at this
  | a :: l, [], _, _, h => by have := (h a).1 (by simp); simp at this
  | a :: l, b :: m, h1, h2, h => by
    obtain ⟨p1, p2⟩ := List.pairwise_cons.1 h1
    obtain ⟨q1, q2⟩ := List.pairwise_cons.1 h2
    have hab : a = b := by
      rcases List.mem_cons.1 ((h a).1 (by simp)) with e | e
      · exact e
      rcases List.mem_cons.1 ((h b).2 (by simp)) with e2 | e2
      · exact e2.symm
      have := q1 a e
      have := p1 b e2
      omega
    subst hab
    congr 1
    refine ascF_eq p2 q2 (fun x => ?_)
    constructor
    · intro hx
      rcases List.mem_cons.1 ((h x).1 (by simp [hx])) with e | e
      · subst e; have := p1 x hx; omega
      · exact e
    · intro hx
      rcases List.mem_cons.1 ((h x).2 (by simp [hx])) with e | e
      · subst e; have := q1 x hx; omega
      · exact e
theorem ofU_nodup (L : List Ed) (m v : Nat) : (ofU L m v).Nodup := List.Pairwise.filter _ List.nodup_range
/-- The arcs of a vertex, sorted by their heads. -/
theorem sort_ofS {n : Nat} {L : List Ed} (hG : GOk n L) {v : Nat} {d : List Nat} (hp : d.Perm (ofU L (2 * L.length) v)) (hs : d.Pairwise fun a b => headE L a ≤ headE L b) : d = ofS n L v := by
  refine ascF_eq (f := headE L) ?_ (ofS_asc hG v) (fun x => by rw [hp.mem_iff, mem_ofU, mem_ofS hG])
  have hn : d.Nodup := hp.nodup_iff.2 (ofU_nodup _ _ _)
  refine List.Pairwise.imp_of_mem ?_ (hs.and hn)
  rintro a b ha hb ⟨h1, h2⟩
  rw [hp.mem_iff, mem_ofU] at ha hb
  have : headE L a ≠ headE L b := fun e => h2 (arc_inj hG ha.1 hb.1 (by rw [ha.2, hb.2]) e)
  omega
theorem ofS_perm {n : Nat} {L : List Ed} (hG : GOk n L) (v : Nat) : (ofS n L v).Perm (ofU L (2 * L.length) v) := by
  have h1 : (ofS n L v).Nodup := List.Pairwise.imp (fun {a b} h e => by subst e; omega) (ofS_asc hG v)
  exact (List.perm_ext_iff_of_nodup h1 (ofU_nodup _ _ _)).2 (fun x => by rw [mem_ofU, mem_ofS hG])
def cntE (L : List Ed) (v : Nat) : Nat := (ofU L (2 * L.length) v).length
theorem ofS_len {n : Nat} {L : List Ed} (hG : GOk n L) (v : Nat) : (ofS n L v).length = cntE L v := (ofS_perm hG v).length_eq
/-- Where a vertex's arcs begin. -/
def posF (L : List Ed) (v : Nat) : Nat := ((List.range v).map (cntE L)).sum
theorem posF_succ (L : List Ed) (v : Nat) : posF L (v + 1) = posF L v + cntE L v := by simp [posF, List.range_succ]
theorem posF_mono (L : List Ed) {u v : Nat} (h : u ≤ v) : posF L u ≤ posF L v := by
  induction h with
  | refl => exact Nat.le_refl _
  | step _ ih => rw [posF_succ]; omega
theorem ofU_succ (L : List Ed) (m v : Nat) : ofU L (m + 1) v = ofU L m v ++ if tailE L m = (v : Int) then [m] else [] := by
  unfold ofU
  rw [List.range_succ, List.filter_append]
  congr 1
  by_cases h : tailE L m = (v : Int) <;> simp [h]
theorem sum_bump (f : Nat → Nat) (t : Nat) : ∀ n : Nat, ((List.range n).map fun v => f v + if t = v then 1 else 0).sum = ((List.range n).map f).sum + if t < n then 1 else 0
  | 0 => by simp
  | n + 1 => by
    have := sum_bump f t n
    simp only [List.range_succ, List.map_append, List.sum_append, List.map_cons, List.map_nil, List.sum_cons, List.sum_nil] at this ⊢
    rw [this]
    by_cases h : t = n
    · subst h; rw [if_neg (by omega), if_pos rfl, if_pos (by omega)]; omega
    · rw [if_neg h]
      by_cases h2 : t < n
      · rw [if_pos h2, if_pos (by omega)]; omega
      · rw [if_neg h2, if_neg (by omega)]; omega
theorem sum_ofU {n : Nat} {L : List Ed} (hG : GOk n L) : ∀ m : Nat, m ≤ 2 * L.length → ((List.range n).map fun v => (ofU L m v).length).sum = m
  | 0, _ => by
    have : ((List.range n).map fun v => (ofU L 0 v).length) = List.replicate n 0 := by simp [ofU, List.map_const']
    rw [this]; simp
  | m + 1, h => by
    have ih := sum_ofU hG m (by omega)
    have ht := tail_in hG (i := m) (by omega)
    have e : ((List.range n).map fun v => (ofU L (m + 1) v).length) = (List.range n).map fun v => (ofU L m v).length + if (tailE L m).toNat = v then 1 else 0 := by
      apply List.map_congr_left
      intro v _
      rw [ofU_succ, List.length_append]
      congr 1
      by_cases c : tailE L m = (v : Int)
      · rw [if_pos c, if_pos (by omega)]; rfl
      · rw [if_neg c, if_neg (by omega)]; rfl
    rw [e, sum_bump, ih, if_pos (by omega)]
theorem posF_all {n : Nat} {L : List Ed} (hG : GOk n L) : posF L n = 2 * L.length := sum_ofU hG _ (Nat.le_refl _)
theorem posF_le {n : Nat} {L : List Ed} (hG : GOk n L) {v : Nat} (h : v ≤ n) : posF L v ≤ 2 * L.length := by rw [← posF_all hG]; exact posF_mono L h
theorem ofU_le (L : List Ed) (m v : Nat) : (ofU L m v).length ≤ m := by
  have := List.length_filter_le (fun i => decide (tailE L i = (v : Int))) (List.range m)
  simpa [ofU] using this
theorem ofU_le_cnt {L : List Ed} {m v : Nat} (h : m ≤ 2 * L.length) : (ofU L m v).length ≤ cntE L v := by
  have : (ofU L m v).Sublist (ofU L (2 * L.length) v) := List.Sublist.filter _ (List.range_sublist.2 h)
  exact this.length_le
theorem ofU_lt_cnt {L : List Ed} {m v : Nat} (h : m < 2 * L.length) (ht : tailE L m = (v : Int)) : (ofU L m v).length < cntE L v := by
  have h1 := ofU_le_cnt (L := L) (m := m + 1) (v := v) (by omega)
  rw [ofU_succ, if_pos ht, List.length_append] at h1
  simp only [List.length_cons, List.length_nil] at h1
  omega
/-! Rows of rows, one behind the other. -/
theorem flat_cut {α : Type} {Ls : List (List α)} {v : Nat} (h : v < Ls.length) : Ls.flatten = (Ls.take v).flatten ++ Ls[v] ++ (Ls.drop (v + 1)).flatten := by
  conv => lhs; rw [← List.take_append_drop v Ls, List.flatten_append, List.drop_eq_getElem_cons h]
  rw [List.flatten_cons, List.append_assoc]
theorem flat_set {α : Type} {Ls : List (List α)} {v : Nat} (h : v < Ls.length) (y : List α) : (Ls.set v y).flatten = (Ls.take v).flatten ++ y ++ (Ls.drop (v + 1)).flatten := by
  rw [flat_cut (Ls := Ls.set v y) (by rw [List.length_set]; exact h), List.getElem_set_self, List.take_set_of_le (Nat.le_refl _), List.drop_set_of_lt (by omega)]
theorem flat_len {Ls : List (List Int)} {L : List Ed} {n v : Nat} (hl : Ls.length = n) (hc : ∀ (u : Nat) (h : u < Ls.length), Ls[u].length = cntE L u) (hv : v ≤ n) : (Ls.take v).flatten.length = posF L v := by
  unfold posF
  rw [List.length_flatten]
  congr 1
  apply List.ext_getElem
  · simp; omega
  · intro i h1 h2
    simp only [List.length_map, List.length_take, List.length_range] at h1 h2
    simp only [List.getElem_map, List.getElem_take, List.getElem_range]
    exact hc i (by omega)
theorem flat_put {α : Type} {Ls : List (List α)} {v k : Nat} (h : v < Ls.length) (hk : k < Ls[v].length) (x : α) : Ls.flatten.set ((Ls.take v).flatten.length + k) x = (Ls.set v (Ls[v].set k x)).flatten := by
  rw [flat_set h, flat_cut h, List.append_assoc, List.set_append_right _ _ (by omega), Nat.add_sub_cancel_left, List.set_append_left _ _ hk, List.append_assoc]
def ints (l : List Nat) : List Int := l.map fun (i : Nat) => (i : Int)
theorem ints_len (l : List Nat) : (ints l).length = l.length := by simp [ints]
/-- The arcs so far, at their places. -/
def fillL (n : Nat) (L : List Ed) (m : Nat) : List (List Int) := (List.range n).map fun v => ints (ofU L m v) ++ List.replicate (cntE L v - (ofU L m v).length) 0
theorem fill_len (n : Nat) (L : List Ed) (m : Nat) : (fillL n L m).length = n := by simp [fillL]
theorem fill_get {n : Nat} {L : List Ed} {m v : Nat} (h : v < (fillL n L m).length) : (fillL n L m)[v] = ints (ofU L m v) ++ List.replicate (cntE L v - (ofU L m v).length) 0 := by simp [fillL]
theorem fill_cnt {n : Nat} {L : List Ed} {m : Nat} (hm : m ≤ 2 * L.length) (v : Nat) (h : v < (fillL n L m).length) : (fillL n L m)[v].length = cntE L v := by
  have := ofU_le_cnt (L := L) (v := v) hm
  rw [fill_get, List.length_append, ints_len, List.length_replicate]; omega
theorem fill_step {n : Nat} {L : List Ed} (hG : GOk n L) {m t : Nat} (hm : m < 2 * L.length) (ht : tailE L m = (t : Int)) : (fillL n L m).flatten.set (posF L t + (ofU L m t).length) (m : Int) = (fillL n L (m + 1)).flatten := by
  have htn : t < n := by have := tail_in hG hm; omega
  have hlt := ofU_lt_cnt hm ht
  have h1 : t < (fillL n L m).length := by rw [fill_len]; exact htn
  have h2 := fill_cnt (n := n) (L := L) (m := m) (by omega) t h1
  rw [← flat_len (fill_len n L m) (fill_cnt (by omega)) (show t ≤ n by omega), flat_put h1 (by rw [h2]; exact hlt)]
  have hy : (fillL n L m)[t].set (ofU L m t).length (m : Int) = ints (ofU L (m + 1) t) ++ List.replicate (cntE L t - (ofU L (m + 1) t).length) 0 := by
    rw [fill_get, ofU_succ, if_pos ht, List.set_append_right _ _ (by rw [ints_len]; omega), ints_len, Nat.sub_self]
    rw [show cntE L t - (ofU L m t).length = (cntE L t - (ofU L m t ++ [m]).length) + 1 by rw [List.length_append, List.length_cons, List.length_nil]; omega]
    simp [ints, List.replicate_succ]
  rw [hy]
  congr 1
  apply List.ext_getElem
  · simp [fillL]
  intro i g1 g2
  rw [fill_get, List.getElem_set]
  by_cases c : t = i
  · subst c
    rw [if_pos rfl]
  · rw [if_neg c, fill_get, ofU_succ, if_neg (by omega)]
    simp
theorem fill_zero {n : Nat} {L : List Ed} (hG : GOk n L) : (fillL n L 0).flatten = List.replicate (2 * L.length) 0 := by
  have h1 : (fillL n L 0).flatten.length = 2 * L.length := by
    have := flat_len (fill_len n L 0) (fill_cnt (L := L) (m := 0) (by omega)) (Nat.le_refl n)
    rw [List.take_of_length_le (by rw [fill_len]; exact Nat.le_refl n), posF_all hG] at this
    exact this
  apply List.eq_replicate_iff.2 ⟨h1, ?_⟩
  intro x hx
  simp only [fillL, List.mem_flatten, List.mem_map, List.mem_range] at hx
  obtain ⟨l, ⟨v, _, rfl⟩, hx⟩ := hx
  simp [ofU, ints] at hx
  exact hx.2
/-- The vertices' rows, of which the first ones are sorted. -/
def mixO (n : Nat) (L : List Ed) (j : Nat) : List (List Int) := (List.range n).map fun v => if v < j then ints (ofS n L v) else ints (ofU L (2 * L.length) v)
theorem fill_all (n : Nat) (L : List Ed) : fillL n L (2 * L.length) = mixO n L 0 := by
  unfold fillL mixO
  apply List.map_congr_left
  intro v _
  rw [if_neg (by omega)]
  simp [cntE]
theorem mixO_len (n : Nat) (L : List Ed) (j : Nat) : (mixO n L j).length = n := by simp [mixO]
theorem mixO_get {n : Nat} {L : List Ed} {j v : Nat} (h : v < (mixO n L j).length) : (mixO n L j)[v] = if v < j then ints (ofS n L v) else ints (ofU L (2 * L.length) v) := by simp [mixO]
theorem mixO_cnt {n : Nat} {L : List Ed} (hG : GOk n L) (j v : Nat) (h : v < (mixO n L j).length) : (mixO n L j)[v].length = cntE L v := by
  rw [mixO_get]
  split
  · rw [ints_len, ofS_len hG]
  · rw [ints_len]; rfl
theorem mixO_flat {n : Nat} {L : List Ed} (hG : GOk n L) (j : Nat) : (mixO n L j).flatten.length = 2 * L.length := by
  have := flat_len (mixO_len n L j) (mixO_cnt hG j) (Nat.le_refl n)
  rw [List.take_of_length_le (by rw [mixO_len]; exact Nat.le_refl n), posF_all hG] at this
  exact this
theorem mixO_set {n : Nat} {L : List Ed} {j : Nat} (hj : j < n) : (mixO n L j).set j (ints (ofS n L j)) = mixO n L (j + 1) := by
  apply List.ext_getElem
  · simp [mixO]
  intro i g1 g2
  rw [mixO_get, List.getElem_set]
  by_cases c : j = i
  · subst c; rw [if_pos rfl, if_pos (by omega)]
  · rw [if_neg c, mixO_get]
    by_cases h : i < j
    · rw [if_pos h, if_pos (by omega)]
    · rw [if_neg h, if_neg (by omega)]
/-- A vertex's part of the row, and what the row is once it is sorted. -/
theorem mixO_cut {n : Nat} {L : List Ed} (hG : GOk n L) {j : Nat} (hj : j < n) : ∃ A B, (mixO n L j).flatten = A ++ ints (ofU L (2 * L.length) j) ++ B ∧ (mixO n L (j + 1)).flatten = A ++ ints (ofS n L j) ++ B ∧ A.length = posF L j := by
  have h1 : j < (mixO n L j).length := by rw [mixO_len]; exact hj
  refine ⟨((mixO n L j).take j).flatten, ((mixO n L j).drop (j + 1)).flatten, ?_, ?_, flat_len (mixO_len n L j) (mixO_cnt hG j) (by omega)⟩
  · rw [flat_cut h1, mixO_get, if_neg (by omega)]
  · rw [← mixO_set hj, flat_set h1]
/-- The arcs out of each vertex, one vertex behind the other. -/
def outL (n : Nat) (L : List Ed) : List Int := (mixO n L n).flatten
theorem outL_len {n : Nat} {L : List Ed} (hG : GOk n L) : (outL n L).length = 2 * L.length := mixO_flat hG n
theorem outL_cut {n : Nat} {L : List Ed} (hG : GOk n L) {v : Nat} (hv : v < n) : ∃ A B, outL n L = A ++ ints (ofS n L v) ++ B ∧ A.length = posF L v := by
  have h1 : v < (mixO n L n).length := by rw [mixO_len]; exact hv
  refine ⟨((mixO n L n).take v).flatten, ((mixO n L n).drop (v + 1)).flatten, ?_, flat_len (mixO_len n L n) (mixO_cnt hG n) (by omega)⟩
  unfold outL
  rw [flat_cut h1, mixO_get, if_pos hv]
/-! The row of beginnings. -/
def fromL (n : Nat) (f : Nat → Nat) : List Int := (List.range (n + 1)).map fun v => ((f v : Nat) : Int)
theorem fromL_len (n : Nat) (f : Nat → Nat) : (fromL n f).length = n + 1 := by simp [fromL]
theorem fromL_get {n : Nat} {f : Nat → Nat} {v : Nat} (h : v ≤ n) : (fromL n f)[v]? = some ((f v : Nat) : Int) := by
  unfold fromL
  rw [List.getElem?_map, List.getElem?_range (by omega)]; rfl
theorem fromL_congr {n : Nat} {f g : Nat → Nat} (h : ∀ v, v ≤ n → f v = g v) : fromL n f = fromL n g := by
  unfold fromL
  apply List.map_congr_left
  intro v hv
  rw [List.mem_range] at hv
  rw [h v (by omega)]
theorem fromL_set {n : Nat} {f : Nat → Nat} (v x : Nat) : (fromL n f).set v (x : Int) = fromL n (fun u => if u = v then x else f u) := by
  unfold fromL
  apply List.ext_getElem
  · simp
  intro i g1 g2
  simp only [List.getElem_set, List.getElem_map, List.getElem_range]
  by_cases c : v = i
  · subst c; simp
  · rw [if_neg c, if_neg (fun e => c e.symm)]
def cntF (L : List Ed) (m : Nat) : Nat → Nat := fun v => if v = 0 then 0 else (ofU L m (v - 1)).length
def preF (L : List Ed) (j : Nat) : Nat → Nat := fun v => if v ≤ j then posF L v else cntE L (v - 1)
def nextF (L : List Ed) (m : Nat) : Nat → Nat := fun v => posF L v + (ofU L m v).length
theorem cntF_zero (n : Nat) (L : List Ed) : fromL n (cntF L 0) = List.replicate (n + 1) 0 := by
  apply List.eq_replicate_iff.2 ⟨fromL_len _ _, ?_⟩
  intro x hx
  simp only [fromL, List.mem_map] at hx
  obtain ⟨v, _, rfl⟩ := hx
  simp [cntF, ofU]
theorem cntF_step {n : Nat} {L : List Ed} {m t : Nat} (ht : tailE L m = (t : Int)) : (fromL n (cntF L m)).set (t + 1) (((cntF L m (t + 1) + 1 : Nat) : Int)) = fromL n (cntF L (m + 1)) := by
  rw [fromL_set]
  apply fromL_congr
  intro v _
  unfold cntF
  by_cases c : v = t + 1
  · subst c
    rw [if_pos rfl, if_neg (by omega), if_neg (by omega), Nat.add_sub_cancel, ofU_succ, if_pos ht]
    simp
  · rw [if_neg c]
    by_cases c2 : v = 0
    · rw [if_pos c2, if_pos c2]
    · rw [if_neg c2, if_neg c2, ofU_succ, if_neg (by omega)]
      simp
theorem cntF_all (n : Nat) (L : List Ed) : fromL n (cntF L (2 * L.length)) = fromL n (preF L 0) := by
  apply fromL_congr
  intro v _
  unfold cntF preF
  by_cases c : v = 0
  · subst c; simp [posF]
  · rw [if_neg c, if_neg (by omega)]; rfl
theorem preF_step {n : Nat} {L : List Ed} {j : Nat} : (fromL n (preF L j)).set (j + 1) (((preF L j (j + 1) + preF L j j : Nat) : Int)) = fromL n (preF L (j + 1)) := by
  rw [fromL_set]
  apply fromL_congr
  intro v _
  unfold preF
  by_cases c : v = j + 1
  · subst c
    rw [if_pos rfl, if_neg (by omega), if_pos (by omega), if_pos (by omega), posF_succ, Nat.add_sub_cancel]; omega
  · rw [if_neg c]
    by_cases h : v ≤ j
    · rw [if_pos h, if_pos (by omega)]
    · rw [if_neg h, if_neg (by omega)]
theorem preF_all (n : Nat) (L : List Ed) : fromL n (preF L n) = fromL n (posF L) := by
  apply fromL_congr
  intro v hv
  unfold preF
  rw [if_pos hv]
theorem nextF_zero (n : Nat) (L : List Ed) : fromL n (nextF L 0) = fromL n (posF L) := by
  apply fromL_congr
  intro v _
  simp [nextF, ofU]
theorem nextF_step {n : Nat} {L : List Ed} {m t : Nat} (ht : tailE L m = (t : Int)) : (fromL n (nextF L m)).set t (((nextF L m t + 1 : Nat) : Int)) = fromL n (nextF L (m + 1)) := by
  rw [fromL_set]
  apply fromL_congr
  intro v _
  unfold nextF
  by_cases c : v = t
  · subst c
    rw [if_pos rfl, ofU_succ, if_pos ht]
    simp; omega
  · rw [if_neg c, ofU_succ, if_neg (by omega)]
    simp
end Edge
end Go.Proofs.YtjpfmkfikidgkaaGreat
