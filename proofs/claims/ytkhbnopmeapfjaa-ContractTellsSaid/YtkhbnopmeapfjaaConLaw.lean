/- Vertices put together, as plain things: what a naming is; edges that are split and merged again; the naming of two vertices. -/
import Derived.Test.YtkhbnopmeapfjaaTotLaw
set_option linter.unusedVariables false
set_option linter.unusedSimpArgs false
namespace Go.Proofs.Ytkhbnopmeapfjaa
namespace Edge
/-! Edges merged, of any weights. -/
theorem merged_gen {k : Int} {l : List Ed} (hc : ∀ e ∈ l, 0 ≤ e.1 ∧ e.1 < k ∧ 0 ≤ e.2.1 ∧ e.2.1 < k ∧ 0 ≤ e.2.2) : (∀ e ∈ merged l, 0 ≤ e.1 ∧ e.1 < e.2.1 ∧ e.2.1 < k ∧ 0 < e.2.2) ∧ total (merged l) ≤ total l ∧ (merged l).length ≤ l.length := by
  have hi : ∀ x ∈ ins l, 0 ≤ x.1 ∧ x.1 < x.2.1 ∧ x.2.1 < k ∧ 0 ≤ x.2.2 := by
    intro x hx
    obtain ⟨e, he, h1, rfl⟩ := mem_ins hx
    have h2 := hc e he
    obtain ⟨h3, h4, h5⟩ := norm_ends h1
    have h6 := norm_w e
    omega
  have hm : ∀ e ∈ merged l, wt (key e) (ins l) = e.2.2 ∧ e.2.2 ≠ 0 := by
    intro e he
    obtain ⟨r1, r2⟩ := foldR (ins l) [] List.Pairwise.nil
    unfold merged allR at he
    rw [mem_heavy r1.apart, r2] at he
    simpa [wt] using he
  refine ⟨fun e he => ?_, ?_, ?_⟩
  · obtain ⟨h1, h2⟩ := hm e he
    obtain ⟨x, hx, e1⟩ := wt_some (k := key e) (l := ins l) (by omega)
    have h3 := hi x hx
    have e2 : (key x).1 = (key e).1 := by rw [e1]
    have e3 : (key x).2 = (key e).2 := by rw [e1]
    have := wt_nonneg (k := key e) (l := ins l) (fun x hx => (hi x hx).2.2.2)
    unfold key at e2 e3
    simp only at e2 e3
    omega
  · unfold merged allR
    rw [total_heavy, foldR_total _ _ List.Pairwise.nil]
    have h1 := tot_ins (l := l) (fun e he => (hc e he).2.2.2.2)
    simp only [total]
    omega
  · have h1 : (merged l).length ≤ (allR l).length := List.length_filter_le _ _
    have h2 := foldR_len (ins l) []
    have h3 := ins_len l
    unfold allR at h1
    simp only [List.length_nil] at h2
    omega
/-- Edges in order, each of which weighs something, are what they weigh. -/
theorem rising_wt {A B : List Ed} (ha : Rising A) (hb : Rising B) (wa : ∀ e ∈ A, e.2.2 ≠ 0) (wb : ∀ e ∈ B, e.2.2 ≠ 0) (h : ∀ k, wt k A = wt k B) : A = B := by
  have hh : ∀ {X : List Ed}, Rising X → (∀ e ∈ X, e.2.2 ≠ 0) → ∀ e, e ∈ X ↔ wt (key e) X = e.2.2 ∧ e.2.2 ≠ 0 := by
    intro X hx hw e
    have e1 : heavy X = X := List.filter_eq_self.2 (fun x hx => by simpa using hw x hx)
    rw [← mem_heavy hx.apart, e1]
  refine rising_eq ha hb (fun e => ?_)
  rw [hh ha wa, hh hb wb, h]
theorem ins_self {P : List Ed} (h : ∀ e ∈ P, e.1 < e.2.1) : ins P = P := by
  unfold ins
  rw [List.filter_eq_self.2 (fun e he => by have := h e he; simp; omega)]
  have : ∀ e ∈ P, norm e = e := fun e he => by have := h e he; unfold norm; rw [if_neg (by omega)]
  exact (List.map_congr_left this).trans (List.map_id P)
theorem merged_self {A P : List Ed} (hA : Rising A) (wA : ∀ e ∈ A, e.2.2 ≠ 0) (hP : ∀ e ∈ P, e.1 < e.2.1) (h : ∀ k, wt k P = wt k A) : merged P = A := by
  refine rising_wt (merged_rising P) hA (fun e he => ?_) wA (fun k => by rw [merged_wt, ins_self hP, h])
  unfold merged heavy at he
  have := (List.mem_filter.1 he).2
  simpa using this
/-! Edges that weigh too much, split. -/
def pcs (w : Int) : Nat := ((w - 1) / 2147483648).toNat
def splitE (e : Ed) : List Ed := List.replicate (pcs e.2.2) (e.1, e.2.1, 2147483648) ++ [(e.1, e.2.1, e.2.2 - 2147483648 * (pcs e.2.2 : Nat))]
def splitL (A : List Ed) : List Ed := A.flatMap splitE
theorem pcs_ok {w : Int} (h : 0 < w) : ((pcs w : Nat) : Int) = (w - 1) / 2147483648 ∧ 1 ≤ w - 2147483648 * (pcs w : Nat) ∧ w - 2147483648 * (pcs w : Nat) ≤ 2147483648 := by
  unfold pcs
  omega
theorem wt_rep (k : Int × Int) (e : Ed) : ∀ n : Nat, wt k (List.replicate n e) = if key e = k then (n : Int) * e.2.2 else 0
  | 0 => by simp [wt]
  | n + 1 => by
    simp only [List.replicate_succ, wt, wt_rep k e n]
    by_cases c : key e = k
    · simp only [c, if_true, Int.natCast_add, Int.natCast_one, Int.add_mul]; omega
    · simp only [c, if_false]; omega
theorem wt_splitE {e : Ed} (k : Int × Int) : wt k (splitE e) = if key e = k then e.2.2 else 0 := by
  unfold splitE
  rw [wt_append, wt_rep]
  simp only [wt]
  have e1 : key (e.1, e.2.1, (2147483648 : Int)) = key e := rfl
  have e2 : key (e.1, e.2.1, e.2.2 - 2147483648 * ((pcs e.2.2 : Nat) : Int)) = key e := rfl
  rw [e1, e2]
  by_cases c : key e = k
  · simp only [c, if_true]; omega
  · simp only [c, if_false]; omega
theorem wt_splitL (k : Int × Int) : ∀ {A : List Ed}, wt k (splitL A) = wt k A
  | [] => rfl
  | e :: l => by
    have := wt_splitL k (A := l)
    unfold splitL at this ⊢
    rw [List.flatMap_cons, wt_append, this, wt_splitE]
    simp only [wt]
theorem mem_splitE {e x : Ed} (h : 0 < e.2.2) (hx : x ∈ splitE e) : x.1 = e.1 ∧ x.2.1 = e.2.1 ∧ 0 < x.2.2 ∧ x.2.2 ≤ 2147483648 := by
  have hp := pcs_ok h
  unfold splitE at hx
  rcases List.mem_append.1 hx with hx | hx
  · have := (List.mem_replicate.1 hx).2
    subst this
    exact ⟨rfl, rfl, by simp only; omega, by simp only; omega⟩
  · rw [List.mem_singleton] at hx
    subst hx
    exact ⟨rfl, rfl, by simp only; omega, by simp only; omega⟩
theorem split_len : ∀ {A : List Ed}, (∀ e ∈ A, 0 < e.2.2) → 2147483648 * ((splitL A).length : Int) ≤ total A + 2147483648 * (A.length : Int)
  | [], _ => by simp [splitL, total]
  | e :: l, h => by
    have h1 := split_len (A := l) (fun x hx => h x (List.mem_cons_of_mem _ hx))
    have h2 := pcs_ok (h e (by simp))
    unfold splitL at h1 ⊢
    rw [List.flatMap_cons, List.length_append]
    have h3 : (splitE e).length = pcs e.2.2 + 1 := by simp [splitE]
    rw [h3]
    simp only [total, List.length_cons]
    omega
theorem split_ok {k : Int} {A : List Ed} (h : ∀ e ∈ A, 0 ≤ e.1 ∧ e.1 < e.2.1 ∧ e.2.1 < k ∧ 0 < e.2.2) : ∀ x ∈ splitL A, checkE k x = 0 ∧ x.1 < x.2.1 := by
  intro x hx
  unfold splitL at hx
  obtain ⟨e, he, hx⟩ := List.mem_flatMap.1 hx
  have h1 := h e he
  obtain ⟨e1, e2, e3, e4⟩ := mem_splitE h1.2.2.2 hx
  rw [checkE_ok]
  omega
theorem split_merged {k : Int} {A : List Ed} (hR : Rising A) (h : ∀ e ∈ A, 0 ≤ e.1 ∧ e.1 < e.2.1 ∧ e.2.1 < k ∧ 0 < e.2.2) : merged (splitL A) = A :=
  merged_self hR (fun e he => by have := h e he; omega) (fun e he => (split_ok h e he).2) (fun q => wt_splitL q)
/-! Namings. -/
def isN (k : Int) (name : List Int) : Prop := (0 ≤ k ∧ k ≤ 4096 ∧ name.length ≤ 4096) ∧ (∀ x ∈ name, 0 ≤ x ∧ x < k) ∧ ∀ v : Nat, (v : Int) < k → (v : Int) ∈ name
/-- Which names have come; how many. -/
def cameN (K : Nat) (name : List Int) (i : Nat) : List Bool := (List.range K).map fun (v : Nat) => decide ((v : Int) ∈ name.take i)
def cntN (K : Nat) (name : List Int) (i : Nat) : Nat := ((List.range K).filter fun (v : Nat) => decide ((v : Int) ∈ name.take i)).length
theorem cameN_len (K : Nat) (name : List Int) (i : Nat) : (cameN K name i).length = K := by simp [cameN]
theorem cameN_get {K : Nat} {name : List Int} {i v : Nat} (h : v < K) : (cameN K name i)[v]? = some (decide ((v : Int) ∈ name.take i)) := by
  unfold cameN
  rw [List.getElem?_map, List.getElem?_range h]; rfl
theorem cameN_zero (K : Nat) (name : List Int) : cameN K name 0 = List.replicate K false := by
  apply List.eq_replicate_iff.2 ⟨cameN_len _ _ _, ?_⟩
  intro x hx
  simp only [cameN, List.mem_map] at hx
  obtain ⟨v, _, rfl⟩ := hx
  simp
theorem cntN_zero (K : Nat) (name : List Int) : cntN K name 0 = 0 := by
  unfold cntN
  rw [List.length_eq_zero_iff, List.filter_eq_nil_iff]
  intro v _
  simp
theorem cntN_le (K : Nat) (name : List Int) (i : Nat) : cntN K name i ≤ K := by
  have := List.length_filter_le (fun (v : Nat) => decide ((v : Int) ∈ name.take i)) (List.range K)
  simpa [cntN] using this
theorem take_mem {name : List Int} {i : Nat} (hi : i < name.length) (y : Int) : y ∈ name.take (i + 1) ↔ y ∈ name.take i ∨ y = name[i] := by
  rw [List.take_succ_eq_append_getElem hi, List.mem_append, List.mem_singleton]
theorem cameN_old {K : Nat} {name : List Int} {i : Nat} (hi : i < name.length) (h : name[i] ∈ name.take i) : cameN K name (i + 1) = cameN K name i ∧ cntN K name (i + 1) = cntN K name i := by
  have e : ∀ y : Int, (y ∈ name.take (i + 1)) = (y ∈ name.take i) := fun y => propext (by rw [take_mem hi]; exact ⟨fun hh => hh.elim id (fun e => e ▸ h), .inl⟩)
  constructor
  · unfold cameN; simp only [e]
  · unfold cntN; simp only [e]
theorem cameN_new {K : Nat} {name : List Int} {i x : Nat} (hi : i < name.length) (hx : name[i] = (x : Int)) (hxK : x < K) (h : name[i] ∉ name.take i) : (cameN K name i).set x true = cameN K name (i + 1) ∧ cntN K name (i + 1) = cntN K name i + 1 := by
  have e : ∀ y : Int, y ∈ name.take (i + 1) ↔ y ∈ name.take i ∨ y = (x : Int) := fun y => by rw [take_mem hi, hx]
  rw [hx] at h
  constructor
  · apply List.ext_getElem
    · simp [cameN]
    intro v g1 g2
    simp only [cameN, List.getElem_set, List.getElem_map, List.getElem_range, e]
    by_cases c : x = v
    · subst c; simp
    · rw [if_neg c]
      have : ((v : Int) ∈ name.take i ∨ (v : Int) = (x : Int)) ↔ (v : Int) ∈ name.take i := ⟨fun hh => hh.elim id (fun hh => by omega), .inl⟩
      simp only [this]
  · unfold cntN
    have hg : ∀ K : Nat, ((List.range K).filter fun (v : Nat) => decide ((v : Int) ∈ name.take (i + 1))).length = ((List.range K).filter fun (v : Nat) => decide ((v : Int) ∈ name.take i)).length + if x < K then 1 else 0 := by
      intro K
      induction K with
      | zero => simp
      | succ K ih =>
        rw [List.range_succ, List.filter_append, List.filter_append, List.length_append, List.length_append, ih]
        by_cases c : x = K
        · subst c
          have e1 : ((x : Int) ∈ name.take (i + 1)) := (e _).2 (.inr rfl)
          simp [e1, h]
        · have e1 : ((K : Int) ∈ name.take (i + 1)) ↔ (K : Int) ∈ name.take i := by rw [e]; exact ⟨fun hh => hh.elim id (fun hh => by omega), .inl⟩
          by_cases d : (K : Int) ∈ name.take i
          · have d1 := e1.2 d
            simp only [List.filter_cons, d, d1, decide_true, if_true, List.filter_nil, List.length_cons, List.length_nil]
            by_cases f : x < K
            · rw [if_pos f, if_pos (by omega)]
            · rw [if_neg f, if_neg (by omega)]
          · have d1 : ¬ (K : Int) ∈ name.take (i + 1) := fun hh => d (e1.1 hh)
            simp only [List.filter_cons, d, d1, decide_false, Bool.false_eq_true, if_false, List.filter_nil, List.length_nil]
            by_cases f : x < K
            · rw [if_pos f, if_pos (by omega)]
            · rw [if_neg f, if_neg (by omega)]
    rw [hg K, if_pos hxK]
theorem cntN_all {K : Nat} {name : List Int} : cntN K name name.length = K ↔ ∀ v : Nat, v < K → (v : Int) ∈ name := by
  unfold cntN
  rw [List.take_length]
  constructor
  · intro h v hv
    have h2 : ((List.range K).filter fun (v : Nat) => decide ((v : Int) ∈ name)) = List.range K := by
      apply List.filter_eq_self.2
      have h3 := List.length_filter_eq_length_iff (p := fun (v : Nat) => decide ((v : Int) ∈ name)) (l := List.range K)
      exact h3.1 (by rw [h, List.length_range])
    have := List.filter_eq_self.1 h2 v (List.mem_range.2 hv)
    simpa using this
  · intro h
    rw [List.filter_eq_self.2 (fun v hv => by simpa using h v (List.mem_range.1 hv)), List.length_range]
/-- An edge's ends by their names. -/
def mapE (name : List Int) (e : Ed) : Ed := (name.getD e.1.toNat 0, name.getD e.2.1.toNat 0, e.2.2)
def mapL (name : List Int) (L : List Ed) : List Ed := L.map (mapE name)
theorem total_map (name : List Int) : ∀ L : List Ed, total (mapL name L) = total L
  | [] => rfl
  | e :: l => by
    have := total_map name l
    unfold mapL at this ⊢
    simp only [List.map_cons, total, this, mapE]
theorem mapL_ok {n : Nat} {L : List Ed} {k : Int} {name : List Int} (hG : GOk n L) (hl : name.length = n) (hr : ∀ x ∈ name, 0 ≤ x ∧ x < k) : ∀ e ∈ mapL name L, 0 ≤ e.1 ∧ e.1 < k ∧ 0 ≤ e.2.1 ∧ e.2.1 < k ∧ 0 ≤ e.2.2 := by
  intro e he
  unfold mapL at he
  obtain ⟨x, hx, rfl⟩ := List.mem_map.1 he
  have h1 := hG.ends x hx
  have h2 := hG.pos x hx
  have hg : ∀ j : Nat, j < name.length → 0 ≤ name.getD j 0 ∧ name.getD j 0 < k := fun j hj => by
    rw [List.getD_eq_getElem?_getD, List.getElem?_eq_getElem hj]
    exact hr _ (List.getElem_mem hj)
  have h3 := hg x.1.toNat (by omega)
  have h4 := hg x.2.1.toNat (by omega)
  unfold mapE
  simp only
  omega
/-- The naming of two vertices put together. -/
def pairN (n : Nat) (u v : Int) : List Int := (List.range n).map fun (x : Nat) => if (x : Int) = max u v then min u v else if max u v < (x : Int) then (x : Int) - 1 else (x : Int)
theorem pairN_len (n : Nat) (u v : Int) : (pairN n u v).length = n := by simp [pairN]
theorem pairN_ok {n : Nat} {u v : Int} (hn : n ≤ 4096) (hu : 0 ≤ u ∧ u < n) (hv : 0 ≤ v ∧ v < n) (huv : u ≠ v) : isN ((n : Int) - 1) (pairN n u v) := by
  refine ⟨⟨by omega, by omega, by rw [pairN_len]; exact hn⟩, ?_, ?_⟩
  · intro y hy
    unfold pairN at hy
    obtain ⟨x, hx, rfl⟩ := List.mem_map.1 hy
    rw [List.mem_range] at hx
    split
    · omega
    · split <;> omega
  · intro w hw
    unfold pairN
    rw [List.mem_map]
    by_cases c : (w : Int) < max u v
    · exact ⟨w, by rw [List.mem_range]; omega, by rw [if_neg (by omega), if_neg (by omega)]⟩
    · exact ⟨w + 1, by rw [List.mem_range]; omega, by rw [if_neg (by omega), if_pos (by omega)]; omega⟩
end Edge
end Go.Proofs.Ytkhbnopmeapfjaa
