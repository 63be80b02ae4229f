/- ResidTwice: for every number of vertices, list of edges and list of pushes the law returns true, and its arguments read as before. Conditions: none. (Ahead of it: What is left of arcs as a plain thing: a flow of each edge; what an arc has left, what stays at a vertex, what a push does. What is left of arcs, as an object: what it tells; a push. What is left of arcs: a push along an arc; all flows; of nil there is nothing. What is left of arcs: all flows; of nil there is nothing; New. What is left of arcs: New. What is left of arcs: the contracts over several objects; the law's awake. ResidTwice: what is left of both arcs of an edge is together twice what it weighs; all excess is together 0; of nil there is nothing.) -/
import Derived.Test.YtkhbnopmeapfjaaCsrLaw
import Derived.Test.YtkhbnopmeapfjaaAwake19
import Derived.Test.YtkhbnopmeapfjaaRead2
set_option linter.unusedVariables false
set_option linter.unusedSimpArgs false
namespace Go.Proofs.Ytkhbnopmeapfjaa
namespace Edge
/-- A flow of each edge, no more than it weighs, either way. -/
def FB : List Ed → List Int → Prop
  | [], [] => True
  | e :: l, x :: f => (-e.2.2 ≤ x ∧ x ≤ e.2.2) ∧ FB l f
  | _, _ => False
theorem FB.len : ∀ {L : List Ed} {f : List Int}, FB L f → f.length = L.length
  | [], [], _ => rfl
  | e :: l, x :: f, h => by simp [FB.len h.2]
theorem FB.get : ∀ {L : List Ed} {f : List Int}, FB L f → ∀ (k : Nat) (hk : k < L.length), -L[k].2.2 ≤ f.getD k 0 ∧ f.getD k 0 ≤ L[k].2.2
  | e :: l, x :: f, h, 0, _ => by simpa using h.1
  | e :: l, x :: f, h, k + 1, hk => by
    have := FB.get h.2 k (by simpa using hk)
    simpa using this
theorem FB.set : ∀ {L : List Ed} {f : List Int}, FB L f → ∀ (k : Nat) (hk : k < L.length) (y : Int), -L[k].2.2 ≤ y → y ≤ L[k].2.2 → FB L (f.set k y)
  | e :: l, x :: f, h, 0, _, y, h1, h2 => ⟨⟨by simpa using h1, by simpa using h2⟩, h.2⟩
  | e :: l, x :: f, h, k + 1, hk, y, h1, h2 => ⟨h.1, FB.set h.2 k (by simpa using hk) y (by simpa using h1) (by simpa using h2)⟩
theorem FB.none : ∀ {L : List Ed}, (∀ e ∈ L, 0 < e.2.2) → FB L (List.replicate L.length 0)
  | [], _ => trivial
  | e :: l, h => by
    have h1 := h e (by simp)
    refine ⟨⟨by omega, by omega⟩, FB.none (fun x hx => h x (by simp [hx]))⟩
/-- What an arc has left. -/
def leftE (L : List Ed) (f : List Int) (i : Nat) : Int := if i % 2 = 0 then capE L i - f.getD (i / 2) 0 else capE L i + f.getD (i / 2) 0
def leftL (L : List Ed) (f : List Int) : List Int := (List.range (2 * L.length)).map (leftE L f)
/-- What stays at a vertex. -/
def exc : List Ed → List Int → Int → Int
  | e :: l, x :: f, v => (if e.2.1 = v then x else 0) - (if e.1 = v then x else 0) + exc l f v
  | _, _, _ => 0
def overL (n : Nat) (L : List Ed) (f : List Int) : List Int := (List.range n).map fun (v : Nat) => exc L f (v : Int)
/-- x goes along the arc i. -/
def pushF (f : List Int) (i : Nat) (x : Int) : List Int := f.set (i / 2) (if i % 2 = 0 then f.getD (i / 2) 0 + x else f.getD (i / 2) 0 - x)
theorem leftL_len (L : List Ed) (f : List Int) : (leftL L f).length = 2 * L.length := by simp [leftL]
theorem leftL_get {L : List Ed} {f : List Int} {i : Nat} (h : i < 2 * L.length) : (leftL L f)[i]? = some (leftE L f i) := by
  unfold leftL
  rw [List.getElem?_map, List.getElem?_range h]; rfl
theorem overL_len (n : Nat) (L : List Ed) (f : List Int) : (overL n L f).length = n := by simp [overL]
theorem overL_get {n : Nat} {L : List Ed} {f : List Int} {v : Nat} (h : v < n) : (overL n L f)[v]? = some (exc L f (v : Int)) := by
  unfold overL
  rw [List.getElem?_map, List.getElem?_range h]; rfl
theorem capE_le {n : Nat} {L : List Ed} (hG : GOk n L) (i : Nat) : 0 ≤ capE L i ∧ capE L i ≤ 2251799813685248 := by
  by_cases h : i < 2 * L.length
  · rw [capE_get h]
    have h1 := hG.pos _ (List.getElem_mem (l := L) (n := i / 2) (by omega))
    have h2 : ∀ {M : List Ed}, (∀ e ∈ M, 0 < e.2.2) → ∀ e ∈ M, e.2.2 ≤ total M ∧ 0 ≤ total M := by
      intro M
      induction M with
      | nil => simp
      | cons a M ih =>
        intro hp e he
        have ha := hp a (by simp)
        have hM : 0 ≤ total M := by
          cases M with
          | nil => simp [total]
          | cons b M => exact (ih (fun x hx => hp x (by simp [hx])) b (by simp)).2
        simp only [total]
        rcases List.mem_cons.1 he with rfl | he
        · omega
        · have := ih (fun x hx => hp x (by simp [hx])) e he
          omega
    have h3 := (h2 hG.pos _ (List.getElem_mem (l := L) (n := i / 2) (by omega))).1
    have h4 := hG.tot
    omega
  · rw [capE_out h]; omega
theorem leftE_in {n : Nat} {L : List Ed} {f : List Int} (hG : GOk n L) (hF : FB L f) {i : Nat} (h : i < 2 * L.length) : 0 ≤ leftE L f i ∧ leftE L f i ≤ 4503599627370496 := by
  have h1 := hF.get (i / 2) (by omega)
  have h2 := capE_le hG i
  rw [capE_get h] at h2
  unfold leftE
  rw [capE_get h]
  split <;> omega
theorem leftE_even {L : List Ed} {f : List Int} {i : Nat} (h : i % 2 = 0) : leftE L f i = capE L i - f.getD (i / 2) 0 := by unfold leftE; rw [if_pos h]
theorem leftE_odd {L : List Ed} {f : List Int} {i : Nat} (h : ¬ i % 2 = 0) : leftE L f i = capE L i + f.getD (i / 2) 0 := by unfold leftE; rw [if_neg h]
theorem push_get {f : List Int} {i : Nat} (h : i / 2 < f.length) (x : Int) (k : Nat) : (pushF f i x).getD k 0 = if i / 2 = k then (if i % 2 = 0 then f.getD (i / 2) 0 + x else f.getD (i / 2) 0 - x) else f.getD k 0 := by
  unfold pushF
  simp only [List.getD_eq_getElem?_getD, List.getElem?_set]
  by_cases c : i / 2 = k
  · subst c
    simp [h]
  · simp [c]
theorem leftE_push {L : List Ed} {f : List Int} (hl : f.length = L.length) {i : Nat} (h : i < 2 * L.length) (x : Int) (j : Nat) : leftE L (pushF f i x) j = if j = i then leftE L f i - x else if j = back i then leftE L f (back i) + x else leftE L f j := by
  have hb := back_half i
  have hg := push_get (f := f) (i := i) (by omega) x
  by_cases c1 : j = i
  · subst c1
    rw [if_pos rfl]
    by_cases c : j % 2 = 0
    · rw [leftE_even c, leftE_even c, hg, if_pos rfl, if_pos c]; omega
    · rw [leftE_odd c, leftE_odd c, hg, if_pos rfl, if_neg c]; omega
  · rw [if_neg c1]
    by_cases c2 : j = back i
    · subst c2
      rw [if_pos rfl]
      by_cases c : i % 2 = 0
      · have cb : ¬ back i % 2 = 0 := by unfold back; rw [if_pos c]; omega
        rw [leftE_odd cb, leftE_odd cb, hg, hb, if_pos rfl, if_pos c]; omega
      · have cb : back i % 2 = 0 := by unfold back; rw [if_neg c]; omega
        rw [leftE_even cb, leftE_even cb, hg, hb, if_pos rfl, if_neg c]; omega
    · rw [if_neg c2]
      have hn : ¬ i / 2 = j / 2 := by
        intro e
        unfold back at c2
        split at c2 <;> omega
      by_cases c : j % 2 = 0
      · rw [leftE_even c, leftE_even c, hg, if_neg hn]
      · rw [leftE_odd c, leftE_odd c, hg, if_neg hn]
theorem leftL_push {L : List Ed} {f : List Int} (hl : f.length = L.length) {i : Nat} (h : i < 2 * L.length) (x : Int) : ((leftL L f).set i (leftE L f i - x)).set (back i) (leftE L f (back i) + x) = leftL L (pushF f i x) := by
  have hne : back i ≠ i := by unfold back; split <;> omega
  apply List.ext_getElem?
  intro j
  by_cases hj : j < 2 * L.length
  · rw [leftL_get hj, leftE_push hl h, List.getElem?_set, List.getElem?_set]
    simp only [List.length_set, leftL_len]
    by_cases c1 : j = i
    · subst c1
      rw [if_pos rfl, if_neg hne, if_pos rfl, if_pos hj]
    · rw [if_neg c1]
      by_cases c2 : j = back i
      · subst c2
        rw [if_pos rfl, if_pos rfl, if_pos hj]
      · rw [if_neg c2, if_neg (fun e => c2 e.symm), if_neg (fun e => c1 e.symm), leftL_get hj]
  · rw [List.getElem?_eq_none (by simp only [List.length_set, leftL_len]; omega), List.getElem?_eq_none (by rw [leftL_len]; omega)]
theorem FB.push {L : List Ed} {f : List Int} (hF : FB L f) {i : Nat} (h : i < 2 * L.length) {x : Int} (h0 : 0 ≤ x) (h1 : x ≤ leftE L f i) : FB L (pushF f i x) := by
  have hb := hF.get (i / 2) (by omega)
  unfold leftE at h1
  rw [capE_get h] at h1
  unfold pushF
  refine hF.set (i / 2) (by omega) _ ?_ ?_
  · split at h1 <;> simp_all <;> omega
  · split at h1 <;> simp_all <;> omega
theorem exc_set : ∀ {L : List Ed} {f : List Int} (k : Nat) (hk : k < L.length) (hl : f.length = L.length) (y v : Int), exc L (f.set k y) v = exc L f v + (if L[k].2.1 = v then y - f.getD k 0 else 0) - (if L[k].1 = v then y - f.getD k 0 else 0)
  | e :: l, x :: f, 0, _, _, y, v => by
    simp only [List.set_cons_zero, exc, List.getElem_cons_zero, List.getD_cons_zero]
    by_cases c1 : e.2.1 = v <;> by_cases c2 : e.1 = v <;> simp only [c1, c2, if_true, if_false] <;> omega
  | e :: l, x :: f, k + 1, hk, hl, y, v => by
    have := exc_set (L := l) (f := f) k (by simpa using hk) (by simpa using hl) y v
    simp only [List.set_cons_succ, exc, List.getElem_cons_succ, List.getD_cons_succ]
    rw [this]; omega
theorem exc_push {L : List Ed} {f : List Int} (hl : f.length = L.length) {i : Nat} (h : i < 2 * L.length) (x v : Int) : exc L (pushF f i x) v = exc L f v + (if headE L i = v then x else 0) - (if tailE L i = v then x else 0) := by
  unfold pushF
  rw [exc_set (i / 2) (by omega) hl, headE_get h, tailE_get h]
  by_cases c : i % 2 = 0
  · simp only [c, if_true, show f.getD (i / 2) 0 + x - f.getD (i / 2) 0 = x by omega]
  · simp only [c, if_false, show f.getD (i / 2) 0 - x - f.getD (i / 2) 0 = -x by omega]
    by_cases c1 : (L[i / 2]'(by omega)).2.1 = v <;> by_cases c2 : (L[i / 2]'(by omega)).1 = v <;> simp only [c1, c2, if_true, if_false] <;> omega
theorem tail_ne_head {n : Nat} {L : List Ed} (hG : GOk n L) {i : Nat} (h : i < 2 * L.length) : tailE L i ≠ headE L i := by
  have := hG.ends _ (List.getElem_mem (l := L) (n := i / 2) (by omega))
  rw [tailE_get h, headE_get h]
  split <;> omega
theorem overL_push {n : Nat} {L : List Ed} {f : List Int} (hG : GOk n L) (hl : f.length = L.length) {i t hd : Nat} (h : i < 2 * L.length) (ht : tailE L i = (t : Int)) (hh : headE L i = (hd : Int)) (x : Int) : ((overL n L f).set t (exc L f (t : Int) - x)).set hd (exc L f (hd : Int) + x) = overL n L (pushF f i x) := by
  have hne := tail_ne_head hG h
  rw [ht, hh] at hne
  apply List.ext_getElem?
  intro v
  by_cases hv : v < n
  · rw [overL_get hv, exc_push hl h, ht, hh, List.getElem?_set, List.getElem?_set]
    simp only [List.length_set, overL_len]
    by_cases c1 : v = hd
    · subst c1
      rw [if_pos rfl, if_pos hv, if_pos rfl, if_neg hne]; congr 1; omega
    · rw [if_neg (fun e => c1 e.symm)]
      by_cases c2 : v = t
      · subst c2
        rw [if_pos rfl, if_pos hv, if_neg (fun e => hne e.symm), if_pos rfl]; congr 1; omega
      · rw [if_neg (fun e => c2 e.symm), overL_get hv, if_neg (by omega), if_neg (by omega)]; congr 1; omega
  · rw [List.getElem?_eq_none (by simp only [List.length_set, overL_len]; omega), List.getElem?_eq_none (by rw [overL_len]; omega)]
theorem exc_in : ∀ {L : List Ed} {f : List Int}, FB L f → (∀ e ∈ L, e.1 ≠ e.2.1) → ∀ v : Int, -total L ≤ exc L f v ∧ exc L f v ≤ total L
  | [], [], _, _, _ => by simp [exc, total]
  | e :: l, x :: f, h, hne, v => by
    have h1 := exc_in h.2 (fun y hy => hne y (by simp [hy])) v
    have h2 := hne e (by simp)
    have h3 := h.1
    simp only [exc, total]
    by_cases c1 : e.2.1 = v <;> by_cases c2 : e.1 = v <;> simp only [c1, c2, if_true, if_false] <;> omega
theorem exc_out : ∀ {L : List Ed} {f : List Int} {v : Int}, (∀ e ∈ L, e.1 ≠ v ∧ e.2.1 ≠ v) → exc L f v = 0
  | [], _, _, _ => by simp [exc]
  | e :: l, [], _, _ => by simp [exc]
  | e :: l, x :: f, v, h => by
    have h1 := h e (by simp)
    have h2 := exc_out (L := l) (f := f) (v := v) (fun y hy => h y (by simp [hy]))
    simp only [exc, if_neg h1.1, if_neg h1.2, h2]; omega
/-- All that stays at the first k vertices. -/
def cutS : List Ed → List Int → Int → Int
  | e :: l, x :: f, k => (if e.2.1 < k then x else 0) - (if e.1 < k then x else 0) + cutS l f k
  | _, _, _ => 0
theorem step_if (u k x : Int) : (if u < k then x else 0) + (if u = k then x else 0) = if u < k + 1 then x else 0 := by
  by_cases h1 : u < k
  · rw [if_pos h1, if_neg (by omega), if_pos (by omega)]; omega
  · rw [if_neg h1]
    by_cases h2 : u = k
    · rw [if_pos h2, if_pos (by omega)]; omega
    · rw [if_neg h2, if_neg (by omega)]; omega
theorem sum_exc : ∀ {L : List Ed} {f : List Int}, f.length = L.length → (∀ e ∈ L, 0 ≤ e.1 ∧ 0 ≤ e.2.1) → ∀ k : Nat, sumTo (exc L f) k = cutS L f (k : Int) := by
  intro L f hl hp k
  induction k with
  | zero =>
    have : ∀ {L : List Ed} {f : List Int}, (∀ e ∈ L, 0 ≤ e.1 ∧ 0 ≤ e.2.1) → cutS L f 0 = 0 := by
      intro L
      induction L with
      | nil => intro f _; simp [cutS]
      | cons e l ih =>
        intro f h
        cases f with
        | nil => simp [cutS]
        | cons x f =>
          have h1 := h e (by simp)
          simp only [cutS, if_neg (show ¬ e.2.1 < 0 by omega), if_neg (show ¬ e.1 < 0 by omega), ih (fun y hy => h y (by simp [hy]))]; omega
    exact (this hp).symm
  | succ k ih =>
    have hs : sumTo (exc L f) (k + 1) = sumTo (exc L f) k + exc L f (k : Int) := rfl
    rw [hs, ih]
    have : ∀ {L : List Ed} {f : List Int}, cutS L f (k : Int) + exc L f (k : Int) = cutS L f ((k + 1 : Nat) : Int) := by
      intro L
      induction L with
      | nil => intro f; simp [cutS, exc]
      | cons e l ih =>
        intro f
        cases f with
        | nil => simp [cutS, exc]
        | cons x f =>
          have h0 := ih (f := f)
          have a := step_if e.2.1 (k : Int) x
          have b := step_if e.1 (k : Int) x
          rw [Int.natCast_add, Int.natCast_one] at h0 ⊢
          simp only [cutS, exc]
          omega
    exact this
theorem cut_in : ∀ {L : List Ed} {f : List Int}, FB L f → ∀ k : Int, -total L ≤ cutS L f k ∧ cutS L f k ≤ total L
  | [], [], _, _ => by simp [cutS, total]
  | e :: l, x :: f, h, k => by
    have h1 := cut_in h.2 k
    have h3 := h.1
    simp only [cutS, total]
    by_cases c1 : e.2.1 < k <;> by_cases c2 : e.1 < k <;> simp only [c1, c2, if_true, if_false] <;> omega
theorem cut_all : ∀ {L : List Ed} {f : List Int} {n : Int}, (∀ e ∈ L, e.1 < n ∧ e.2.1 < n) → cutS L f n = 0
  | [], _, _, _ => by simp [cutS]
  | e :: l, [], _, _ => by simp [cutS]
  | e :: l, x :: f, n, h => by
    have h1 := h e (by simp)
    have h2 := cut_all (L := l) (f := f) (n := n) (fun y hy => h y (List.mem_cons_of_mem _ hy))
    simp only [cutS, if_pos h1.1, if_pos h1.2, h2]; omega
/-- Ahead of all pushes. -/
def noF (L : List Ed) : List Int := List.replicate L.length 0
theorem leftE_new (L : List Ed) (i : Nat) : leftE L (noF L) i = capE L i := by
  have : (noF L).getD (i / 2) 0 = 0 := by
    unfold noF
    rw [List.getD_eq_getElem?_getD, List.getElem?_replicate]
    split <;> rfl
  unfold leftE
  rw [this]
  split <;> omega
theorem exc_new : ∀ (L : List Ed) (k : Nat) (v : Int), exc L (List.replicate k 0) v = 0
  | [], _, _ => by simp [exc]
  | e :: l, 0, _ => by simp [exc]
  | e :: l, k + 1, v => by
    simp only [List.replicate_succ, exc, exc_new l k v]
    by_cases c1 : e.2.1 = v <;> by_cases c2 : e.1 = v <;> simp [c1, c2]
theorem overL_new (n : Nat) (L : List Ed) : overL n L (noF L) = List.replicate n 0 := by
  apply List.eq_replicate_iff.2 ⟨overL_len _ _ _, ?_⟩
  intro x hx
  simp only [overL, List.mem_map] at hx
  obtain ⟨v, _, rfl⟩ := hx
  exact exc_new L _ _
/-- The row of what is left, while it is being made. -/
def capL (L : List Ed) (k : Nat) : List Int := (List.range (2 * L.length)).map fun j => if j < k then capE L j else 0
theorem capL_zero (L : List Ed) : capL L 0 = List.replicate (2 * L.length) 0 := by
  apply List.eq_replicate_iff.2 ⟨by simp [capL], ?_⟩
  intro x hx
  simp only [capL, List.mem_map] at hx
  obtain ⟨v, _, rfl⟩ := hx
  rw [if_neg (by omega)]
theorem capL_len (L : List Ed) (k : Nat) : (capL L k).length = 2 * L.length := by simp [capL]
theorem capL_step {L : List Ed} {k : Nat} (hk : k < 2 * L.length) : (capL L k).set k (capE L k) = capL L (k + 1) := by
  apply List.ext_getElem
  · simp [capL]
  intro i g1 g2
  simp only [capL, List.getElem_set, List.getElem_map, List.getElem_range]
  by_cases c : k = i
  · subst c; rw [if_pos rfl, if_pos (by omega)]
  · rw [if_neg c]
    by_cases h : i < k
    · rw [if_pos h, if_pos (by omega)]
    · rw [if_neg h, if_neg (by omega)]
theorem capL_all (L : List Ed) : capL L (2 * L.length) = leftL L (noF L) := by
  unfold capL leftL
  apply List.map_congr_left
  intro i hi
  rw [List.mem_range] at hi
  rw [if_pos hi, leftE_new]
/-! By any numbers. -/
def leftI (L : List Ed) (f : List Int) (i : Int) : Int := if 0 ≤ i ∧ i < 2 * L.length then leftE L f i.toNat else 0
def flowI (L : List Ed) (f : List Int) (e : Int) : Int := if 0 ≤ e ∧ e < L.length then f.getD e.toNat 0 else 0
def mayP (L : List Ed) (f : List Int) (i x : Int) : Bool := decide ((0 ≤ i ∧ i < 2 * L.length) ∧ 0 ≤ x ∧ x ≤ leftE L f i.toNat)
def pushI (L : List Ed) (f : List Int) (i x : Int) : List Int := if mayP L f i x = true then pushF f i.toNat x else f
theorem FB.pushI {L : List Ed} {f : List Int} (hF : FB L f) (i x : Int) : FB L (pushI L f i x) := by
  unfold Edge.pushI
  by_cases h : mayP L f i x = true
  · rw [if_pos h]
    unfold mayP at h
    simp only [decide_eq_true_eq] at h
    exact hF.push (by omega) h.2.1 h.2.2
  · rw [if_neg h]; exact hF
theorem exc_I {n : Nat} {L : List Ed} {f : List Int} (hG : GOk n L) {v : Int} (h : v < 0 ∨ (n : Int) ≤ v) : exc L f v = 0 :=
  exc_out (fun e he => by have := hG.ends e he; omega)
end Edge
end Go.Proofs.Ytkhbnopmeapfjaa

set_option linter.unusedVariables false
set_option linter.unusedSimpArgs false
namespace Go.Proofs.Ytkhbnopmeapfjaa
open Go.RowKit
namespace Edge
/-- What is left of the arcs ba. -/
def RestP (r ba n : Nat) (L : List Ed) (f : List Int) : Part := fun w F => ∃ gl go : Nat, Parts w
  [Blk r [.pointer (some ⟨ba, 0, none⟩), .slice (some ⟨gl, 0, none⟩) (2 * L.length) (2 * L.length), .slice (some ⟨go, 0, none⟩) n n] 115,
   Row 2 1 (2 * L.length) (.slice (some ⟨gl, 0, none⟩) (2 * L.length) (2 * L.length)) (i64s (leftL L f)),
   Row 2 1 n (.slice (some ⟨go, 0, none⟩) n n) (i64s (overL n L f))] F
instance (r ba n : Nat) (L : List Ed) (f : List Int) : Good (RestP r ba n L f) where
  lt h := by obtain ⟨_, _, h⟩ := h; exact h.lt
  keep h m hd := by obtain ⟨gl, go, h⟩ := h; exact ⟨gl, go, h.keep m hd⟩
structure RestRd (w : World) (r ba n : Nat) (L : List Ed) (f : List Int) (gl go : Nat) : Prop where
  hb : Has w r [.pointer (some ⟨ba, 0, none⟩), .slice (some ⟨gl, 0, none⟩) (2 * L.length) (2 * L.length), .slice (some ⟨go, 0, none⟩) n n] 115
  left : w.ownsRow 0 2 1 (.slice (some ⟨gl, 0, none⟩) (2 * L.length) (2 * L.length)) (2 * L.length) (i64s (leftL L f))
  over : w.ownsRow 0 2 1 (.slice (some ⟨go, 0, none⟩) n n) n (i64s (overL n L f))
theorem RestP.rd {w : World} {r ba n : Nat} {L : List Ed} {f : List Int} {F : List Nat} (h : RestP r ba n L f w F) : ∃ gl go, RestRd w r ba n L f gl go := by
  obtain ⟨gl, go, h⟩ := h
  obtain ⟨_, ⟨k0, _⟩, _⟩ := parts_at h 0 _ rfl
  obtain ⟨_, ⟨k1, _⟩, _⟩ := parts_at h 1 _ rfl
  obtain ⟨_, ⟨k2, _⟩, _⟩ := parts_at h 2 _ rfl
  exact ⟨gl, go, k0, k1, k2⟩
/-- The parts of what is left, side by side with others. -/
theorem Sep.rest {w0 w : World} {r ba n : Nat} {L : List Ed} {f : List Int} {R : List Part} (h : Sep w0 w (RestP r ba n L f :: R)) : ∃ gl go : Nat, Sep w0 w
  (Blk r [.pointer (some ⟨ba, 0, none⟩), .slice (some ⟨gl, 0, none⟩) (2 * L.length) (2 * L.length), .slice (some ⟨go, 0, none⟩) n n] 115 ::
   Row 2 1 (2 * L.length) (.slice (some ⟨gl, 0, none⟩) (2 * L.length) (2 * L.length)) (i64s (leftL L f)) ::
   Row 2 1 n (.slice (some ⟨go, 0, none⟩) n n) (i64s (overL n L f)) :: R) := by
  obtain ⟨F, h1, h2, h3⟩ := h.out
  obtain ⟨_, F1, F2, rfl, ⟨gl, go, k⟩, k2, k3⟩ := h1
  obtain ⟨g0, A, B, rfl, a1, ⟨g1, C, D, rfl, c1, ⟨g2, E, G, rfl, e1, rfl, e3⟩, c3⟩, a3⟩ := k
  refine ⟨gl, go, A ++ (C ++ (E ++ F2)), ⟨g0, A, _, rfl, a1, ⟨g1, C, _, rfl, c1, ⟨g2, E, _, rfl, e1, k2, ?_⟩, ?_⟩, ?_⟩, h2, ?_⟩
  · intro b hb hb2; exact k3 b (by simp [hb]) hb2
  · intro b hb hb2
    rcases List.mem_append.1 hb2 with hb2 | hb2
    · exact c3 b hb (by simp [hb2])
    · exact k3 b (by simp [hb]) hb2
  · intro b hb hb2
    rcases List.mem_append.1 hb2 with hb2 | hb2
    · exact a3 b hb (by simp [hb2])
    rcases List.mem_append.1 hb2 with hb2 | hb2
    · exact a3 b hb (by simp [hb2])
    · exact k3 b (by simp [hb]) hb2
  · intro b hb
    refine h3 b ?_
    simp only [List.mem_append] at hb ⊢
    rcases hb with hb | hb | hb | hb <;> simp [hb]
theorem Sep.mkRest {w0 w : World} {r ba n : Nat} {L : List Ed} {f : List Int} {R : List Part} {gl go : Nat} (h : Sep w0 w
  (Blk r [.pointer (some ⟨ba, 0, none⟩), .slice (some ⟨gl, 0, none⟩) (2 * L.length) (2 * L.length), .slice (some ⟨go, 0, none⟩) n n] 115 ::
   Row 2 1 (2 * L.length) (.slice (some ⟨gl, 0, none⟩) (2 * L.length) (2 * L.length)) (i64s (leftL L f)) ::
   Row 2 1 n (.slice (some ⟨go, 0, none⟩) n n) (i64s (overL n L f)) :: R)) : Sep w0 w (RestP r ba n L f :: R) := by
  obtain ⟨F, h1, h2, h3⟩ := h.out
  obtain ⟨g0, A, B, rfl, a1, ⟨g1, C, D, rfl, c1, ⟨g2, E, G, rfl, e1, k2, e3⟩, c3⟩, a3⟩ := h1
  refine ⟨(A ++ (C ++ (E ++ []))) ++ G, ⟨inferInstance, _, G, rfl, ⟨gl, go, ⟨g0, A, _, rfl, a1, ⟨g1, C, _, rfl, c1, ⟨g2, E, _, rfl, e1, rfl, by simp⟩, ?_⟩, ?_⟩⟩, k2, ?_⟩, h2, ?_⟩
  · intro b hb hb2
    simp only [List.append_nil] at hb2
    exact c3 b hb (by simp [hb2])
  · intro b hb hb2
    simp only [List.append_nil, List.mem_append] at hb2
    exact a3 b hb (by rcases hb2 with hb2 | hb2 <;> simp [hb2])
  · intro b hb hb2
    simp only [List.append_nil, List.mem_append] at hb
    rcases hb with hb | hb | hb
    · exact a3 b hb (by simp [hb2])
    · exact c3 b hb (by simp [hb2])
    · exact e3 b hb hb2
  · intro b hb
    refine h3 b ?_
    simp only [List.append_nil, List.mem_append] at hb ⊢
    rcases hb with (hb | hb | hb) | hb <;> simp [hb]
section
variable {w : World} {r ba n : Nat} {L : List Ed} {f : List Int} {F F2 : List Nat}
theorem rarcs_p (h : RestP r ba n L f w F) : Calls Try.prog 50 #[.pointer (some ⟨r, 0, none⟩)] w fun e w' => e = .returned (.pointer (some ⟨ba, 0, none⟩)) ∧ w' = w := by
  obtain ⟨gl, go, hr⟩ := h.rd
  have b0 := hr.hb.cell 0 rfl
  have bl := hr.hb.lt
  clear h hr
  go_enter Try.func50, Try.ntmps50
  go_wp2
  go_ret
  exact ⟨rfl, rfl⟩
theorem rleft_p (h : RestP r ba n L f w F) (hA : ArcP ba n L w F2) (hG : GOk n L) (i : Int) : Calls Try.prog 51 #[.pointer (some ⟨r, 0, none⟩), .int .i64 i] w fun e w' => e = .returned (.int .i64 (leftI L f i)) ∧ w' = w := by
  have ca := Lib.hid (rarcs_p h)
  have cl := Lib.hid (alen_p hA)
  have hl := hG.len
  obtain ⟨gl, go, hr⟩ := h.rd
  have b1 := hr.hb.cell 1 rfl
  have bl := hr.hb.lt
  by_cases h0 : i < 0
  · have e : leftI L f i = 0 := by unfold leftI; rw [if_neg (by omega)]
    rw [e]
    clear e hr h hA hG
    go_enter Try.func51, Try.ntmps51
    go_wp2_with fail
    go_ret
    exact ⟨rfl, rfl⟩
  obtain ⟨k, rfl⟩ := Int.eq_ofNat_of_zero_le (show 0 ≤ i by omega)
  obtain ⟨m, hm⟩ : ∃ m, 2 * L.length = m := ⟨_, rfl⟩
  by_cases h1 : k < m
  · have e : leftI L f (k : Int) = leftE L f k := by unfold leftI; rw [if_pos (by omega), Int.toNat_natCast]
    rw [e]
    have c0 : w.cell? ⟨gl, k, none⟩ = some (.int .i64 (leftE L f k)) := by
      have := hr.left.cellAt k (by omega)
      rw [i64s_got (leftL_get (by omega))] at this
      exact this
    have gll := own_lt hr.left (g := gl) rfl
    rw [hm] at cl b1
    have hk1 : (k : Int) < m := by omega
    generalize leftE L f k = z at *
    clear e hr h hA hG hm
    go_enter Try.func51, Try.ntmps51
    go_wp2_with (first
      | (go_at_call 50; refine ca.out.mono ?_; rintro e w1 ⟨rfl, hw1⟩; subst w1)
      | (go_at_call 30; refine cl.out.mono ?_; rintro e w1 ⟨rfl, hw1⟩; subst w1))
    go_ret
    exact ⟨rfl, rfl⟩
  · have e : leftI L f (k : Int) = 0 := by unfold leftI; rw [if_neg (by omega)]
    rw [e]
    rw [hm] at cl b1
    have hk1 : ¬ (k : Int) < m := by omega
    have t1 : decide ((m : Int) ≤ (k : Int)) = true := by simp; omega
    clear e hr h hA hG hm
    go_enter Try.func51, Try.ntmps51
    go_wp2_with (first
      | (go_at_call 50; refine ca.out.mono ?_; rintro e w1 ⟨rfl, hw1⟩; subst w1)
      | (go_at_call 30; refine cl.out.mono ?_; rintro e w1 ⟨rfl, hw1⟩; subst w1))
    go_ret
    exact ⟨rfl, rfl⟩
theorem rexc_p (h : RestP r ba n L f w F) (hA : ArcP ba n L w F2) (hG : GOk n L) (v : Int) : Calls Try.prog 55 #[.pointer (some ⟨r, 0, none⟩), .int .i64 v] w fun e w' => e = .returned (.int .i64 (exc L f v)) ∧ w' = w := by
  have ca := Lib.hid (rarcs_p h)
  have cn := Lib.hid (an_p hA hG)
  have hl := hG.le
  obtain ⟨gl, go, hr⟩ := h.rd
  have b2 := hr.hb.cell 2 rfl
  have bl := hr.hb.lt
  by_cases h0 : v < 0
  · rw [exc_I hG (.inl h0)]
    clear hr h hA hG
    go_enter Try.func55, Try.ntmps55
    go_wp2_with fail
    go_ret
    exact ⟨rfl, rfl⟩
  obtain ⟨k, rfl⟩ := Int.eq_ofNat_of_zero_le (show 0 ≤ v by omega)
  by_cases h1 : k < n
  · have c0 : w.cell? ⟨go, k, none⟩ = some (.int .i64 (exc L f (k : Int))) := by
      have := hr.over.cellAt k (by omega)
      rw [i64s_got (overL_get h1)] at this
      exact this
    have gll := own_lt hr.over (g := go) rfl
    have hk1 : (k : Int) < n := by omega
    generalize exc L f (k : Int) = z at *
    clear hr h hA hG
    go_enter Try.func55, Try.ntmps55
    go_wp2_with (first
      | (go_at_call 50; refine ca.out.mono ?_; rintro e w1 ⟨rfl, hw1⟩; subst w1)
      | (go_at_call 29; refine cn.out.mono ?_; rintro e w1 ⟨rfl, hw1⟩; subst w1))
    go_ret
    exact ⟨rfl, rfl⟩
  · rw [exc_I hG (.inr (by omega))]
    have hk1 : ¬ (k : Int) < n := by omega
    have t1 : decide ((n : Int) ≤ (k : Int)) = true := by simp; omega
    clear hr h hA hG
    go_enter Try.func55, Try.ntmps55
    go_wp2_with (first
      | (go_at_call 50; refine ca.out.mono ?_; rintro e w1 ⟨rfl, hw1⟩; subst w1)
      | (go_at_call 29; refine cn.out.mono ?_; rintro e w1 ⟨rfl, hw1⟩; subst w1))
    go_ret
    exact ⟨rfl, rfl⟩
set_option maxHeartbeats 2000000 in
theorem rflow_p (h : RestP r ba n L f w F) (hA : ArcP ba n L w F2) (hG : GOk n L) (hF : FB L f) (i : Int) : Calls Try.prog 53 #[.pointer (some ⟨r, 0, none⟩), .int .i64 i] w fun e w' => e = .returned (.int .i64 (flowI L f i)) ∧ Mod [] w w' := by
  have ca := Lib.hid (rarcs_p h)
  have hl := hG.len
  obtain ⟨gl, go, hr⟩ := h.rd
  obtain ⟨N, hN⟩ : ∃ N, L.length = N := ⟨_, rfl⟩
  have cl := alen_p hA
  rw [show ((2 * L.length : Nat) : Int) = 2 * (N : Int) by omega] at cl
  have cl' := Lib.hid cl
  by_cases h0 : i < 0
  · have e : flowI L f i = 0 := by unfold flowI; rw [if_neg (by omega)]
    rw [e]
    clear e hr h hA hG hF cl
    go_enter Try.func53, Try.ntmps53
    go_wp2_with fail
    go_ret
    exact ⟨rfl, Mod.refl _ _⟩
  obtain ⟨k, rfl⟩ := Int.eq_ofNat_of_zero_le (show 0 ≤ i by omega)
  have td : (2 * (N : Int)) / 2 = (N : Int) := by omega
  by_cases h1 : k < N
  · have e : flowI L f (k : Int) = f.getD k 0 := by unfold flowI; rw [if_pos (by omega), Int.toNat_natCast]
    rw [e]
    have b0 := hr.hb.cell 0 rfl
    have b1 := hr.hb.cell 1 rfl
    have bl := hr.hb.lt
    have c0 : w.cell? ⟨gl, 2 * k, none⟩ = some (.int .i64 (leftE L f (2 * k))) := by
      have := hr.left.cellAt (2 * k) (by omega)
      rw [i64s_got (leftL_get (by omega))] at this
      exact this
    have gll := own_lt hr.left (g := gl) rfl
    have hz := leftE_in hG hF (i := 2 * k) (by omega)
    have hc := capE_le hG (2 * k)
    have hcap := Lib.hid (fun W (m : Mod [] w W) => acap_p (Good.keep hA m (by simp)) hG (2 * (k : Int)))
    have ec : capI L (2 * (k : Int)) = capE L (2 * k) := by unfold capI; rw [if_neg (by omega)]; congr 1
    rw [ec] at hcap
    have ef : f.getD k 0 = capE L (2 * k) - leftE L f (2 * k) := by
      rw [leftE_even (by omega), show 2 * k / 2 = k by omega]; omega
    rw [ef]
    have hk1 : (k : Int) < N := by omega
    have hk2 : 2 * (k : Int) < 2 * (L.length : Int) := by omega
    have hk3 : 2 * k < 2 * L.length := by omega
    have b0' : ∀ m : Fut (Mod []) w.drew, m.v.cell? ⟨r, 0, none⟩ = some (.pointer (some ⟨ba, 0, none⟩)) := fun m => (hr.hb.keep ((Mod.refl [] w).drew.trans m.of (by simp)) (by simp)).cell 0 rfl
    have b1' : ∀ m : Fut (Mod []) w.drew, m.v.cell? ⟨r, 1, none⟩ = some (.slice (some ⟨gl, 0, none⟩) (2 * L.length) (2 * L.length)) := fun m => (hr.hb.keep ((Mod.refl [] w).drew.trans m.of (by simp)) (by simp)).cell 1 rfl
    have c0' : ∀ m : Fut (Mod []) w.drew, m.v.cell? ⟨gl, 2 * k, none⟩ = some (.int .i64 (leftE L f (2 * k))) := fun m => by
      have := (own_keep hr.left ((Mod.refl [] w).drew.trans m.of (by simp)) (by simp)).cellAt (2 * k) (by omega)
      rw [i64s_got (leftL_get (by omega))] at this
      exact this
    generalize leftE L f (2 * k) = z at *
    generalize capE L (2 * k) = c at *
    clear e hr h hA hG hF cl ec ef h1
    go_enter Try.func53, Try.ntmps53
    go_upto_region 3 with (first
      | (go_at_call 50; refine ca.out.mono ?_; rintro e w1 ⟨rfl, hw1⟩; subst w1)
      | (go_at_call 30; refine cl'.out.mono ?_; rintro e w1 ⟨rfl, hw1⟩; subst w1))
    refine region_sched (G := Mod []) [([0,1,2,3,4,5,7,8,9,10,11,12,13,14],6)] [15,16] (by kernel_rfl) (by kernel_rfl) (by kernel_rfl) rfl (Mod.refl _) (fun _ _ _ h1 h2 => h1.trans h2 (by simp)) ?_
    simp only [stages, pickO, nthO, headO, List.append_eq, List.cons_append, List.nil_append]
    refine sched_step ?_
    repeat (go_big_quiet_step (fail))
    refine wpQuiet_nil ?_
    intro K hK
    rw [if_pos (by rfl)]
    go_simp
    refine (hcap.out _ (Mod.refl [] w).drew).mono ?_
    rintro e w2 ⟨rfl, hw2⟩
    subst w2
    try dsimp only
    refine hK.out _ _ (Mod.refl _ _) ?_
    clear hK K
    refine sched_last ?_
    repeat (go_big_quiet_step (fail))
    refine wpQuiet_nil ?_
    go_wp2_with fail
    go_ret
    exact ⟨rfl, (Mod.refl [] w).drew⟩
  · have e : flowI L f (k : Int) = 0 := by unfold flowI; rw [if_neg (by omega)]
    rw [e]
    have hk1 : ¬ (k : Int) < N := by omega
    have t1 : decide ((N : Int) ≤ (k : Int)) = true := by simp; omega
    clear e hr h hA hG hF cl h1
    go_enter Try.func53, Try.ntmps53
    go_wp2_with (first
      | (go_at_call 50; refine ca.out.mono ?_; rintro e w1 ⟨rfl, hw1⟩; subst w1)
      | (go_at_call 30; refine cl'.out.mono ?_; rintro e w1 ⟨rfl, hw1⟩; subst w1))
    go_ret
    exact ⟨rfl, Mod.refl _ _⟩
end
end Edge
end Go.Proofs.Ytkhbnopmeapfjaa

set_option linter.unusedVariables false
set_option linter.unusedSimpArgs false
namespace Go.Proofs.Ytkhbnopmeapfjaa
open Go.RowKit
namespace Edge
theorem mayP_no {L : List Ed} {f : List Int} {i x : Int} (h : ¬ ((0 ≤ i ∧ i < 2 * L.length) ∧ 0 ≤ x ∧ x ≤ leftE L f i.toNat)) : mayP L f i x = false ∧ pushI L f i x = f := by
  have e : mayP L f i x = false := by unfold mayP; rw [decide_eq_false_iff_not]; exact h
  exact ⟨e, by unfold pushI; rw [e]; rfl⟩
theorem mayP_yes {L : List Ed} {f : List Int} {k : Nat} {x : Int} (h1 : k < 2 * L.length) (h2 : 0 ≤ x) (h3 : x ≤ leftE L f k) : mayP L f (k : Int) x = true ∧ pushI L f (k : Int) x = pushF f k x := by
  have e : mayP L f (k : Int) x = true := by unfold mayP; rw [decide_eq_true_eq, Int.toNat_natCast]; exact ⟨by omega, h2, h3⟩
  exact ⟨e, by unfold pushI; rw [e, if_pos rfl, Int.toNat_natCast]⟩
set_option maxRecDepth 100000 in
set_option maxHeartbeats 8000000 in
theorem rpush_sep {w0 w : World} {r ba n : Nat} {L : List Ed} {f : List Int} {R : List Part} (hS : Sep w0 w (RestP r ba n L f :: ArcP ba n L :: R)) (hG : GOk n L) (hF : FB L f) (i x : Int) :
    Calls Try.prog 52 #[.pointer (some ⟨r, 0, none⟩), .int .i64 i, .int .i64 x] w fun e w' => e = .returned (.bool (mayP L f i x)) ∧ Sep w0 w' (RestP r ba n L (pushI L f i x) :: ArcP ba n L :: R) := by
  obtain ⟨Fr, hPr, _⟩ := hS.first
  obtain ⟨Fa, hPa, _⟩ := hS.tail.first
  have ca := Lib.hid (rarcs_p hPr)
  have cl := alen_p hPa
  have hl := hG.len
  obtain ⟨m, hm⟩ : ∃ m, 2 * L.length = m := ⟨_, rfl⟩
  rw [hm] at cl
  have cl' := Lib.hid cl
  have hS' := Lib.hid hS
  by_cases h0 : i < 0
  · obtain ⟨e1, e2⟩ := mayP_no (L := L) (f := f) (i := i) (x := x) (by omega)
    rw [e1, e2]
    clear hS hPr hPa cl e1 e2 hG hF hm
    go_enter Try.func52, Try.ntmps52
    go_wp2_with fail
    go_ret
    exact ⟨rfl, hS'.out⟩
  obtain ⟨k, rfl⟩ := Int.eq_ofNat_of_zero_le (show 0 ≤ i by omega)
  by_cases h1 : k < m
  case neg =>
    obtain ⟨e1, e2⟩ := mayP_no (L := L) (f := f) (i := (k : Int)) (x := x) (by omega)
    rw [e1, e2]
    have hk1 : ¬ (k : Int) < m := by omega
    have t1 : decide ((m : Int) ≤ (k : Int)) = true := by simp; omega
    clear hS hPr hPa cl e1 e2 hG hF hm
    go_enter Try.func52, Try.ntmps52
    go_wp2_with (first
      | (go_at_call 50; refine ca.out.mono ?_; rintro e w1 ⟨rfl, hw1⟩; subst w1)
      | (go_at_call 30; refine cl'.out.mono ?_; rintro e w1 ⟨rfl, hw1⟩; subst w1))
    go_ret
    exact ⟨rfl, hS'.out⟩
  have hk1 : (k : Int) < m := by omega
  by_cases h2 : x < 0
  · obtain ⟨e1, e2⟩ := mayP_no (L := L) (f := f) (i := (k : Int)) (x := x) (by omega)
    rw [e1, e2]
    clear hS hPr hPa cl e1 e2 hG hF hm h1
    go_enter Try.func52, Try.ntmps52
    go_wp2_with (first
      | (go_at_call 50; refine ca.out.mono ?_; rintro e w1 ⟨rfl, hw1⟩; subst w1)
      | (go_at_call 30; refine cl'.out.mono ?_; rintro e w1 ⟨rfl, hw1⟩; subst w1))
    go_ret
    exact ⟨rfl, hS'.out⟩
  obtain ⟨gl, go, hR⟩ := Sep.rest hS
  have r1 := (hR.blkAt 0 rfl).cell 1 rfl
  have rl := (hR.blkAt 0 rfl).lt
  have gll := own_lt (hR.rowAt 1 rfl) (g := gl) rfl
  have c0 : w.cell? ⟨gl, k, none⟩ = some (.int .i64 (leftE L f k)) := by
    have := (hR.rowAt 1 rfl).cellAt k (by omega)
    rw [i64s_got (leftL_get (by omega))] at this
    exact this
  by_cases h3 : leftE L f k < x
  · obtain ⟨e1, e2⟩ := mayP_no (L := L) (f := f) (i := (k : Int)) (x := x) (by rw [Int.toNat_natCast]; omega)
    rw [e1, e2]
    rw [hm] at r1
    generalize leftE L f k = z at *
    clear hS hPr hPa cl e1 e2 hG hF hm h1 hR
    go_enter Try.func52, Try.ntmps52
    go_wp2_with (first
      | (go_at_call 50; refine ca.out.mono ?_; rintro e w1 ⟨rfl, hw1⟩; subst w1)
      | (go_at_call 30; refine cl'.out.mono ?_; rintro e w1 ⟨rfl, hw1⟩; subst w1))
    go_ret
    exact ⟨rfl, hS'.out⟩
  obtain ⟨e1, e2⟩ := mayP_yes (L := L) (f := f) (k := k) (x := x) (by omega) (by omega) (by omega)
  rw [e1, e2]
  clear e1 e2
  have hkL : k < 2 * L.length := by omega
  have hbL := back_lt.2 hkL
  have hz := leftE_in hG hF hkL
  have hzb := leftE_in hG hF hbL
  obtain ⟨t, ht⟩ : ∃ t : Nat, tailE L k = (t : Int) := ⟨(tailE L k).toNat, by have := tail_in hG hkL; omega⟩
  obtain ⟨hd, hh⟩ : ∃ t : Nat, headE L k = (t : Int) := ⟨(headE L k).toNat, by have := head_in hG hkL; omega⟩
  have htn : t < n := by have := tail_in hG hkL; omega
  have hhn : hd < n := by have := head_in hG hkL; omega
  have hth : t ≠ hd := by have := tail_ne_head hG hkL; omega
  have hxt := exc_in hF (fun e he => by have := hG.ends e he; omega) (t : Int)
  have hxh := exc_in hF (fun e he => by have := hG.ends e he; omega) (hd : Int)
  have htot := hG.tot
  have hlp := Lib.hid (leftL_push (L := L) (f := f) hF.len hkL x)
  have hop := Lib.hid (overL_push (n := n) hG hF.len hkL ht hh x)
  have hbk := Lib.hid (back_any (k : Int) (by omega) w)
  rw [show backI (k : Int) = ((back k : Nat) : Int) by unfold backI; rw [if_neg (by omega), Int.toNat_natCast]] at hbk
  have hbne : back k ≠ k := by unfold back; split <;> omega
  have hct := Lib.hid (fun W F (h : ArcP ba n L W F) => atail_p h hG (k : Int) (by omega))
  have hch := Lib.hid (fun W F (h : ArcP ba n L W F) => ahead_p h hG (k : Int))
  rw [show tailI L (k : Int) = (t : Int) by unfold tailI; rw [if_neg (by omega), Int.toNat_natCast, ht]] at hct
  rw [show headI L (k : Int) = (hd : Int) by unfold headI; rw [if_neg (by omega), Int.toNat_natCast, hh]] at hch
  have hge : ∀ j, (leftL L f)[j]? = some (leftE L f j) ∨ 2 * L.length ≤ j := fun j => by
    by_cases hj : j < 2 * L.length
    · exact .inl (leftL_get hj)
    · exact .inr (by omega)
  rw [hm] at r1
  -- the left of the arc
  have hS1 := Lib.hid (hR.rowsetAt 1 rfl k (.int .i64 (leftE L f k - x)))
  have f0 := (hR.rowAt 1 rfl).frozenAt k
  have hb1 : (leftL L f)[back k]? = some (leftE L f (back k)) := leftL_get hbL
  have ho1 : (overL n L f)[t]? = some (exc L f (t : Int)) := overL_get htn
  have ho2 : (overL n L f)[hd]? = some (exc L f (hd : Int)) := overL_get hhn
  have hbm : (back k : Int) < m := by omega
  have hbm2 : back k < 2 * L.length := hbL
  obtain ⟨lf, hlf⟩ : ∃ lf, leftL L f = lf := ⟨_, rfl⟩
  obtain ⟨ov, hov⟩ : ∃ ov, overL n L f = ov := ⟨_, rfl⟩
  have hlfl : lf.length = m := by rw [← hlf, leftL_len, hm]
  have hovl : ov.length = n := by rw [← hov, overL_len]
  rw [hlf] at hS1 hlp hb1
  rw [hov] at hS1 hop ho1 ho2
  rw [hm] at hS1
  have hm' := Lib.hid hm
  have hbk2 := Lib.hid hbne
  have hth' := Lib.hid hth
  generalize back k = bk at *
  generalize leftE L f k = z at *
  generalize leftE L f bk = zb at *
  generalize exc L f (t : Int) = xt at *
  generalize exc L f (hd : Int) = xh at *
  generalize total L = tot at *
  have hb1' := Lib.hid hb1
  have ho1' := Lib.hid ho1
  have ho2' := Lib.hid ho2
  have hth1 : (t : Int) < n := by omega
  have hhh1 : (hd : Int) < n := by omega
  clear hS hPr hPa cl hG hF hm h1 hR hge ht hh hlf hov hkL hbL hb1 ho1 ho2 hbne hth hbm2 hS'
  go_enter Try.func52, Try.ntmps52
  go_upto_region 5 with (first
    | (go_at_call 50; refine ca.out.mono ?_; rintro e w1 ⟨rfl, hw1⟩; subst w1)
    | (go_at_call 30; refine cl'.out.mono ?_; rintro e w1 ⟨rfl, hw1⟩; subst w1)
    | (go_at_call 39; refine hbk.out.mono ?_; rintro e w1 ⟨rfl, hw1⟩; subst w1))
  generalize w.setCell ⟨gl, k, none⟩ (.int .i64 (z - x)) = W1 at *
  clear r1 rl gll c0 f0 ca cl' hbk
  have r1 := (hS1.out.blkAt 0 rfl).cell 1 rfl
  have rl := (hS1.out.blkAt 0 rfl).lt
  have gll := own_lt (hS1.out.rowAt 1 rfl) (g := gl) rfl
  have f0 := (hS1.out.rowAt 1 rfl).frozenAt bk
  have c0 : W1.cell? ⟨gl, bk, none⟩ = some (.int .i64 zb) := by
    have := (hS1.out.rowAt 1 rfl).cellAt bk (by omega)
    rw [i64s_set, i64s_got (x := zb) (by rw [List.getElem?_set_ne (fun e => hbk2.out e.symm)]; exact hb1'.out)] at this
    exact this
  have hS2 := Lib.hid (hS1.out.rowsetAt 1 rfl bk (.int .i64 (zb + x)))
  clear hS1
  go_upto_region 6 with fail
  generalize W1.setCell ⟨gl, bk, none⟩ (.int .i64 (zb + x)) = W2 at *
  clear r1 rl gll c0 f0
  rw [i64s_set, i64s_set, hlp.out] at hS2
  -- what stays at the tail
  have rl := (hS2.out.blkAt 0 rfl).lt
  have n1 : r ≠ go := fun e => hS2.out.blkrow 0 2 (by omega) rfl rfl (by rw [e]; rfl)
  have hrb := Lib.hid (hS2.out.blkAt 0 rfl)
  have hn1 := Lib.hid n1
  have g0 : ∀ m : Fut (Mod [go]) W2.drew, m.v.cell? ⟨r, 0, none⟩ = some (.pointer (some ⟨ba, 0, none⟩)) := fun m => (hrb.out.drew.keep m.of (by simpa using hn1.out)).cell 0 rfl
  have g2 : ∀ m : Fut (Mod [go]) W2.drew, m.v.cell? ⟨r, 2, none⟩ = some (.slice (some ⟨go, 0, none⟩) n n) := fun m => (hrb.out.drew.keep m.of (by simpa using hn1.out)).cell 2 rfl
  obtain ⟨Fa, hPa, _⟩ := (hS2.out.still (Mod.refl [] W2).drew |>.get 3 rfl).first
  have ct := Lib.hid (hct.out _ _ hPa)
  have c0 : W2.drew.cell? ⟨go, t, none⟩ = some (.int .i64 xt) := by
    have := (hS2.out.rowAt 2 rfl).cellAt t (by omega)
    rw [i64s_got ho1'.out] at this
    exact this
  have f0 : W2.drew.frozen? ⟨go, t, none⟩ = false := (hS2.out.rowAt 2 rfl).frozenAt t
  have gol : go < W2.drew.heap.size := own_lt (hS2.out.rowAt 2 rfl) (g := go) rfl
  have hS3 := Lib.hid ((hS2.out.rowsetAt 2 rfl t (.int .i64 (xt - x))).still (Mod.refl [] _).drew)
  clear hPa hS2 n1 hrb
  refine region_sched (G := Mod [go]) [([0,1,2,3,4,5,6,7,8,12],9), ([10],11), ([13,14],15)] [] (by kernel_rfl) (by kernel_rfl) (by kernel_rfl) rfl (Mod.refl _) (fun _ _ _ h1 h2 => h1.trans h2 (fun b hb _ => hb)) ?_
  simp only [stages, pickO, nthO, headO, List.append_eq, List.cons_append, List.nil_append]
  refine sched_step ?_
  repeat (go_big_quiet_step (fail))
  refine wpQuiet_nil ?_
  intro K hK
  rw [if_pos (by rfl)]
  go_simp
  refine ct.out.mono ?_
  rintro e w5 ⟨rfl, hw5⟩
  subst w5
  try dsimp only
  refine hK.out _ _ (Mod.refl _ _) ?_
  clear hK K ct g0 g2
  refine sched_step ?_
  repeat (go_big_quiet_step (fail))
  refine wpQuiet_nil ?_
  intro K hK
  rw [if_pos (by rfl)]
  go_simp
  refine hK.out _ _ (Mod.refl _ _) ?_
  clear hK K
  refine sched_step ?_
  repeat (go_big_quiet_step (fail))
  refine wpQuiet_nil ?_
  intro K hK
  rw [if_pos (by rfl)]
  go_simp
  refine hK.out _ _ ((Mod.refl _ _).setCell _ _ (fun _ => by simp)) ?_
  clear hK K c0 f0 gol rl
  refine sched_last ?_
  refine wpQuiet_nil ?_
  go_upto_region 7 with fail
  generalize (W2.setCell ⟨go, t, none⟩ (.int .i64 (xt - x))).drew = W3 at *
  -- what stays at the head
  have rl := (hS3.out.blkAt 0 rfl).lt
  have hrb := Lib.hid (hS3.out.blkAt 0 rfl)
  have g0 : ∀ m : Fut (Mod [go]) W3.drew, m.v.cell? ⟨r, 0, none⟩ = some (.pointer (some ⟨ba, 0, none⟩)) := fun m => (hrb.out.drew.keep m.of (by simpa using hn1.out)).cell 0 rfl
  have g2 : ∀ m : Fut (Mod [go]) W3.drew, m.v.cell? ⟨r, 2, none⟩ = some (.slice (some ⟨go, 0, none⟩) n n) := fun m => (hrb.out.drew.keep m.of (by simpa using hn1.out)).cell 2 rfl
  obtain ⟨Fa, hPa, _⟩ := (hS3.out.still (Mod.refl [] W3).drew |>.get 3 rfl).first
  have ch := Lib.hid (hch.out _ _ hPa)
  have c0 : W3.drew.cell? ⟨go, hd, none⟩ = some (.int .i64 xh) := by
    have := (hS3.out.rowAt 2 rfl).cellAt hd (by omega)
    rw [i64s_set, i64s_got (x := xh) (by rw [List.getElem?_set_ne hth'.out]; exact ho2'.out)] at this
    exact this
  have f0 : W3.drew.frozen? ⟨go, hd, none⟩ = false := (hS3.out.rowAt 2 rfl).frozenAt hd
  have gol : go < W3.drew.heap.size := own_lt (hS3.out.rowAt 2 rfl) (g := go) rfl
  have hS4 := Lib.hid ((hS3.out.rowsetAt 2 rfl hd (.int .i64 (xh + x))).still (Mod.refl [] _).drew)
  rw [i64s_set, i64s_set, hop.out] at hS4
  clear hPa hS3 hrb
  refine region_sched (G := Mod [go]) [([0,1,2,3,4,5,6,7,8,12],9), ([10],11), ([13,14],15)] [] (by kernel_rfl) (by kernel_rfl) (by kernel_rfl) rfl (Mod.refl _) (fun _ _ _ h1 h2 => h1.trans h2 (fun b hb _ => hb)) ?_
  simp only [stages, pickO, nthO, headO, List.append_eq, List.cons_append, List.nil_append]
  refine sched_step ?_
  repeat (go_big_quiet_step (fail))
  refine wpQuiet_nil ?_
  intro K hK
  rw [if_pos (by rfl)]
  go_simp
  refine ch.out.mono ?_
  rintro e w5 ⟨rfl, hw5⟩
  subst w5
  try dsimp only
  refine hK.out _ _ (Mod.refl _ _) ?_
  clear hK K ch g0 g2
  refine sched_step ?_
  repeat (go_big_quiet_step (fail))
  refine wpQuiet_nil ?_
  intro K hK
  rw [if_pos (by rfl)]
  go_simp
  refine hK.out _ _ (Mod.refl _ _) ?_
  clear hK K
  refine sched_step ?_
  repeat (go_big_quiet_step (fail))
  refine wpQuiet_nil ?_
  intro K hK
  rw [if_pos (by rfl)]
  go_simp
  refine hK.out _ _ ((Mod.refl _ _).setCell _ _ (fun _ => by simp)) ?_
  clear hK K c0 f0 gol rl
  refine sched_last ?_
  refine wpQuiet_nil ?_
  go_wp2_with fail
  go_ret
  refine ⟨rfl, Sep.mkRest (gl := gl) (go := go) ?_⟩
  rw [hm'.out]
  exact hS4.out
end Edge
end Go.Proofs.Ytkhbnopmeapfjaa

set_option linter.unusedVariables false
set_option linter.unusedSimpArgs false
namespace Go.Proofs.Ytkhbnopmeapfjaa
open Go.RowKit
namespace Edge
theorem infoI64b : (Try.prog.info? 2).map (fun i => (i.zero, i.size, i.bytes)) = some (some (.int .i64 0), 1, 8) := by kernel_rfl
/-- The flows so far. -/
def partF (f : List Int) (N k : Nat) : List Int := (List.range N).map fun j => if j < k then f.getD j 0 else 0
theorem partF_len (f : List Int) (N k : Nat) : (partF f N k).length = N := by simp [partF]
theorem partF_zero (f : List Int) (N : Nat) : partF f N 0 = List.replicate N 0 := by
  apply List.eq_replicate_iff.2 ⟨partF_len _ _ _, ?_⟩
  intro x hx
  simp only [partF, List.mem_map] at hx
  obtain ⟨v, _, rfl⟩ := hx
  rw [if_neg (by omega)]
theorem partF_step {f : List Int} {N k : Nat} : (partF f N k).set k (f.getD k 0) = partF f N (k + 1) := by
  apply List.ext_getElem
  · simp [partF]
  intro i g1 g2
  simp only [partF, List.getElem_set, List.getElem_map, List.getElem_range]
  by_cases c : k = i
  · subst c; rw [if_pos rfl, if_pos (by omega)]
  · rw [if_neg c]
    by_cases h : i < k
    · rw [if_pos h, if_pos (by omega)]
    · rw [if_neg h, if_neg (by omega)]
theorem partF_all {f : List Int} {N : Nat} (h : f.length = N) : partF f N N = f := by
  apply List.ext_getElem
  · rw [partF_len, h]
  intro i g1 g2
  simp only [partF, List.getElem_map, List.getElem_range]
  rw [if_pos (by omega), List.getD_eq_getElem?_getD, List.getElem?_eq_getElem g2]; rfl
set_option maxRecDepth 100000 in
set_option maxHeartbeats 2000000 in
theorem rflows_p {w : World} {r ba n : Nat} {L : List Ed} {f : List Int} {F F2 : List Nat} (h : RestP r ba n L f w F) (hA : ArcP ba n L w F2) (hG : GOk n L) (hF : FB L f) :
    Calls Try.prog 54 #[.pointer (some ⟨r, 0, none⟩)] w fun e w' => ∃ a c, e = .returned (.slice a f.length c) ∧ Made w w' 2 1 a f.length c (i64s f) := by
  have hl := hG.len
  have hfl := hF.len
  obtain ⟨N, hN⟩ : ∃ N, L.length = N := ⟨_, rfl⟩
  have ca := Lib.hid (rarcs_p h)
  have cl := alen_p hA
  rw [show ((2 * L.length : Nat) : Int) = 2 * (N : Int) by omega] at cl
  have cl' := Lib.hid cl
  have hfw := fun W (m : Mod [] w W) (k : Nat) => rflow_p (Good.keep h m (by simp)) (Good.keep hA m (by simp)) hG hF (k : Int)
  have hfw' : Hid (∀ W (m : Mod [] w W) (k : Nat), k < N → Calls Try.prog 53 #[.pointer (some ⟨r, 0, none⟩), .int .i64 (k : Int)] W fun e w' => e = .returned (.int .i64 (f.getD k 0)) ∧ Mod [] W w') := Lib.hid (fun W m k hk => by
    have := hfw W m k
    rw [show flowI L f (k : Int) = f.getD k 0 by unfold flowI; rw [if_pos (by omega), Int.toNat_natCast]] at this
    exact this)
  have td : (2 * (N : Int)) / 2 = (N : Int) := by omega
  have hmk := make_run (P := Try.prog) 75 2 (.int .i64 0) 8 Try.underlying75 infoI64b rfl (by omega) N (by omega)
  have hst : Hid (Sep w (w.alloc (.cells (madeCells #[.int .i64 0] N) 2)) [Row 2 1 N (.slice (some ⟨w.heap.size, 0, none⟩) N N) (i64s (partF f N 0))]) := Lib.hid (by
    have h5 := (Sep.empty w).made (made_made w 2 (.int .i64 0) N (by omega))
    rw [partF_zero]
    have e : i64s (List.replicate N 0) = List.replicate N (.int .i64 0) := by simp [i64s]
    rw [e]
    exact h5)
  have hNl : N ≤ 1048576 := by omega
  have hfn : f.length = N := by omega
  have hfn' := Lib.hid hfn
  rw [hfn]
  clear h hA hG hF cl hfw hfl hN hfn
  go_enter Try.func54, Try.ntmps54
  go_wp2_with (first
    | (go_at_call 50; refine ca.out.mono ?_; rintro e w1 ⟨rfl, hw1⟩; subst w1)
    | (go_at_call 30; refine cl'.out.mono ?_; rintro e w1 ⟨rfl, hw1⟩; subst w1))
  generalize w.alloc (.cells (madeCells #[.int .i64 0] N) 2) = w1 at *
  generalize w.heap.size = g at *
  go_loopw [12] (fun i wr => ∃ k : Nat, k ≤ N ∧ i = .int .i64 k ∧ Hid (Sep w wr [Row 2 1 N (.slice (some ⟨g, 0, none⟩) N N) (i64s (partF f N k))])) (fun i _ => N - (intOf i).toNat)
  case atStart => exact ⟨0, Nat.zero_le _, rfl, hst⟩
  case round =>
    clear hst
    obtain ⟨k, hk, rfl, hS⟩ := hrel
    by_cases hlt : k < N
    · have hlt1 : (k : Int) < N := by omega
      have cf := Lib.hid (hfw'.out wr hS.out.mod k hlt)
      have hps := Lib.hid (partF_step (f := f) (N := N) (k := k))
      generalize f.getD k 0 = y at *
      go_wp2_with fail
      refine cf.out.mono ?_
      rintro e w2 ⟨rfl, hm2⟩
      have hS2 := Lib.hid (hS.out.still hm2)
      have gz := (hS2.out.rowAt 0 rfl).frozenAt k
      have gl := own_lt (hS2.out.rowAt 0 rfl) (g := g) rfl
      obtain ⟨u, gc⟩ : ∃ u, w2.cell? ⟨g, k, none⟩ = some u := by
        have h1 := (hS2.out.rowAt 0 rfl).cellAt k (by omega)
        have h2 := (hS2.out.rowAt 0 rfl).1
        rw [List.getElem?_eq_getElem (by omega)] at h1
        exact ⟨_, h1⟩
      have hS3 := Lib.hid (hS2.out.rowsetAt 0 rfl k (.int .i64 y))
      rw [i64s_set, hps.out] at hS3
      clear hm2 hS hS2
      try dsimp only
      go_wp2_with fail
      go_roundw
      case rel => exact ⟨k + 1, by omega, by go_num, hS3⟩
      case measure => simp [intOf]; omega
    · have hkN : k = N := by omega
      have hfin : Hid (Made w wr 2 1 (some ⟨g, 0, none⟩) N N (i64s f)) := Lib.hid (by
        have h5 := hS.out
        rw [hkN, partF_all hfn'.out] at h5
        exact h5.toMade)
      clear hS hk hkN
      go_wp2_with fail
      go_ret
      exact ⟨_, _, rfl, hfin.out⟩
/-! Of nil there is nothing. -/
theorem rarcs_nil (w : World) : Calls Try.prog 50 #[.pointer none] w fun e w' => e = .returned (.pointer none) ∧ w' = w := by
  go_enter Try.func50, Try.ntmps50
  go_wp2
  go_ret
  exact ⟨rfl, rfl⟩
theorem rleft_nil (w : World) : Calls Try.prog 51 #[.pointer none, .int .i64 0] w fun e w' => e = .returned (.int .i64 0) ∧ w' = w := by
  go_enter Try.func51, Try.ntmps51
  go_wp2_with (first
    | (go_at_call 50; refine (rarcs_nil _).mono ?_; rintro e w1 ⟨rfl, rfl⟩)
    | (go_at_call 30; refine (alen_nil _).mono ?_; rintro e w1 ⟨rfl, rfl⟩))
  go_ret
  exact ⟨rfl, rfl⟩
theorem rpush_nil (w : World) : Calls Try.prog 52 #[.pointer none, .int .i64 0, .int .i64 0] w fun e w' => e = .returned (.bool false) ∧ w' = w := by
  go_enter Try.func52, Try.ntmps52
  go_wp2_with (first
    | (go_at_call 50; refine (rarcs_nil _).mono ?_; rintro e w1 ⟨rfl, rfl⟩)
    | (go_at_call 30; refine (alen_nil _).mono ?_; rintro e w1 ⟨rfl, rfl⟩))
  go_ret
  exact ⟨rfl, rfl⟩
theorem rflow_nil (w : World) : Calls Try.prog 53 #[.pointer none, .int .i64 0] w fun e w' => e = .returned (.int .i64 0) ∧ w' = w := by
  go_enter Try.func53, Try.ntmps53
  go_wp2_with (first
    | (go_at_call 50; refine (rarcs_nil _).mono ?_; rintro e w1 ⟨rfl, rfl⟩)
    | (go_at_call 30; refine (alen_nil _).mono ?_; rintro e w1 ⟨rfl, rfl⟩))
  go_ret
  exact ⟨rfl, rfl⟩
theorem rexc_nil (w : World) : Calls Try.prog 55 #[.pointer none, .int .i64 0] w fun e w' => e = .returned (.int .i64 0) ∧ w' = w := by
  go_enter Try.func55, Try.ntmps55
  go_wp2_with (first
    | (go_at_call 50; refine (rarcs_nil _).mono ?_; rintro e w1 ⟨rfl, rfl⟩)
    | (go_at_call 29; refine (an_nil _).mono ?_; rintro e w1 ⟨rfl, rfl⟩))
  go_ret
  exact ⟨rfl, rfl⟩
theorem rreach_nil (w : World) : Calls Try.prog 56 #[.pointer none, .int .i64 0] w fun e w' => e = .returned (.slice none 0 0) ∧ w' = w := by
  go_enter Try.func56, Try.ntmps56
  go_wp2_with (first
    | (go_at_call 50; refine (rarcs_nil _).mono ?_; rintro e w1 ⟨rfl, rfl⟩)
    | (go_at_call 29; refine (an_nil _).mono ?_; rintro e w1 ⟨rfl, rfl⟩))
  go_ret
  exact ⟨rfl, rfl⟩
theorem rtwin_nil (w : World) : Calls Try.prog 57 #[.pointer none] w fun e w' => e = .returned (.pointer none) ∧ w' = w := by
  go_enter Try.func57, Try.ntmps57
  go_wp2
  go_ret
  exact ⟨rfl, rfl⟩
set_option maxRecDepth 100000 in
set_option maxHeartbeats 2000000 in
theorem rflows_nil (w : World) : Calls Try.prog 54 #[.pointer none] w fun e w' => ∃ a, e = .returned (.slice a 0 0) ∧ Mod [] w w' := by
  have hmk := make_run (P := Try.prog) 75 2 (.int .i64 0) 8 Try.underlying75 infoI64b rfl (by omega) 0 (by omega)
  have hmod := Lib.hid ((Mod.refl [] w).alloc (.cells (madeCells #[.int .i64 0] 0) 2))
  simp only [Int.natCast_zero, Int.ofNat_zero, Int.cast_ofNat_Int] at hmk
  go_enter Try.func54, Try.ntmps54
  go_wp2_with (first
    | (go_at_call 50; refine (rarcs_nil _).mono ?_; rintro e w1 ⟨rfl, hw1⟩; subst w1)
    | (go_at_call 30; refine (alen_nil _).mono ?_; rintro e w1 ⟨rfl, hw1⟩; subst w1))
  clear hmk
  generalize w.alloc (.cells (madeCells #[.int .i64 0] 0) 2) = w1 at *
  generalize w.heap.size = g at *
  go_loopw [12] (fun i wr => i = .int .i64 0 ∧ wr = w1) (fun i _ => 0)
  case atStart => exact ⟨rfl, rfl⟩
  case round =>
    obtain ⟨rfl, hw⟩ := hrel
    subst hw
    go_wp2_with fail
    go_ret
    exact ⟨_, rfl, hmod.out⟩
end Edge
end Go.Proofs.Ytkhbnopmeapfjaa

set_option linter.unusedVariables false
set_option linter.unusedSimpArgs false
namespace Go.Proofs.Ytkhbnopmeapfjaa
open Go.RowKit
namespace Edge
theorem sep_wrap2 {goalP : World → Prop} {W0 V Wx : World} {L : List Part} (h : Sep W0 Wx L) (m : Mod [] V Wx) (hp : ∀ Wg, Sep W0 Wg L → Mod [] V Wg → goalP Wg) : goalP Wx := hp Wx h m
set_option maxRecDepth 100000 in
set_option maxHeartbeats 8000000 in
theorem rnew_res {w0 w : World} {q : Option Addr} {n : Nat} {L : List Ed} {R : List Part} (hG : GOk n L)
    (hC : Calls Try.prog 28 #[.pointer q] w fun e w' => ∃ ba, e = .returned (.pointer (some ⟨ba, 0, none⟩)) ∧ Sep w0 w' (ArcP ba n L :: R)) :
    Calls Try.prog 59 #[.pointer q] w fun e w' => ∃ r ba, e = .returned (.pointer (some ⟨r, 0, none⟩)) ∧ Sep w0 w' (RestP r ba n L (noF L) :: ArcP ba n L :: R) := by
  have hn4 := hG.le
  have hl := hG.len
  have hG' := Lib.hid hG
  obtain ⟨m, hm⟩ : ∃ m, 2 * L.length = m := ⟨_, rfl⟩
  have hml : m ≤ 2097152 := by omega
  have hm' := Lib.hid hm
  have hC' := Lib.hid hC
  clear hC hG hm
  go_enter Try.func59, Try.ntmps59
  go_wp2_with fail
  refine hC'.out.mono ?_
  rintro e w1 ⟨ba, rfl, hS⟩
  have cl := Lib.hid (fun W (h : Mod [] w1 W) => alen_sep (hS.still h))
  rw [hm'.out] at cl
  have cn := Lib.hid (fun W (h : Mod [] w1 W) => an_sep (hS.still h) hG'.out)
  have hS1 := Lib.hid (hS.still (Mod.refl [] _).drew)
  clear hS hC'
  try dsimp only
  go_upto_region 2 with fail
  have hmkL := make_run (P := Try.prog) 75 2 (.int .i64 0) 8 Try.underlying75 infoI64b rfl (by omega) m (by omega)
  have hmkN := make_run (P := Try.prog) 75 2 (.int .i64 0) 8 Try.underlying75 infoI64b rfl (by omega) n (by omega)
  refine region_head (G := Mod []) [0, 1, 4] #[true, true, false, false, true, false, false, false, false, false] 7 (by kernel_rfl) (by kernel_rfl) (by kernel_rfl) rfl (Mod.refl []) ?_
  simp only [pickO, nthO, List.cons_append, List.nil_append]
  repeat (go_big_quiet_step (fail))
  refine wpQuiet_nil ?_
  refine tail_one 2 (by kernel_rfl) rfl ?_
  intro K hK
  rw [if_pos (by rfl)]
  go_simp
  refine (cl.out _ (Mod.refl [] _).drew).mono ?_
  rintro e w2 ⟨rfl, hw2⟩
  subst w2
  try dsimp only
  refine hK.out _ _ (Mod.refl _ _) ?_
  clear hK K
  have hA := Lib.hid (((hS1.out.made (made_made w1.drew 2 (.int .i64 0) m (by omega))).made (made_made _ 2 (.int .i64 0) n (by omega))).box [.pointer (some ⟨ba, 0, none⟩), .slice (some ⟨w1.heap.size, 0, none⟩) m m, .slice (some ⟨w1.heap.size + 1, 0, none⟩) n n] 115)
  have hB := Lib.hid (((hS1.out.made (made_made w1.drew 2 (.int .i64 0) n (by omega))).made (made_made _ 2 (.int .i64 0) m (by omega))).box [.pointer (some ⟨ba, 0, none⟩), .slice (some ⟨w1.heap.size + 1, 0, none⟩) m m, .slice (some ⟨w1.heap.size, 0, none⟩) n n] 115)
  rw [World.size_alloc, World.size_alloc, show w1.drew.heap.size = w1.heap.size from rfl] at hA
  rw [World.size_alloc, World.size_alloc, show w1.drew.heap.size = w1.heap.size from rfl] at hB
  refine tail_two 3 5 (by kernel_rfl) rfl rfl ?_ ?_
  case' refine_1 =>
    intro K hK
    rw [if_pos (by rfl)]
    go_simp
    refine hK.out _ _ ((Mod.refl _ _).alloc _) ?_
    clear hK K
    refine tail_one 5 (by kernel_rfl) rfl ?_
    intro K hK
    rw [if_pos (by rfl)]
    go_simp
    refine (cn.out _ ((Mod.refl [] w1).drew.alloc _)).mono ?_
    rintro e w2 ⟨rfl, hw2⟩
    subst w2
    try dsimp only
    refine hK.out _ _ ((Mod.refl _ _).alloc _) ?_
    clear hK K
    refine tail_one 6 (by kernel_rfl) rfl ?_
    intro K hK
    rw [if_pos (by rfl)]
    go_simp
    refine hK.out _ _ (((Mod.refl _ _).alloc _).alloc _) ?_
    clear hK K
    refine tail_one 7 (by kernel_rfl) rfl ?_
    intro K hK
    rw [if_pos (by rfl)]
    go_simp
    refine hK.out _ _ (((Mod.refl _ _).alloc _).alloc _) ?_
    clear hK K
    refine tail_one 8 (by kernel_rfl) rfl ?_
    intro K hK
    rw [if_pos (by rfl)]
    go_simp
    refine hK.out _ _ ((((Mod.refl _ _).alloc _).alloc _).alloc _) ?_
    clear hK K hmkL hmkN cl cn hB hS1
    refine sep_wrap2 (goalP := fun W => wpAnyH _ _ _ _ _ _ _ _ W) (V := w1.drew) hA.out ((((Mod.refl _ _).alloc _).alloc _).alloc _) ?_
    intro Wg hSg hmg
    clear hA
    have hSg2 := Lib.hid (show Sep w0 Wg (Blk (w1.heap.size + 1 + 1) [.pointer (some ⟨ba, 0, none⟩), .slice (some ⟨w1.heap.size, 0, none⟩) m m, .slice (some ⟨w1.heap.size + 1, 0, none⟩) n n] 115 :: Row 2 1 m (.slice (some ⟨w1.heap.size, 0, none⟩) m m) (List.replicate m (.int .i64 0)) :: Row 2 1 n (.slice (some ⟨w1.heap.size + 1, 0, none⟩) n n) (List.replicate n (.int .i64 0)) :: ArcP ba n L :: R) from hSg.perm (List.Perm.cons _ (List.Perm.swap _ _ _)))
    clear hSg
    generalize w1.heap.size + 1 + 1 = r at *
    generalize w1.heap.size + 1 = go at *
    generalize w1.heap.size = gl at *
  case' refine_2 =>
    intro K hK
    rw [if_pos (by rfl)]
    go_simp
    refine (cn.out _ (Mod.refl [] w1).drew).mono ?_
    rintro e w2 ⟨rfl, hw2⟩
    subst w2
    try dsimp only
    refine hK.out _ _ (Mod.refl _ _) ?_
    clear hK K
    refine tail_two 3 6 (by kernel_rfl) rfl rfl ?_ ?_
  case' refine_2.refine_1 =>
    intro K hK
    rw [if_pos (by rfl)]
    go_simp
    refine hK.out _ _ ((Mod.refl _ _).alloc _) ?_
    clear hK K
    refine tail_one 6 (by kernel_rfl) rfl ?_
    intro K hK
    rw [if_pos (by rfl)]
    go_simp
    refine hK.out _ _ (((Mod.refl _ _).alloc _).alloc _) ?_
    clear hK K
    refine tail_one 7 (by kernel_rfl) rfl ?_
    intro K hK
    rw [if_pos (by rfl)]
    go_simp
    refine hK.out _ _ (((Mod.refl _ _).alloc _).alloc _) ?_
    clear hK K
    refine tail_one 8 (by kernel_rfl) rfl ?_
    intro K hK
    rw [if_pos (by rfl)]
    go_simp
    refine hK.out _ _ ((((Mod.refl _ _).alloc _).alloc _).alloc _) ?_
    clear hK K hmkL hmkN cl cn hB hS1
    refine sep_wrap2 (goalP := fun W => wpAnyH _ _ _ _ _ _ _ _ W) (V := w1.drew) hA.out ((((Mod.refl _ _).alloc _).alloc _).alloc _) ?_
    intro Wg hSg hmg
    clear hA
    have hSg2 := Lib.hid (show Sep w0 Wg (Blk (w1.heap.size + 1 + 1) [.pointer (some ⟨ba, 0, none⟩), .slice (some ⟨w1.heap.size, 0, none⟩) m m, .slice (some ⟨w1.heap.size + 1, 0, none⟩) n n] 115 :: Row 2 1 m (.slice (some ⟨w1.heap.size, 0, none⟩) m m) (List.replicate m (.int .i64 0)) :: Row 2 1 n (.slice (some ⟨w1.heap.size + 1, 0, none⟩) n n) (List.replicate n (.int .i64 0)) :: ArcP ba n L :: R) from hSg.perm (List.Perm.cons _ (List.Perm.swap _ _ _)))
    clear hSg
    generalize w1.heap.size + 1 + 1 = r at *
    generalize w1.heap.size + 1 = go at *
    generalize w1.heap.size = gl at *
  case' refine_2.refine_2 =>
    intro K hK
    rw [if_pos (by rfl)]
    go_simp
    refine hK.out _ _ ((Mod.refl _ _).alloc _) ?_
    clear hK K
    refine tail_one 3 (by kernel_rfl) rfl ?_
    intro K hK
    rw [if_pos (by rfl)]
    go_simp
    refine hK.out _ _ (((Mod.refl _ _).alloc _).alloc _) ?_
    clear hK K
    refine tail_one 7 (by kernel_rfl) rfl ?_
    intro K hK
    rw [if_pos (by rfl)]
    go_simp
    refine hK.out _ _ (((Mod.refl _ _).alloc _).alloc _) ?_
    clear hK K
    refine tail_one 8 (by kernel_rfl) rfl ?_
    intro K hK
    rw [if_pos (by rfl)]
    go_simp
    refine hK.out _ _ ((((Mod.refl _ _).alloc _).alloc _).alloc _) ?_
    clear hK K hmkL hmkN cl cn hA hS1
    refine sep_wrap2 (goalP := fun W => wpAnyH _ _ _ _ _ _ _ _ W) (V := w1.drew) hB.out ((((Mod.refl _ _).alloc _).alloc _).alloc _) ?_
    intro Wg hSg hmg
    clear hB
    have hSg2 := Lib.hid hSg
    clear hSg
    generalize w1.heap.size + 1 + 1 = r at *
    generalize w1.heap.size + 1 = gl at *
    generalize w1.heap.size = go at *
  all_goals
    have hS3 := Lib.hid (show Sep w0 Wg (Blk r [.pointer (some ⟨ba, 0, none⟩), .slice (some ⟨gl, 0, none⟩) m m, .slice (some ⟨go, 0, none⟩) n n] 115 :: Row 2 1 m (.slice (some ⟨gl, 0, none⟩) m m) (i64s (capL L 0)) :: Row 2 1 n (.slice (some ⟨go, 0, none⟩) n n) (i64s (overL n L (noF L))) :: ArcP ba n L :: R) by
      rw [capL_zero, overL_new, hm'.out]
      have e : ∀ m : Nat, i64s (List.replicate m 0) = List.replicate m (.int .i64 0) := fun m => by simp [i64s]
      rw [e, e]
      exact hSg2.out)
    clear hSg2
    refine tail_one 9 (by kernel_rfl) rfl ?_
    intro K hK
    rw [if_pos (by rfl)]
    go_simp
    refine hK.out _ _ hmg ?_
    clear hK K hmg
    refine tail_done (by kernel_rfl) ?_
    have r1 := (hS3.out.blkAt 0 rfl).cell 1 rfl
    have rl := (hS3.out.blkAt 0 rfl).lt
    go_wp2_with fail
    clear r1 rl
    go_loopw [22] (fun i wr => ∃ k : Nat, k ≤ m ∧ i = .int .i64 k ∧ Hid (Sep w0 wr (Blk r [.pointer (some ⟨ba, 0, none⟩), .slice (some ⟨gl, 0, none⟩) m m, .slice (some ⟨go, 0, none⟩) n n] 115 :: Row 2 1 m (.slice (some ⟨gl, 0, none⟩) m m) (i64s (capL L k)) :: Row 2 1 n (.slice (some ⟨go, 0, none⟩) n n) (i64s (overL n L (noF L))) :: ArcP ba n L :: R))) (fun i _ => m - (intOf i).toNat)
    case atStart => exact ⟨0, Nat.zero_le _, rfl, hS3⟩
    case round =>
      clear hS3
      obtain ⟨k, hk, rfl, hS⟩ := hrel
      by_cases hlt : k < m
      · have hlt1 : (k : Int) < m := by omega
        have r1 := (hS.out.blkAt 0 rfl).cell 1 rfl
        have rl := (hS.out.blkAt 0 rfl).lt
        have cc := Lib.hid (acap_sep ((hS.out.still (Mod.refl [] wr).drew).pick 3 (by simp)) hG'.out (k : Int))
        rw [show capI L (k : Int) = capE L k by unfold capI; rw [if_neg (by omega), Int.toNat_natCast]] at cc
        have hcs := Lib.hid (capL_step (L := L) (k := k) (by rw [hm'.out]; exact hlt))
        obtain ⟨ou, ogc⟩ : ∃ u, wr.drew.cell? ⟨gl, k, none⟩ = some u := by
          have h1 := (hS.out.rowAt 1 rfl).cellAt k (by omega)
          have h2 := (hS.out.rowAt 1 rfl).1
          rw [List.getElem?_eq_getElem (by omega)] at h1
          exact ⟨_, h1⟩
        have ogz : wr.drew.frozen? ⟨gl, k, none⟩ = false := (hS.out.rowAt 1 rfl).frozenAt k
        have ogl : gl < wr.drew.heap.size := own_lt (hS.out.rowAt 1 rfl) (g := gl) rfl
        generalize capE L k = z at *
        have hS5 := Lib.hid ((hS.out.rowsetAt 1 rfl k (.int .i64 z)).still (Mod.refl [] _).drew)
        rw [i64s_set, hcs.out] at hS5
        have k1 := KC.one (w := wr.drew) (L := [(⟨r, 1, none⟩, .slice (some ⟨gl, 0, none⟩) m m)]) r1 (by simp)
        clear hS r1 hcs
        go_upto_region 6 with fail
        refine region_sched (G := KC [(⟨r, 1, none⟩, .slice (some ⟨gl, 0, none⟩) m m)]) [([0,1,2,3,4,5,6],7), ([8],9)] [] (by kernel_rfl) (by kernel_rfl) (by kernel_rfl) rfl (KC.refl _) (KC.trans _) ?_
        simp only [stages, pickO, nthO, headO, List.append_eq, List.cons_append, List.nil_append]
        refine sched_step ?_
        repeat (go_big_quiet_step (fail))
        refine wpQuiet_nil ?_
        intro K hK
        rw [if_pos (by rfl)]
        go_simp
        refine cc.out.mono ?_
        rintro e w5 ⟨rfl, hw5⟩
        subst w5
        try dsimp only
        refine hK.out _ _ (KC.refl _ _) ?_
        clear hK K k1 cc
        refine sched_step ?_
        repeat (go_big_quiet_step (fail))
        refine wpQuiet_nil ?_
        intro K hK
        rw [if_pos (by rfl)]
        go_simp
        refine hK.out _ _ (fun p hp _ => by
          simp only [List.mem_cons, List.mem_nil_iff, or_false] at hp
          subst hp
          exact (hS5.out.blkAt 0 rfl).cell 1 rfl) ?_
        clear hK K ogc ogz ogl rl
        refine sched_last ?_
        refine wpQuiet_nil ?_
        go_wp2_with fail
        go_roundw
        case rel => exact ⟨k + 1, by omega, by go_num, hS5⟩
        case measure => simp [intOf]; omega
      · have hkm : k = m := by omega
        have hfin : Hid (Sep w0 wr (RestP r ba n L (noF L) :: ArcP ba n L :: R)) := Lib.hid (by
          refine Sep.mkRest (gl := gl) (go := go) ?_
          have h5 := hS.out
          rw [hkm, ← hm'.out, capL_all] at h5
          exact h5)
        clear hS hk hkm
        go_wp2_with fail
        go_ret
        exact ⟨r, ba, rfl, hfin.out⟩
end Edge
end Go.Proofs.Ytkhbnopmeapfjaa

set_option linter.unusedVariables false
set_option linter.unusedSimpArgs false
namespace Go.Proofs.Ytkhbnopmeapfjaa
open Go.RowKit
namespace Edge
section
variable {w0 w : World} {r ba n : Nat} {L : List Ed} {f : List Int} {R : List Part}
theorem rarcs_sep (h : Sep w0 w (RestP r ba n L f :: ArcP ba n L :: R)) : Calls Try.prog 50 #[.pointer (some ⟨r, 0, none⟩)] w fun e w' => e = .returned (.pointer (some ⟨ba, 0, none⟩)) ∧ w' = w := by
  obtain ⟨F, h1, _⟩ := h.first
  exact rarcs_p h1
theorem rleft_sep (h : Sep w0 w (RestP r ba n L f :: ArcP ba n L :: R)) (hG : GOk n L) (i : Int) : Calls Try.prog 51 #[.pointer (some ⟨r, 0, none⟩), .int .i64 i] w fun e w' => e = .returned (.int .i64 (leftI L f i)) ∧ w' = w := by
  obtain ⟨F, h1, _⟩ := h.first
  obtain ⟨F2, h2, _⟩ := h.tail.first
  exact rleft_p h1 h2 hG i
theorem rexc_sep (h : Sep w0 w (RestP r ba n L f :: ArcP ba n L :: R)) (hG : GOk n L) (v : Int) : Calls Try.prog 55 #[.pointer (some ⟨r, 0, none⟩), .int .i64 v] w fun e w' => e = .returned (.int .i64 (exc L f v)) ∧ w' = w := by
  obtain ⟨F, h1, _⟩ := h.first
  obtain ⟨F2, h2, _⟩ := h.tail.first
  exact rexc_p h1 h2 hG v
theorem rflow_sep (h : Sep w0 w (RestP r ba n L f :: ArcP ba n L :: R)) (hG : GOk n L) (hF : FB L f) (i : Int) : Calls Try.prog 53 #[.pointer (some ⟨r, 0, none⟩), .int .i64 i] w fun e w' => e = .returned (.int .i64 (flowI L f i)) ∧ Mod [] w w' := by
  obtain ⟨F, h1, _⟩ := h.first
  obtain ⟨F2, h2, _⟩ := h.tail.first
  exact rflow_p h1 h2 hG hF i
theorem rflows_sep (h : Sep w0 w (RestP r ba n L f :: ArcP ba n L :: R)) (hG : GOk n L) (hF : FB L f) : Calls Try.prog 54 #[.pointer (some ⟨r, 0, none⟩)] w fun e w' => ∃ a c, e = .returned (.slice a f.length c) ∧ Made w w' 2 1 a f.length c (i64s f) := by
  obtain ⟨F, h1, _⟩ := h.first
  obtain ⟨F2, h2, _⟩ := h.tail.first
  exact rflows_p h1 h2 hG hF
theorem rreach_none (h : Sep w0 w (RestP r ba 0 L f :: ArcP ba 0 L :: R)) (hG : GOk 0 L) : Calls Try.prog 56 #[.pointer (some ⟨r, 0, none⟩), .int .i64 0] w fun e w' => e = .returned (.slice none 0 0) ∧ w' = w := by
  have ca := Lib.hid (rarcs_sep h)
  have cn := an_sep h.tail hG
  simp only [Int.natCast_zero, Int.ofNat_zero, Int.cast_ofNat_Int] at cn
  have cn' := Lib.hid cn
  clear h hG cn
  go_enter Try.func56, Try.ntmps56
  go_wp2_with (first
    | (go_at_call 50; refine ca.out.mono ?_; rintro e w1 ⟨rfl, hw1⟩; subst w1)
    | (go_at_call 29; refine cn'.out.mono ?_; rintro e w1 ⟨rfl, hw1⟩; subst w1))
  go_ret
  exact ⟨rfl, rfl⟩
end
theorem fb_new {n : Nat} {L : List Ed} (hG : GOk n L) : FB L (noF L) := FB.none hG.pos
theorem merged23 : merged [(0, 1, 7)] = [(0, 1, 7)] := by decide +kernel
set_option maxRecDepth 100000 in
set_option maxHeartbeats 4000000 in
theorem awake23 (w : World) : Calls Try.prog 58 #[] w fun e w' => e = .returned (.bool true) ∧ Mod [] w w' := by
  go_enter Try.func58, Try.ntmps58
  go_wp2_with fail
  refine (new_net 2 (l := [(0, 1, 7)]) (rd_ed (l := [(0, 1, 7)]) (Has.new w [.int .i64 0, .int .i64 1, .int .i64 7] 41) (by simp))).mono ?_
  rintro e w1 hN
  rcases hN.out with ⟨hne, _⟩ | ⟨he, b, rfl, hS⟩
  · exact absurd (by decide +kernel) hne
  have hG := new_ok he
  rw [merged23] at hS hG
  have e3 : ((2 : Int).toNat) = 2 := rfl
  rw [e3] at hS hG
  have hnw := Lib.hid (rnew_res hG (csr_net hS hG))
  clear hN he hS
  try dsimp only
  go_wp2_with fail
  refine hnw.out.mono ?_
  rintro e w2 ⟨r, ba, rfl, hA⟩
  have hF := fb_new hG
  have c1 := Lib.hid (rpush_sep hA hG hF 0 5)
  rw [show mayP [(0, 1, 7)] (noF [(0, 1, 7)]) 0 5 = true by decide +kernel, show pushI [(0, 1, 7)] (noF [(0, 1, 7)]) 0 5 = [5] by decide +kernel] at c1
  clear hnw hA
  try dsimp only
  go_wp2_with fail
  refine c1.out.mono ?_
  rintro e w3 ⟨rfl, hA⟩
  have hF5 : FB [(0, 1, 7)] [5] := ⟨by decide, trivial⟩
  have c2 := Lib.hid (rpush_sep hA hG hF5 0 3)
  rw [show mayP [(0, 1, 7)] [5] 0 3 = false by decide +kernel, show pushI [(0, 1, 7)] [5] 0 3 = [5] by decide +kernel] at c2
  clear c1 hA
  try dsimp only
  go_wp2_with fail
  refine c2.out.mono ?_
  rintro e w4 ⟨rfl, hA⟩
  have hw4 := Lib.hid (show Mod [] w w4 from ((Mod.refl [] w).alloc _).trans hA.mod (by simp))
  have c3 := Lib.hid (rleft_sep hA hG 0)
  have c4 := Lib.hid (rleft_sep hA hG 1)
  have c5 := Lib.hid (rflow_sep hA hG hF5 0)
  have c6 := Lib.hid (fun W (m : Mod [] w4 W) => rexc_sep (hA.still m) hG 1)
  rw [show leftI [(0, 1, 7)] [5] 0 = 2 by decide +kernel] at c3
  rw [show leftI [(0, 1, 7)] [5] 1 = 12 by decide +kernel] at c4
  rw [show flowI [(0, 1, 7)] [5] 0 = 5 by decide +kernel] at c5
  simp only [show exc [(0, 1, 7)] [5] 1 = 5 by decide +kernel] at c6
  clear c2 hA hF hG hF5
  try dsimp only
  go_wp2_with fail
  refine c3.out.mono ?_
  rintro e w5 ⟨rfl, hw5⟩
  subst w5
  try dsimp only
  go_wp2_with fail
  refine c4.out.mono ?_
  rintro e w5 ⟨rfl, hw5⟩
  subst w5
  try dsimp only
  go_wp2_with fail
  refine c5.out.mono ?_
  rintro e w5 ⟨rfl, hm5⟩
  have c7 := Lib.hid (c6.out _ hm5)
  have hm5' := Lib.hid hm5
  clear hm5
  try dsimp only
  go_wp2_with fail
  refine c7.out.mono ?_
  rintro e w6 ⟨rfl, hw6⟩
  subst w6
  try dsimp only
  go_wp2_with fail
  go_ret
  exact ⟨rfl, hw4.out.trans hm5'.out (by simp)⟩
end Edge
end Go.Proofs.Ytkhbnopmeapfjaa

set_option linter.unusedVariables false
set_option linter.unusedSimpArgs false
namespace Go.Proofs.Ytkhbnopmeapfjaa
open Go.RowKit
namespace Edge
def encPu (x : Int × Int) : List Value := [.int .i64 x.1, .int .i64 x.2]
theorem encPu_len : ∀ x, (encPu x).length = 2 := fun _ => rfl
theorem pu_cells {w : World} {l : List (Int × Int)} {a : Option Addr} {c k : Nat} (h : Rd w 2 (.slice a l.length c) l.length (flat encPu l)) (hk : k < l.length) :
    ∃ g o, a = some ⟨g, o, none⟩ ∧ g < w.heap.size ∧ ∀ W, Mod [] w W → W.cell? ⟨g, o + k * 2, none⟩ = some (.int .i64 l[k].1) ∧ W.cell? ⟨g, o + k * 2 + 1, none⟩ = some (.int .i64 l[k].2) := by
  obtain ⟨g, o, rfl, h1, h2, h3⟩ := h.at (by rw [flat_length encPu_len]; omega)
  have k0 := flat_get encPu_len l k 0 hk (by omega)
  have k1 := flat_get encPu_len l k 1 hk (by omega)
  refine ⟨g, o, rfl, ?_, fun W m => ⟨?_, ?_⟩⟩
  · have := h3 (k * 2 + 0) _ k0
    exact World.block_lt_of_cell? w _ this
  · have := (h.still m).cellAt (k * 2 + 0) (u := .int .i64 l[k].1) (by rw [k0]; rfl)
    simpa using this
  · have := (h.still m).cellAt (k * 2 + 1) (u := .int .i64 l[k].2) (by rw [k1]; rfl)
    rw [← Nat.add_assoc] at this
    exact this
/-- The flow behind the first k pushes. -/
def runF (L : List Ed) (ops : List (Int × Int)) (k : Nat) : List Int := (ops.take k).foldl (fun f o => pushI L f o.1 o.2) (noF L)
theorem runF_step (L : List Ed) {ops : List (Int × Int)} {k : Nat} (hk : k < ops.length) : runF L ops (k + 1) = pushI L (runF L ops k) ops[k].1 ops[k].2 := by
  unfold runF
  rw [List.take_succ_eq_append_getElem hk, List.foldl_append]; rfl
theorem runF_ok {n : Nat} {L : List Ed} (hG : GOk n L) (ops : List (Int × Int)) : ∀ k, FB L (runF L ops k)
  | 0 => by simpa [runF] using fb_new hG
  | k + 1 => by
    by_cases hk : k < ops.length
    · rw [runF_step L hk]; exact (runF_ok hG ops k).pushI _ _
    · have e : runF L ops (k + 1) = runF L ops k := by unfold runF; rw [List.take_of_length_le (by omega), List.take_of_length_le (by omega)]
      rw [e]; exact runF_ok hG ops k
theorem newE_bad3 {n : Int} {l : List Ed} (h : newE n l ≠ (0, 0)) : (newE n l).1 ≠ 0 := fun hz => h (by
  unfold newE at hz ⊢
  split at hz
  · cases hz
  · split at hz
    · cases hz
    · rw [if_neg (by assumption), if_neg (by assumption)]; exact checksE_at hz)
set_option maxRecDepth 100000 in
set_option maxHeartbeats 16000000 in
theorem twice23_any (n : Nat) (hn : n ≤ 255) {l : List Ed} {ops : List (Int × Int)} {vs vo : Value} {w : World} (h : Rd w 3 vs l.length (flat encEd l)) (ho : Rd w 2 vo ops.length (flat encPu ops)) :
    Calls Try.prog 9 #[.int .u8 n, vs, vo] w fun e w' => e = .returned (.bool true) ∧ Mod [] w w' := by
  obtain ⟨a, c, rfl⟩ := h.val
  obtain ⟨ao, co, rfl⟩ := ho.val
  have hle := h.le
  have hleo := ho.le
  have haw := Lib.hid (fun w => awake23 w)
  have hnw := Lib.hid (fun W (m : Mod [] w W) => new_net (n : Int) (h.still m))
  have ho' := Lib.hid ho
  clear h ho
  go_enter Try.func9, Try.ntmps9
  go_upto_region 4 with (first
    | (go_at_call 50; refine (rarcs_nil _).mono ?_; rintro e w6 ⟨rfl, hw6⟩; subst w6)
    | (go_at_call 51; refine (rleft_nil _).mono ?_; rintro e w6 ⟨rfl, hw6⟩; subst w6)
    | (go_at_call 52; refine (rpush_nil _).mono ?_; rintro e w6 ⟨rfl, hw6⟩; subst w6)
    | (go_at_call 53; refine (rflow_nil _).mono ?_; rintro e w6 ⟨rfl, hw6⟩; subst w6)
    | (go_at_call 54; refine (rflows_nil _).mono ?_; rintro e w1 ⟨an, rfl, hm1⟩; have hm1' := Lib.hid hm1; clear hm1)
    | (go_at_call 55; refine (rexc_nil _).mono ?_; rintro e w6 ⟨rfl, hw6⟩; subst w6)
    | (go_at_call 56; refine (rreach_nil _).mono ?_; rintro e w6 ⟨rfl, hw6⟩; subst w6)
    | (go_at_call 57; refine (rtwin_nil _).mono ?_; rintro e w6 ⟨rfl, hw6⟩; subst w6))
  by_cases hbig : 40 < l.length
  · have hbig1 : (40 : Int) < l.length := by omega
    go_wp2_with fail
    refine (haw.out _).mono ?_
    rintro e w2 ⟨rfl, hm⟩
    try dsimp only
    go_wp2_with fail
    go_ret
    exact ⟨rfl, hm1'.out.trans hm (by simp)⟩
  have hbig1 : ¬ (40 : Int) < l.length := by omega
  by_cases hbig2 : 40 < ops.length
  · have hbig3 : (40 : Int) < ops.length := by omega
    go_wp2_with fail
    refine (haw.out _).mono ?_
    rintro e w2 ⟨rfl, hm⟩
    try dsimp only
    go_wp2_with fail
    go_ret
    exact ⟨rfl, hm1'.out.trans hm (by simp)⟩
  have hbig3 : ¬ (40 : Int) < ops.length := by omega
  go_wp2_with fail
  refine (hnw.out _ hm1'.out).mono ?_
  rintro e w2 hN
  rcases hN.out with ⟨hne, rfl, hm⟩ | ⟨he, b, rfl, hS⟩
  · have hz := newE_bad3 hne
    generalize (newE n l).1 = q at *
    generalize (newE n l).2 = q2 at *
    have hm2 := Lib.hid (hm1'.out.trans hm (by simp))
    try dsimp only
    clear hN hne hnw hm
    have hz1 : (q == 0) = false := by simpa using hz
    have hz2 : (q != 0) = true := by simpa using hz
    clear hz
    go_wp2_with fail
    refine (rnew_res gok_none (csr_none _)).mono ?_
    rintro e w3 ⟨r, ba, rfl, hA⟩
    have cp := Lib.hid (rpush_sep hA gok_none (fb_new gok_none) 0 0)
    rw [show mayP [] (noF []) 0 0 = false by decide +kernel, show pushI [] (noF []) 0 0 = noF [] by decide +kernel] at cp
    clear hA
    try dsimp only
    go_wp2_with fail
    refine cp.out.mono ?_
    rintro e w4 ⟨rfl, hA⟩
    have hm3 := Lib.hid (hm2.out.trans hA.mod (by simp))
    have cl := Lib.hid (rleft_sep hA gok_none 0)
    have cf := Lib.hid (rflows_sep hA gok_none (fb_new gok_none))
    have cr := Lib.hid (fun W (m : Mod [] w4 W) => rreach_none (hA.still m) gok_none)
    rw [show leftI [] (noF []) 0 = 0 by decide +kernel] at cl
    rw [show (noF ([] : List Ed)).length = 0 from rfl] at cf
    clear hA cp
    try dsimp only
    go_wp2_with (go_at_call 51; refine cl.out.mono ?_; rintro e w6 ⟨rfl, hw6⟩; subst w6)
    refine cf.out.mono ?_
    rintro e w5 ⟨a5, c5, rfl, hmd⟩
    have hm5 := Lib.hid hmd.mod
    have cr2 := Lib.hid (cr.out _ hmd.mod)
    clear hmd cr cf cl
    try dsimp only
    go_wp2_with (go_at_call 56; refine cr2.out.mono ?_; rintro e w6 ⟨rfl, hw6⟩; subst w6)
    refine (haw.out _).mono ?_
    rintro e w6 ⟨rfl, hm6⟩
    try dsimp only
    go_wp2_with fail
    go_ret
    exact ⟨rfl, hm3.out.trans (hm5.out.trans hm6 (by simp)) (by simp)⟩
  have hG := Lib.hid (new_ok he)
  rw [Int.toNat_natCast] at hG hS
  have hS1 := Lib.hid hS
  try dsimp only
  clear hN he hS hnw
  generalize merged l = L at *
  have hl := hG.out.len
  have htot := hG.out.tot
  go_wp2_with fail
  refine (rnew_res hG.out (csr_net hS1.out hG.out)).mono ?_
  rintro e w3 ⟨r, ba, rfl, hA⟩
  have hS2 := Lib.hid (show Sep w1 w3 (RestP r ba n L (runF L ops 0) :: ArcP ba n L :: [NetP b n L]) from hA)
  clear hA hS1
  have hrs := Lib.hid (fun k (hk : k < ops.length) => runF_step L hk)
  have hro := Lib.hid (runF_ok hG.out ops)
  have ho1 := Lib.hid (ho'.out.still hm1'.out)
  try dsimp only
  go_wp2_with fail
  go_loopw [13] (fun s13 wr => ∃ k : Nat, k ≤ ops.length ∧ s13 = .int .i64 k ∧ Hid (Sep w1 wr (RestP r ba n L (runF L ops k) :: ArcP ba n L :: [NetP b n L]))) (fun s13 _ => ops.length - (intOf s13).toNat)
  case atStart => exact ⟨0, Nat.zero_le _, rfl, hS2⟩
  case round =>
    clear hS2
    obtain ⟨k, hk, rfl, hS⟩ := hrel
    by_cases hlt : k < ops.length
    · have hlt1 : (k : Int) < ops.length := by omega
      obtain ⟨g, o, rfl, hgl0, hcell⟩ := pu_cells ho1.out hlt
      have hgl : g < wr.heap.size := Nat.lt_of_lt_of_le hgl0 hS.out.mod.size
      have hcell' := Lib.hid hcell
      obtain ⟨q0, q1⟩ := hcell wr.drew (hS.out.mod.trans (Mod.refl [] wr).drew (by simp))
      have hst := Lib.hid (hrs.out k hlt)
      generalize ops[k] = op at *
      obtain ⟨oi, ox⟩ := op
      have cp := Lib.hid (rpush_sep (hS.out.still (Mod.refl [] wr).drew) hG.out (hro.out k) oi ox)
      simp only at q0 q1 hst hcell'
      rw [← hst.out] at cp
      generalize mayP L (runF L ops k) oi ox = mb at *
      have k0 := KC.one (w := wr.drew) (L := [(⟨g, o + k * 2, none⟩, .int .i64 oi), (⟨g, o + k * 2 + 1, none⟩, .int .i64 ox)]) q0 (by simp)
      have k1 := KC.one (w := wr.drew) (L := [(⟨g, o + k * 2, none⟩, .int .i64 oi), (⟨g, o + k * 2 + 1, none⟩, .int .i64 ox)]) q1 (by simp)
      clear hS q0 q1 hcell hst
      go_upto_region 14 with fail
      refine region_sched (G := KC [(⟨g, o + k * 2, none⟩, .int .i64 oi), (⟨g, o + k * 2 + 1, none⟩, .int .i64 ox)]) [([0,1,2,3,4,5,6,7,8,9,10],11)] [] (by kernel_rfl) (by kernel_rfl) (by kernel_rfl) rfl (KC.refl _) (KC.trans _) ?_
      simp only [stages, pickO, nthO, headO, List.append_eq, List.cons_append, List.nil_append]
      refine sched_step ?_
      repeat (go_big_quiet_step (fail))
      refine wpQuiet_nil ?_
      intro K hK
      rw [if_pos (by rfl)]
      go_simp
      refine cp.out.mono ?_
      rintro e w5 ⟨rfl, hS5⟩
      try dsimp only
      refine hK.out _ _ (fun p hp _ => by
        simp only [List.mem_cons, List.mem_nil_iff, or_false] at hp
        rcases hp with rfl | rfl
        · exact (hcell'.out _ hS5.mod).1
        · exact (hcell'.out _ hS5.mod).2) ?_
      have hS6 := Lib.hid hS5
      clear hK K k0 k1 cp hS5
      refine sched_last ?_
      refine wpQuiet_nil ?_
      go_wp2_with fail
      go_roundw
      case rel => exact ⟨k + 1, by omega, by go_num, hS6⟩
      case measure => simp [intOf]; omega
    · have hko : k = ops.length := by omega
      have hF := hro.out k
      clear hko
      generalize runF L ops k = f at *
      have hF' := Lib.hid hF
      have hsum := sum_exc (L := L) (f := f) hF.len (fun e he => by have := hG.out.ends e he; omega)
      have hbd : ∀ v : Nat, -2251799813685248 ≤ sumTo (exc L f) v ∧ sumTo (exc L f) v ≤ 2251799813685248 := fun v => by
        have := cut_in hF (v : Int)
        rw [hsum]; omega
      have hzero : sumTo (exc L f) n = 0 := by rw [hsum]; exact cut_all (fun e he => by have := hG.out.ends e he; omega)
      have hbd' := Lib.hid hbd
      have hzero' := Lib.hid hzero
      clear hrs hro hF hsum hbd hzero hk
      go_wp2_with fail
      clear hlt
      go_loopw [14, 15] (fun s14 s15 wr2 => ∃ v : Nat, v ≤ n ∧ s14 = .int .i64 (sumTo (exc L f) v) ∧ s15 = .int .i64 v ∧ wr2 = wr) (fun _ s15 _ => n - (intOf s15).toNat)
      case atStart => exact ⟨0, Nat.zero_le _, rfl, rfl, rfl⟩
      case round =>
        obtain ⟨v, hv, rfl, rfl, hw⟩ := hrel
        subst hw
        by_cases hlv : v < n
        · have hlv1 : (v : Int) < n := by omega
          have cx := Lib.hid (rexc_sep hS.out hG.out (v : Int))
          obtain ⟨p0, p1⟩ := hbd'.out v
          obtain ⟨p2, p3⟩ := hbd'.out (v + 1)
          have hs : sumTo (exc L f) (v + 1) = sumTo (exc L f) v + exc L f (v : Int) := rfl
          rw [hs] at p2 p3
          have hs' := Lib.hid hs
          generalize sumTo (exc L f) v = S at *
          generalize exc L f (v : Int) = z at *
          clear hs
          go_wp2_with fail
          refine cx.out.mono ?_
          rintro e w6 ⟨rfl, hw6⟩
          subst w6
          try dsimp only
          go_wp2_with fail
          go_roundw
          case rel => exact ⟨v + 1, by omega, by rw [hs'.out], by go_num, trivial⟩
          case measure => simp [intOf]; omega
        · have hvn : v = n := by omega
          have hlv1 : ¬ (v : Int) < n := by omega
          have hs0 : sumTo (exc L f) v = 0 := by rw [hvn]; exact hzero'.out
          rw [hs0]
          clear hs0 hvn hv hbd'
          go_wp2_with fail
          refine (edges_sep (hS.out.pick 2 (by simp)) hl).mono ?_
          rintro e w6 ⟨ax, cx, rfl, hmd⟩
          have hS7 := Lib.hid (hS.out.made hmd)
          clear hmd hS
          try dsimp only
          go_wp2_with fail
          clear hlv1 hlv
          go_loopw [17] (fun s17 wr3 => ∃ i : Nat, i ≤ L.length ∧ s17 = .int .i64 i ∧ Hid (Sep w1 wr3 (Row 41 3 L.length (.slice ax L.length cx) (flat encEd L) :: RestP r ba n L f :: ArcP ba n L :: [NetP b n L]))) (fun s17 _ => L.length - (intOf s17).toNat)
          case atStart => exact ⟨0, Nat.zero_le _, rfl, hS7⟩
          case round =>
            clear hS7
            obtain ⟨i, hi, rfl, hS⟩ := hrel
            by_cases hli : i < L.length
            · have hli1 : (i : Int) < L.length := by omega
              obtain ⟨gx, rfl, hgx, _, _, _, hq2⟩ := ed_row hS.out.row hli
              have hW := hG.out.pos _ (List.getElem_mem hli)
              have hfb := hF'.out.get i hli
              have hcap := capE_le hG.out (2 * i)
              have hc1 : capE L (2 * i) = L[i].2.2 := by rw [capE_get (show 2 * i < 2 * L.length by omega)]; congr 2; congr 1; omega
              have hc2 : capE L (2 * i + 1) = L[i].2.2 := by rw [capE_get (show 2 * i + 1 < 2 * L.length by omega)]; congr 2; congr 1; omega
              have e1 : leftI L f (2 * (i : Int)) = L[i].2.2 - f.getD i 0 := by
                unfold leftI
                rw [if_pos (by omega), show (2 * (i : Int)).toNat = 2 * i by omega, leftE_even (by omega), hc1, show 2 * i / 2 = i by omega]
              have e2 : leftI L f (2 * (i : Int) + 1) = L[i].2.2 + f.getD i 0 := by
                unfold leftI
                rw [if_pos (by omega), show (2 * (i : Int) + 1).toNat = 2 * i + 1 by omega, leftE_odd (by omega), hc2, show (2 * i + 1) / 2 = i by omega]
              have e3 : flowI L f (i : Int) = f.getD i 0 := by unfold flowI; rw [if_pos (by omega), Int.toNat_natCast]
              have cA := Lib.hid (fun W (m : Mod [] wr W) => rleft_sep ((hS.out.still m).tail) hG.out (2 * (i : Int)))
              have cB := Lib.hid (fun W (m : Mod [] wr W) => rleft_sep ((hS.out.still m).tail) hG.out (2 * (i : Int) + 1))
              have cF := Lib.hid (fun W (m : Mod [] wr W) => rflow_sep ((hS.out.still m).tail) hG.out hF'.out (i : Int))
              rw [e1] at cA
              rw [e2] at cB
              rw [e3] at cF
              have q2 : ∀ m : Fut (Mod []) wr.drew, m.v.cell? ⟨gx, i * 3 + 2, none⟩ = some (.int .i64 L[i].2.2) := fun m => by
                obtain ⟨g', e', _, _, _, _, h2⟩ := ed_row (own_keep hS.out.row ((Mod.refl [] wr).drew.trans m.of (by simp)) (by simp)) hli
                simp only [Option.some.injEq, Addr.mk.injEq, and_true] at e'
                subst e'
                exact h2
              rw [hc1] at hcap
              generalize L[i].2.2 = W at *
              generalize f.getD i 0 = y at *
              have hA0 : 0 ≤ W - y := by omega
              have hB0 : 0 ≤ W + y := by omega
              have t1 : ((W - y + (W + y)) != 2 * W) = false := by simp; omega
              have t2 : (y != W - (W - y)) = false := by simp; omega
              have hAB : W - y + (W + y) = 2 * W := by omega
              have hAl : W - y ≤ 4503599627370496 := by omega
              have hBl : W + y ≤ 4503599627370496 := by omega
              have hst := Lib.hid (fun W' (m : Mod [] wr W') => hS.out.still m)
              have hWl := hcap.2
              obtain ⟨A, hA⟩ : ∃ A, W - y = A := ⟨_, rfl⟩
              obtain ⟨B, hB⟩ : ∃ B, W + y = B := ⟨_, rfl⟩
              rw [hA] at t1 t2 cA hA0 hAl hAB
              rw [hB] at t1 cB hB0 hBl hAB
              have hyl : y ≤ 4503599627370496 := by omega
              have hyg : -4503599627370496 ≤ y := by omega
              have hd1 : W - A ≤ 4503599627370496 := by omega
              have hd2 : -4503599627370496 ≤ W - A := by omega
              have hil : (i : Int) ≤ 1048576 := by omega
              have t3 : decide (A < 0) = false := by simp; omega
              have t4 : decide (B < 0) = false := by simp; omega
              clear hS hq2 e1 e2 e3 hc1 hc2 hcap hfb hA hB hAB
              go_upto_region 24 with fail
              refine region_sched (G := Mod []) [([0,1,2,4,5,6,7,10,11,12,13,14,15],3), ([],8), ([9,16,17,18,19,20],21), ([22,23,24,25,26,27,28],29), ([30,31,32,33,34,36,37,38,39,40,41,42,43],35), ([],44)] [45,46,47] (by kernel_rfl) (by kernel_rfl) (by kernel_rfl) rfl (Mod.refl _) (fun _ _ _ h1 h2 => h1.trans h2 (by simp)) ?_
              simp only [stages, pickO, nthO, headO, List.append_eq, List.cons_append, List.nil_append]
              refine sched_step ?_
              repeat (go_big_quiet_step (fail))
              refine wpQuiet_nil ?_
              intro K hK
              rw [if_pos (by rfl)]
              go_simp
              refine (cA.out _ (Mod.refl [] _).drew).mono ?_
              rintro e w9 ⟨rfl, hw9⟩
              subst w9
              try dsimp only
              refine hK.out _ _ (Mod.refl _ _) ?_
              clear hK K
              refine sched_step ?_
              refine wpQuiet_nil ?_
              intro K hK
              rw [if_pos (by rfl)]
              go_simp
              refine (cB.out _ (Mod.refl [] _).drew).mono ?_
              rintro e w9 ⟨rfl, hw9⟩
              subst w9
              try dsimp only
              refine hK.out _ _ (Mod.refl _ _) ?_
              clear hK K
              refine sched_step ?_
              repeat (go_big_quiet_step (fail))
              refine wpQuiet_nil ?_
              intro K hK
              rw [if_pos (by rfl)]
              go_simp
              refine (cA.out _ (Mod.refl [] _).drew).mono ?_
              rintro e w9 ⟨rfl, hw9⟩
              subst w9
              try dsimp only
              refine hK.out _ _ (Mod.refl _ _) ?_
              clear hK K
              refine sched_step ?_
              repeat (go_big_quiet_step (fail))
              refine wpQuiet_nil ?_
              intro K hK
              rw [if_pos (by rfl)]
              go_simp
              refine (cB.out _ (Mod.refl [] _).drew).mono ?_
              rintro e w9 ⟨rfl, hw9⟩
              subst w9
              try dsimp only
              refine hK.out _ _ (Mod.refl _ _) ?_
              clear hK K
              refine sched_step ?_
              repeat (go_big_quiet_step (fail))
              refine wpQuiet_nil ?_
              intro K hK
              rw [if_pos (by rfl)]
              go_simp
              refine (cF.out _ (Mod.refl [] _).drew).mono ?_
              rintro e w9 ⟨rfl, hm9⟩
              have hSn := Lib.hid (hst.out _ ((Mod.refl [] _).drew.trans hm9 (by simp)))
              have cA9 := Lib.hid (cA.out _ ((Mod.refl [] _).drew.trans hm9 (by simp)))
              try dsimp only
              refine hK.out _ _ hm9 ?_
              clear hK K hm9 q2
              refine sched_step ?_
              refine wpQuiet_nil ?_
              intro K hK
              rw [if_pos (by rfl)]
              go_simp
              refine cA9.out.mono ?_
              rintro e w10 ⟨rfl, hw10⟩
              subst w10
              try dsimp only
              refine hK.out _ _ (Mod.refl _ _) ?_
              clear hK K
              refine sched_last ?_
              repeat (go_big_quiet_step (fail))
              refine wpQuiet_nil ?_
              clear hst cA cB cF cA9
              go_wp2_with fail
              go_roundw
              case rel => exact ⟨i + 1, by omega, by go_num, hSn⟩
              case measure => simp [intOf]; omega
            · have hli1 : ¬ (i : Int) < L.length := by omega
              have hend := Lib.hid (hm1'.out.trans hS.out.mod (by simp))
              clear hS hi
              go_wp2_with fail
              refine (haw.out _).mono ?_
              rintro e w9 ⟨rfl, hm9⟩
              try dsimp only
              go_wp2_with fail
              go_ret
              exact ⟨rfl, hend.out.trans hm9 (by simp)⟩
end Edge
end Go.Proofs.Ytkhbnopmeapfjaa

set_option linter.unusedVariables false
set_option linter.unusedSimpArgs false
namespace Go.Proofs.Ytkhbnopmeapfjaa
open Go.ChangeShapes Go.WideShapes Go.ChangeAt Go.RowKit Go.Deep
open Go.ChangeMaps (open_string shut_string)
section
variable {H : Type} {enc : TypeId × Value → H} {w : World} {spare : Nat → Bool} {held : Bool}
theorem elem_ed23 : ∀ n cs (d : DataW H) p, DataW.trod enc Try.prog w 0 spare held n 41 cs = some (d, p) → ∃ x : Edge.Ed, cs = Edge.encEd x ∧ True := by
  intro n cs d p h
  obtain ⟨hl, hf⟩ := fields_of Try.underlying41 (by kernel_rfl) (by kernel_rfl) h
  obtain ⟨v0, y0, m0, g0, f0⟩ := hf 0 _ rfl
  obtain ⟨v1, y1, m1, g1, f1⟩ := hf 1 _ rfl
  obtain ⟨v2, y2, m2, g2, f2⟩ := hf 2 _ rfl
  obtain ⟨a, rfl⟩ := cell_int Try.underlying3 f0
  obtain ⟨b, rfl⟩ := cell_int Try.underlying3 f1
  obtain ⟨c, rfl⟩ := cell_int Try.underlying2 f2
  exact ⟨(a, b, c), list3 hl g0 g1 g2, trivial⟩
end
section
variable {H : Type} {enc : TypeId × Value → H} {w : World} {spare : Nat → Bool} {held : Bool}
theorem elem_pu23 : ∀ n cs (d : DataW H) p, DataW.trod enc Try.prog w 0 spare held n 80 cs = some (d, p) → ∃ x : Int × Int, cs = Edge.encPu x ∧ True := by
  intro n cs d p h
  obtain ⟨hl, hf⟩ := fields_of Try.underlying80 (by kernel_rfl) (by kernel_rfl) h
  obtain ⟨v0, y0, m0, g0, f0⟩ := hf 0 _ rfl
  obtain ⟨v1, y1, m1, g1, f1⟩ := hf 1 _ rfl
  obtain ⟨a, rfl⟩ := cell_int Try.underlying3 f0
  obtain ⟨b, rfl⟩ := cell_int Try.underlying2 f1
  exact ⟨(a, b), list2 hl g0 g1, trivial⟩
end
namespace ResidTwice
set_option maxRecDepth 100000 in
theorem lifted (os : Os) (started : os.Started) (H : Type) (enc : TypeId × Value → H) :
    ReturnsInHanded {} Try.checked os 9 .any (Rows.residTwiceSpec.pre6 enc Try.prog Try.f9 Rows.residTwiceRow.domain false) (Rows.residTwiceSpec.post enc Try.prog Try.f9 false true false false) := by
  refine returnsInHanded_of_change (C := Try.checked) own started (by kernel_rfl) Try.func9
    (ChangeSpec.witness6 (enc := enc) (C := Try.checked) false ⟨#[], #[.int .u8 0, .slice none 0 0, .slice none 0 0], []⟩ 8 (by kernel_rfl) (by kernel_rfl) (by kernel_rfl) (by kernel_rfl)) ?_
  intro W base args ds gs before hval0 hW hcnd _
  have hval : ∀ (j : Nat) t v, Try.f9.params[j]? = some t → args[j]? = some v → Value.okWide Try.prog W .any base t v := hval0
  have hW' := hW
  obtain ⟨p, q, hA0, hV, rfl, hfz, hnd⟩ := hW
  have hA : DataW.TrodAll enc Try.prog W 0 (fun _ => true) true Try.f9.params.toList args.toList ds p := hA0
  rw [Try.params9] at hA hval
  obtain ⟨v0, vs0, d0, ds0, p0, q0, hargs, rfl, rfl, h0, r0⟩ := trodAll_cons hA
  obtain ⟨v1, vs1, d1, ds1, p1, q1, rfl, rfl, rfl, h1, r1⟩ := trodAll_cons r0
  obtain ⟨v2, vs2, d2, ds2, p2, q2, rfl, rfl, rfl, h2, r2⟩ := trodAll_cons r1
  obtain ⟨rfl, rfl, rfl⟩ := trodAll_nil r2
  obtain rfl : args = #[v0, v1, v2] := by cases args; simp_all
  obtain ⟨rfl, rfl⟩ := trodVars_none hV
  have k0 := h0
  have lt0 : ∀ x ∈ p0, x.block < W.heap.size := by obtain ⟨m, hm⟩ := k0; exact DataW.trod_lt m _ _ _ hm
  have k1 := h1
  have lt1 : ∀ x ∈ p1, x.block < W.heap.size := by obtain ⟨m, hm⟩ := k1; exact DataW.trod_lt m _ _ _ hm
  have k2 := h2
  have lt2 : ∀ x ∈ p2, x.block < W.heap.size := by obtain ⟨m, hm⟩ := k2; exact DataW.trod_lt m _ _ _ hm
  obtain ⟨x0, rfl, _, _, hw0⟩ := open_int Try.underlying5 (hval 0 5 v0 rfl rfl) h0
  obtain ⟨n0, hn0, rfl⟩ : ∃ n : Nat, n ≤ 255 ∧ x0 = (n : Int) := ⟨x0.toNat, by have := wf8 hw0; omega, by have := wf8 hw0; omega⟩
  obtain ⟨l1, hrd1⟩ : ∃ l : List Edge.Ed, Rd W 3 v1 l.length (flat Edge.encEd l) := by
    obtain ⟨a, len, cap, rfl⟩ := okWide_slice Try.underlying22 (hval 1 22 v1 rfl rfl)
    obtain ⟨fuel, hf⟩ := h1
    obtain ⟨l, hl, hr, _⟩ := open_rd Edge.encEd_len (by omega) Try.underlying22 (by kernel_rfl) elem_ed23 hf
    subst hl
    exact ⟨l, hr⟩
  obtain ⟨l2, hrd2⟩ : ∃ l : List (Int × Int), Rd W 2 v2 l.length (flat Edge.encPu l) := by
    obtain ⟨a, len, cap, rfl⟩ := okWide_slice Try.underlying71 (hval 2 71 v2 rfl rfl)
    obtain ⟨fuel, hf⟩ := h2
    obtain ⟨l, hl, hr, _⟩ := open_rd Edge.encPu_len (by omega) Try.underlying71 (by kernel_rfl) elem_pu23 hf
    subst hl
    exact ⟨l, hr⟩
  clear hA0 hval0
  refine (Edge.twice23_any n0 hn0 hrd1 hrd2).mono fun e W' ⟨he, hm⟩ => ?_
  have bel := hm.below
  subst he
  exact ⟨_, rfl, _, _, _, [], _, [], hW', trodAll_mk1 (shut_bool Try.underlying4 _), (trodAll_cons_mk (Below.trod laidOut (by kernel_rfl) (of_decide_eq_true (by kernel_rfl)) k0 bel lt0) (trodAll_cons_mk (Below.trod laidOut (by kernel_rfl) (of_decide_eq_true (by kernel_rfl)) k1 bel lt1) (trodAll_cons_mk (Below.trod laidOut (by kernel_rfl) (of_decide_eq_true (by kernel_rfl)) k2 bel lt2) trodAll_mk0))), rfl, bel.frame _, fun h => by cases h⟩
theorem proved : Rows.ResidTwiceSaid :=
  OpenClaim.holds_of_wide 9 Try.f9 rfl rfl rfl rfl rfl rfl rfl ⟨rfl, rfl, rfl, rfl, rfl⟩ rfl rfl rfl rfl rfl (by kernel_rfl) Try.func9 (by kernel_rfl)
    (of_decide_eq_true (by kernel_rfl)) (by unfold Func.isWrapper; first | (rw [if_pos (by decide +kernel)]; kernel_rfl) | (rw [if_neg (by decide +kernel)]; exact ⟨rfl, rfl⟩))
    (fun os started H enc _ => lifted os started H enc)
end ResidTwice
end Go.Proofs.Ytkhbnopmeapfjaa
