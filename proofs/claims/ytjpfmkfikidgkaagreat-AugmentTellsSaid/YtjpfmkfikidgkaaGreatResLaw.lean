/- What is left of arcs as a plain thing: a flow of each edge; what an arc has left, what stays at a vertex, what a push does. -/
import Derived.Test.YtjpfmkfikidgkaaGreatCsrLaw
set_option linter.unusedVariables false
set_option linter.unusedSimpArgs false
namespace Go.Proofs.YtjpfmkfikidgkaaGreat
namespace Edge
/-- A flow of each edge, no more than it weighs, either way. -/
def FB : List Ed → List Int → Prop
  | [], [] => True
  | e :: l, x :: f => (-e.2.2 ≤ x ∧ x ≤ e.2.2) ∧ FB l f
  | _, _ => False
theorem FB.len : ∀ {L : List Ed} {f : List Int}, FB L f → f.length = L.length
  | [], [], _ => rfl
  | e :: l, x :: f, h => by simp [FB.len h.2]
theorem FB.get : ∀ {L : List Ed} {f : List Int}, FB L f → ∀ (k : Nat) (hk : k < L.length), -L[k].2.2 ≤ f.getD k 0 ∧ f.getD k 0 ≤ L[k].2.2
  | e :: l, x :: f, h, 0, _ => by simpa using h.1
  | e :: l, x :: f, h, k + 1, hk => by
    have := FB.get h.2 k (by simpa using hk)
    simpa using this
theorem FB.set : ∀ {L : List Ed} {f : List Int}, FB L f → ∀ (k : Nat) (hk : k < L.length) (y : Int), -L[k].2.2 ≤ y → y ≤ L[k].2.2 → FB L (f.set k y)
  | e :: l, x :: f, h, 0, _, y, h1, h2 => ⟨⟨by simpa using h1, by simpa using h2⟩, h.2⟩
  | e :: l, x :: f, h, k + 1, hk, y, h1, h2 => ⟨h.1, FB.set h.2 k (by simpa using hk) y (by simpa using h1) (by simpa using h2)⟩
theorem FB.none : ∀ {L : List Ed}, (∀ e ∈ L, 0 < e.2.2) → FB L (List.replicate L.length 0)
  | [], _ => trivial
  | e :: l, h => by
    have h1 := h e (by simp)
    refine ⟨⟨by omega, by omega⟩, FB.none (fun x hx => h x (by simp [hx]))⟩
/-- What an arc has left. -/
def leftE (L : List Ed) (f : List Int) (i : Nat) : Int := if i % 2 = 0 then capE L i - f.getD (i / 2) 0 else capE L i + f.getD (i / 2) 0
def leftL (L : List Ed) (f : List Int) : List Int := (List.range (2 * L.length)).map (leftE L f)
/-- What stays at a vertex. -/
def exc : List Ed → List Int → Int → Int
  | e :: l, x :: f, v => (if e.2.1 = v then x else 0) - (if e.1 = v then x else 0) + exc l f v
  | _, _, _ => 0
def overL (n : Nat) (L : List Ed) (f : List Int) : List Int := (List.range n).map fun (v : Nat) => exc L f (v : Int)
/-- x goes along the arc i. -/
def pushF (f : List Int) (i : Nat) (x : Int) : List Int := f.set (i / 2) (if i % 2 = 0 then f.getD (i / 2) 0 + x else f.getD (i / 2) 0 - x)
theorem leftL_len (L : List Ed) (f : List Int) : (leftL L f).length = 2 * L.length := by simp [leftL]
theorem leftL_get {L : List Ed} {f : List Int} {i : Nat} (h : i < 2 * L.length) : (leftL L f)[i]? = some (leftE L f i) := by
  unfold leftL
  rw [List.getElem?_map, List.getElem?_range h]; rfl
theorem overL_len (n : Nat) (L : List Ed) (f : List Int) : (overL n L f).length = n := by simp [overL]
theorem overL_get {n : Nat} {L : List Ed} {f : List Int} {v : Nat} (h : v < n) : (overL n L f)[v]? = some (exc L f (v : Int)) := by
  unfold overL
  rw [List.getElem?_map, List.getElem?_range h]; rfl
theorem capE_le {n : Nat} {L : List Ed} (hG : GOk n L) (i : Nat) : 0 ≤ capE L i ∧ capE L i ≤ 2251799813685248 := by
  by_cases h : i < 2 * L.length
  · rw [capE_get h]
    have h1 := hG.pos _ (List.getElem_mem (l := L) (n := i / 2) (by omega))
    have h2 : ∀ {M : List Ed}, (∀ e ∈ M, 0 < e.2.2) → ∀ e ∈ M, e.2.2 ≤ total M ∧ 0 ≤ total M := by
      intro M
      induction M with
      | nil => simp
      | cons a M ih =>
        intro hp e he
        have ha := hp a (by simp)
        have hM : 0 ≤ total M := by
          cases M with
          | nil => simp [total]
          | cons b M => exact (ih (fun x hx => hp x (by simp [hx])) b (by simp)).2
        simp only [total]
        rcases List.mem_cons.1 he with rfl | he
        · omega
        · have := ih (fun x hx => hp x (by simp [hx])) e he
          omega
    have h3 := (h2 hG.pos _ (List.getElem_mem (l := L) (n := i / 2) (by omega))).1
    have h4 := hG.tot
    omega
  · rw [capE_out h]; omega
theorem leftE_in {n : Nat} {L : List Ed} {f : List Int} (hG : GOk n L) (hF : FB L f) {i : Nat} (h : i < 2 * L.length) : 0 ≤ leftE L f i ∧ leftE L f i ≤ 4503599627370496 := by
  have h1 := hF.get (i / 2) (by omega)
  have h2 := capE_le hG i
  rw [capE_get h] at h2
  unfold leftE
  rw [capE_get h]
  split <;> omega
theorem leftE_even {L : List Ed} {f : List Int} {i : Nat} (h : i % 2 = 0) : leftE L f i = capE L i - f.getD (i / 2) 0 := by unfold leftE; rw [if_pos h]
theorem leftE_odd {L : List Ed} {f : List Int} {i : Nat} (h : ¬ i % 2 = 0) : leftE L f i = capE L i + f.getD (i / 2) 0 := by unfold leftE; rw [if_neg h]
theorem push_get {f : List Int} {i : Nat} (h : i / 2 < f.length) (x : Int) (k : Nat) : (pushF f i x).getD k 0 = if i / 2 = k then (if i % 2 = 0 then f.getD (i / 2) 0 + x else f.getD (i / 2) 0 - x) else f.getD k 0 := by
  unfold pushF
  simp only [List.getD_eq_getElem?_getD, List.getElem?_set]
  by_cases c : i / 2 = k
  · subst c
    simp [h]
  · simp [c]
theorem leftE_push {L : List Ed} {f : List Int} (hl : f.length = L.length) {i : Nat} (h : i < 2 * L.length) (x : Int) (j : Nat) : leftE L (pushF f i x) j = if j = i then leftE L f i - x else if j = back i then leftE L f (back i) + x else leftE L f j := by
  have hb := back_half i
  have hg := push_get (f := f) (i := i) (by omega) x
  by_cases c1 : j = i
  · subst c1
    rw [if_pos rfl]
    by_cases c : j % 2 = 0
    · rw [leftE_even c, leftE_even c, hg, if_pos rfl, if_pos c]; omega
    · rw [leftE_odd c, leftE_odd c, hg, if_pos rfl, if_neg c]; omega
  · rw [if_neg c1]
    by_cases c2 : j = back i
    · subst c2
      rw [if_pos rfl]
      by_cases c : i % 2 = 0
      · have cb : ¬ back i % 2 = 0 := by unfold back; rw [if_pos c]; omega
        rw [leftE_odd cb, leftE_odd cb, hg, hb, if_pos rfl, if_pos c]; omega
      · have cb : back i % 2 = 0 := by unfold back; rw [if_neg c]; omega
        rw [leftE_even cb, leftE_even cb, hg, hb, if_pos rfl, if_neg c]; omega
    · rw [if_neg c2]
      have hn : ¬ i / 2 = j / 2 := by
        intro e
        unfold back at c2
        split at c2 <;> omega
      by_cases c : j % 2 = 0
      · rw [leftE_even c, leftE_even c, hg, if_neg hn]
      · rw [leftE_odd c, leftE_odd c, hg, if_neg hn]
theorem leftL_push {L : List Ed} {f : List Int} (hl : f.length = L.length) {i : Nat} (h : i < 2 * L.length) (x : Int) : ((leftL L f).set i (leftE L f i - x)).set (back i) (leftE L f (back i) + x) = leftL L (pushF f i x) := by
  have hne : back i ≠ i := by unfold back; split <;> omega
  apply List.ext_getElem?
  intro j
  by_cases hj : j < 2 * L.length
  · rw [leftL_get hj, leftE_push hl h, List.getElem?_set, List.getElem?_set]
    simp only [List.length_set, leftL_len]
    by_cases c1 : j = i
    · subst c1
      rw [if_pos rfl, if_neg hne, if_pos rfl, if_pos hj]
    · rw [if_neg c1]
      by_cases c2 : j = back i
      · subst c2
        rw [if_pos rfl, if_pos rfl, if_pos hj]
      · rw [if_neg c2, if_neg (fun e => c2 e.symm), if_neg (fun e => c1 e.symm), leftL_get hj]
  · rw [List.getElem?_eq_none (by simp only [List.length_set, leftL_len]; omega), List.getElem?_eq_none (by rw [leftL_len]; omega)]
theorem FB.push {L : List Ed} {f : List Int} (hF : FB L f) {i : Nat} (h : i < 2 * L.length) {x : Int} (h0 : 0 ≤ x) (h1 : x ≤ leftE L f i) : FB L (pushF f i x) := by
  have hb := hF.get (i / 2) (by omega)
  unfold leftE at h1
  rw [capE_get h] at h1
  unfold pushF
  refine hF.set (i / 2) (by omega) _ ?_ ?_
  · split at h1 <;> simp_all <;> omega
  · split at h1 <;> simp_all <;> omega
theorem exc_set : ∀ {L : List Ed} {f : List Int} (k : Nat) (hk : k < L.length) (hl : f.length = L.length) (y v : Int), exc L (f.set k y) v = exc L f v + (if L[k].2.1 = v then y - f.getD k 0 else 0) - (if L[k].1 = v then y - f.getD k 0 else 0)
  | e :: l, x :: f, 0, _, _, y, v => by
    simp only [List.set_cons_zero, exc, List.getElem_cons_zero, List.getD_cons_zero]
    by_cases c1 : e.2.1 = v <;> by_cases c2 : e.1 = v <;> simp only [c1, c2, if_true, if_false] <;> omega
  | e :: l, x :: f, k + 1, hk, hl, y, v => by
    have := exc_set (L := l) (f := f) k (by simpa using hk) (by simpa using hl) y v
    simp only [List.set_cons_succ, exc, List.getElem_cons_succ, List.getD_cons_succ]
    rw [this]; omega
theorem exc_push {L : List Ed} {f : List Int} (hl : f.length = L.length) {i : Nat} (h : i < 2 * L.length) (x v : Int) : exc L (pushF f i x) v = exc L f v + (if headE L i = v then x else 0) - (if tailE L i = v then x else 0) := by
  unfold pushF
  rw [exc_set (i / 2) (by omega) hl, headE_get h, tailE_get h]
  by_cases c : i % 2 = 0
  · simp only [c, if_true, show f.getD (i / 2) 0 + x - f.getD (i / 2) 0 = x by omega]
  · simp only [c, if_false, show f.getD (i / 2) 0 - x - f.getD (i / 2) 0 = -x by omega]
    by_cases c1 : (L[i / 2]'(by omega)).2.1 = v <;> by_cases c2 : (L[i / 2]'(by omega)).1 = v <;> simp only [c1, c2, if_true, if_false] <;> omega
theorem tail_ne_head {n : Nat} {L : List Ed} (hG : GOk n L) {i : Nat} (h : i < 2 * L.length) : tailE L i ≠ headE L i := by
  have := hG.ends _ (List.getElem_mem (l := L) (n := i / 2) (by omega))
  rw [tailE_get h, headE_get h]
  split <;> omega
theorem overL_push {n : Nat} {L : List Ed} {f : List Int} (hG : GOk n L) (hl : f.length = L.length) {i t hd : Nat} (h : i < 2 * L.length) (ht : tailE L i = (t : Int)) (hh : headE L i = (hd : Int)) (x : Int) : ((overL n L f).set t (exc L f (t : Int) - x)).set hd (exc L f (hd : Int) + x) = overL n L (pushF f i x) := by
  have hne := tail_ne_head hG h
  rw [ht, hh] at hne
  apply List.ext_getElem?
  intro v
  by_cases hv : v < n
  · rw [overL_get hv, exc_push hl h, ht, hh, List.getElem?_set, List.getElem?_set]
    simp only [List.length_set, overL_len]
    by_cases c1 : v = hd
    · subst c1
      rw [if_pos rfl, if_pos hv, if_pos rfl, if_neg hne]; congr 1; omega
    · rw [if_neg (fun e => c1 e.symm)]
      by_cases c2 : v = t
      · subst c2
        rw [if_pos rfl, if_pos hv, if_neg (fun e => hne e.symm), if_pos rfl]; congr 1; omega
      · rw [if_neg (fun e => c2 e.symm), overL_get hv, if_neg (by omega), if_neg (by omega)]; congr 1; omega
  · rw [List.getElem?_eq_none (by simp only [List.length_set, overL_len]; omega), List.getElem?_eq_none (by rw [overL_len]; omega)]
theorem exc_in : ∀ {L : List Ed} {f : List Int}, FB L f → (∀ e ∈ L, e.1 ≠ e.2.1) → ∀ v : Int, -total L ≤ exc L f v ∧ exc L f v ≤ total L
  | [], [], _, _, _ => by simp [exc, total]
  | e :: l, x :: f, h, hne, v => by
    have h1 := exc_in h.2 (fun y hy => hne y (by simp [hy])) v
    have h2 := hne e (by simp)
    have h3 := h.1
    simp only [exc, total]
    by_cases c1 : e.2.1 = v <;> by_cases c2 : e.1 = v <;> simp only [c1, c2, if_true, if_false] <;> omega
theorem exc_out : ∀ {L : List Ed} {f : List Int} {v : Int}, (∀ e ∈ L, e.1 ≠ v ∧ e.2.1 ≠ v) → exc L f v = 0
  | [], _, _, _ => by simp [exc]
  | e :: l, [], _, _ => by simp [exc]
  | e :: l, x :: f, v, h => by
    have h1 := h e (by simp)
    have h2 := exc_out (L := l) (f := f) (v := v) (fun y hy => h y (by simp [hy]))
    simp only [exc, if_neg h1.1, if_neg h1.2, h2]; omega
/-- All that stays at the first k vertices. -/
def cutS : List Ed → List Int → Int → Int
  | e :: l, x :: f, k => (if e.2.1 < k then x else 0) - (if e.1 < k then x else 0) + cutS l f k
  | _, _, _ => 0
theorem step_if (u k x : Int) : (if u < k then x else 0) + (if u = k then x else 0) = if u < k + 1 then x else 0 := by
  by_cases h1 : u < k
  · rw [if_pos h1, if_neg (by omega), if_pos (by omega)]; omega
  · rw [if_neg h1]
    by_cases h2 : u = k
    · rw [if_pos h2, if_pos (by omega)]; omega
    · rw [if_neg h2, if_neg (by omega)]; omega
theorem sum_exc : ∀ {L : List Ed} {f : List Int}, f.length = L.length → (∀ e ∈ L, 0 ≤ e.1 ∧ 0 ≤ e.2.1) → ∀ k : Nat, sumTo (exc L f) k = cutS L f (k : Int) := by
  intro L f hl hp k
  induction k with
  | zero =>
    have : ∀ {L : List Ed} {f : List Int}, (∀ e ∈ L, 0 ≤ e.1 ∧ 0 ≤ e.2.1) → cutS L f 0 = 0 := by
      intro L
      induction L with
      | nil => intro f _; simp [cutS]
      | cons e l ih =>
        intro f h
        cases f with
        | nil => simp [cutS]
        | cons x f =>
          have h1 := h e (by simp)
          simp only [cutS, if_neg (show ¬ e.2.1 < 0 by omega), if_neg (show ¬ e.1 < 0 by omega), ih (fun y hy => h y (by simp [hy]))]; omega
    exact (this hp).symm
  | succ k ih =>
    have hs : sumTo (exc L f) (k + 1) = sumTo (exc L f) k + exc L f (k : Int) := rfl
    rw [hs, ih]
    have : ∀ {L : List Ed} {f : List Int}, cutS L f (k : Int) + exc L f (k : Int) = cutS L f ((k + 1 : Nat) : Int) := by
      intro L
      induction L with
      | nil => intro f; simp [cutS, exc]
      | cons e l ih =>
        intro f
        cases f with
        | nil => simp [cutS, exc]
        | cons x f =>
          have h0 := ih (f := f)
          have a := step_if e.2.1 (k : Int) x
          have b := step_if e.1 (k : Int) x
          rw [Int.natCast_add, Int.natCast_one] at h0 ⊢
          simp only [cutS, exc]
          omega
    exact this
theorem cut_in : ∀ {L : List Ed} {f : List Int}, FB L f → ∀ k : Int, -total L ≤ cutS L f k ∧ cutS L f k ≤ total L
  | [], [], _, _ => by simp [cutS, total]
  | e :: l, x :: f, h, k => by
    have h1 := cut_in h.2 k
    have h3 := h.1
    simp only [cutS, total]
    by_cases c1 : e.2.1 < k <;> by_cases c2 : e.1 < k <;> simp only [c1, c2, if_true, if_false] <;> omega
theorem cut_all : ∀ {L : List Ed} {f : List Int} {n : Int}, (∀ e ∈ L, e.1 < n ∧ e.2.1 < n) → cutS L f n = 0
  | [], _, _, _ => by simp [cutS]
  | e :: l, [], _, _ => by simp [cutS]
  | e :: l, x :: f, n, h => by
    have h1 := h e (by simp)
    have h2 := cut_all (L := l) (f := f) (n := n) (fun y hy => h y (List.mem_cons_of_mem _ hy))
    simp only [cutS, if_pos h1.1, if_pos h1.2, h2]; omega
/-- Ahead of all pushes. -/
def noF (L : List Ed) : List Int := List.replicate L.length 0
theorem leftE_new (L : List Ed) (i : Nat) : leftE L (noF L) i = capE L i := by
  have : (noF L).getD (i / 2) 0 = 0 := by
    unfold noF
    rw [List.getD_eq_getElem?_getD, List.getElem?_replicate]
    split <;> rfl
  unfold leftE
  rw [this]
  split <;> omega
theorem exc_new : ∀ (L : List Ed) (k : Nat) (v : Int), exc L (List.replicate k 0) v = 0
  | [], _, _ => by simp [exc]
  | e :: l, 0, _ => by simp [exc]
  | e :: l, k + 1, v => by
    simp only [List.replicate_succ, exc, exc_new l k v]
    by_cases c1 : e.2.1 = v <;> by_cases c2 : e.1 = v <;> simp [c1, c2]
theorem overL_new (n : Nat) (L : List Ed) : overL n L (noF L) = List.replicate n 0 := by
  apply List.eq_replicate_iff.2 ⟨overL_len _ _ _, ?_⟩
  intro x hx
  simp only [overL, List.mem_map] at hx
  obtain ⟨v, _, rfl⟩ := hx
  exact exc_new L _ _
/-- The row of what is left, while it is being made. -/
def capL (L : List Ed) (k : Nat) : List Int := (List.range (2 * L.length)).map fun j => if j < k then capE L j else 0
theorem capL_zero (L : List Ed) : capL L 0 = List.replicate (2 * L.length) 0 := by
  apply List.eq_replicate_iff.2 ⟨by simp [capL], ?_⟩
  intro x hx
  simp only [capL, List.mem_map] at hx
  obtain ⟨v, _, rfl⟩ := hx
  rw [if_neg (by omega)]
theorem capL_len (L : List Ed) (k : Nat) : (capL L k).length = 2 * L.length := by simp [capL]
theorem capL_step {L : List Ed} {k : Nat} (hk : k < 2 * L.length) : (capL L k).set k (capE L k) = capL L (k + 1) := by
  apply List.ext_getElem
  · simp [capL]
  intro i g1 g2
  simp only [capL, List.getElem_set, List.getElem_map, List.getElem_range]
  by_cases c : k = i
  · subst c; rw [if_pos rfl, if_pos (by omega)]
  · rw [if_neg c]
    by_cases h : i < k
    · rw [if_pos h, if_pos (by omega)]
    · rw [if_neg h, if_neg (by omega)]
theorem capL_all (L : List Ed) : capL L (2 * L.length) = leftL L (noF L) := by
  unfold capL leftL
  apply List.map_congr_left
  intro i hi
  rw [List.mem_range] at hi
  rw [if_pos hi, leftE_new]
/-! By any numbers. -/
def leftI (L : List Ed) (f : List Int) (i : Int) : Int := if 0 ≤ i ∧ i < 2 * L.length then leftE L f i.toNat else 0
def flowI (L : List Ed) (f : List Int) (e : Int) : Int := if 0 ≤ e ∧ e < L.length then f.getD e.toNat 0 else 0
def mayP (L : List Ed) (f : List Int) (i x : Int) : Bool := decide ((0 ≤ i ∧ i < 2 * L.length) ∧ 0 ≤ x ∧ x ≤ leftE L f i.toNat)
def pushI (L : List Ed) (f : List Int) (i x : Int) : List Int := if mayP L f i x = true then pushF f i.toNat x else f
theorem FB.pushI {L : List Ed} {f : List Int} (hF : FB L f) (i x : Int) : FB L (pushI L f i x) := by
  unfold Edge.pushI
  by_cases h : mayP L f i x = true
  · rw [if_pos h]
    unfold mayP at h
    simp only [decide_eq_true_eq] at h
    exact hF.push (by omega) h.2.1 h.2.2
  · rw [if_neg h]; exact hF
theorem exc_I {n : Nat} {L : List Ed} {f : List Int} (hG : GOk n L) {v : Int} (h : v < 0 ∨ (n : Int) ≤ v) : exc L f v = 0 :=
  exc_out (fun e he => by have := hG.ends e he; omega)
end Edge
end Go.Proofs.YtjpfmkfikidgkaaGreat
