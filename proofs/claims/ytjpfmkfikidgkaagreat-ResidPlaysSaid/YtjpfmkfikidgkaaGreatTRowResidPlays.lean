/- ResidPlays: for every number of vertices, list of edges and list of pushes the law returns true, and its arguments read as before. Conditions: none. (Ahead of it: The arcs of a graph that is there; the law's awake: arcs are told at all. What is left of arcs as a plain thing: a flow of each edge; what an arc has left, what stays at a vertex, what a push does. What is left of arcs, as an object: what it tells; a push. What is left of arcs: a push along an arc; all flows; of nil there is nothing. What is left of arcs: all flows; of nil there is nothing; New. What is left of arcs: New. What is left of arcs: the contracts over several objects; the law's awake. ResidTwice: what is left of both arcs of an edge is together twice what it weighs; all excess is together 0; of nil there is nothing. The reference's flow: New, Left. The reference's flow: Excess. The reference's flow: Push. To where something may go, as a plain thing. To where something may go, once more and once more, as a plain thing. What is left of arcs: to where something may go. The reference's sets: New, List. The reference's flow: to where something may go. The reference's Same; of a vertex that is none nothing is reached. What is left of arcs: a twin. Is the same left of all arcs, and everywhere? A drawn region's tail: some quiet operations, then on. The reference's New over several objects side by side: the value's four cells, and the row that it brings, if any. How far it is: levels, as plain things. The search for how far it is: a vertex is seen. The search for how far it is to a vertex: who leads to a vertex is seen. ResidPlays: any pushes along any arcs of any graph.) -/
import Derived.Test.YtjpfmkfikidgkaaGreatCsr6
import Derived.Test.YtjpfmkfikidgkaaGreatNetGet
import Derived.Test.YtjpfmkfikidgkaaGreatIntsE
import Derived.Test.YtjpfmkfikidgkaaGreatNetNil
import Derived.Laws.EntriesVeiled
import Derived.Test.YtjpfmkfikidgkaaGreatCsrLaw
import Derived.Test.YtjpfmkfikidgkaaGreatCsr2
import Derived.Test.YtjpfmkfikidgkaaGreatRefN2
import Derived.Test.YtjpfmkfikidgkaaGreatSepAt
import Derived.Laws.CopyRow
import Derived.Test.YtjpfmkfikidgkaaGreatFork
import Derived.Test.YtjpfmkfikidgkaaGreatRefN1
import Derived.Test.YtjpfmkfikidgkaaGreatRead2
set_option linter.unusedVariables false
set_option linter.unusedSimpArgs false
namespace Go.Proofs.YtjpfmkfikidgkaaGreat
open Go.RowKit
namespace Edge
theorem csr_net {w0 w : World} {b n : Nat} {L : List Ed} {R : List Part} (hS : Sep w0 w (NetP b n L :: R)) (hG : GOk n L) :
    Calls Tryz.prog 104 #[.pointer (some ⟨b, 0, none⟩)] w fun e w' => ∃ b2, e = .returned (.pointer (some ⟨b2, 0, none⟩)) ∧ Sep w0 w' (ArcP b2 n L :: NetP b n L :: R) := by
  refine (acsr_new hG (fun W m => n_sep (hS.still m)) (fun W m => edges_sep (hS.still m) hG.len)).mono ?_
  rintro e w' ⟨b2, rfl, hA⟩
  obtain ⟨F, hP, hF, _⟩ := hA.first
  exact ⟨b2, rfl, hS.add hA.mod hP (fun x hx => (hF x hx).2)⟩
theorem gok_none : GOk 0 [] := ⟨by omega, List.Pairwise.nil, by simp, by simp, by simp [total], by simp⟩
theorem csr_none (w : World) : Calls Tryz.prog 104 #[.pointer none] w fun e w' => ∃ b2, e = .returned (.pointer (some ⟨b2, 0, none⟩)) ∧ Sep w w' [ArcP b2 0 []] := by
  refine acsr_new gok_none (fun W m => (n_nil W).mono ?_) (fun W m => (edges_nil W).mono ?_)
  · rintro e w' ⟨rfl, rfl⟩; exact ⟨rfl, rfl⟩
  · rintro e w' ⟨rfl, rfl⟩; exact ⟨none, 0, rfl, World.ownsRow_nil _ _ _ _, Mod.refl _ _, by simp [Value.ownBlock]⟩
section
variable {w0 w : World} {b n : Nat} {L : List Ed} {R : List Part}
theorem an_sep (h : Sep w0 w (ArcP b n L :: R)) (hG : GOk n L) : Calls Tryz.prog 105 #[.pointer (some ⟨b, 0, none⟩)] w fun e w' => e = .returned (.int .i64 n) ∧ w' = w := by
  obtain ⟨F, h1, _⟩ := h.first
  exact an_p h1 hG
theorem alen_sep (h : Sep w0 w (ArcP b n L :: R)) : Calls Tryz.prog 24 #[.pointer (some ⟨b, 0, none⟩)] w fun e w' => e = .returned (.int .i64 ((2 * L.length : Nat) : Int)) ∧ w' = w := by
  obtain ⟨F, h1, _⟩ := h.first
  exact alen_p h1
theorem ahead_sep (h : Sep w0 w (ArcP b n L :: R)) (hG : GOk n L) (i : Int) : Calls Tryz.prog 39 #[.pointer (some ⟨b, 0, none⟩), .int .i64 i] w fun e w' => e = .returned (.int .i64 (headI L i)) ∧ w' = w := by
  obtain ⟨F, h1, _⟩ := h.first
  exact ahead_p h1 hG i
theorem acap_sep (h : Sep w0 w (ArcP b n L :: R)) (hG : GOk n L) (i : Int) : Calls Tryz.prog 106 #[.pointer (some ⟨b, 0, none⟩), .int .i64 i] w fun e w' => e = .returned (.int .i64 (capI L i)) ∧ w' = w := by
  obtain ⟨F, h1, _⟩ := h.first
  exact acap_p h1 hG i
theorem atail_sep (h : Sep w0 w (ArcP b n L :: R)) (hG : GOk n L) (i : Int) (hi : i ≤ 9223372036854775807) : Calls Tryz.prog 38 #[.pointer (some ⟨b, 0, none⟩), .int .i64 i] w fun e w' => e = .returned (.int .i64 (tailI L i)) ∧ w' = w := by
  obtain ⟨F, h1, _⟩ := h.first
  exact atail_p h1 hG i hi
theorem aout_sep (h : Sep w0 w (ArcP b n L :: R)) (hG : GOk n L) (v : Int) : Calls Tryz.prog 75 #[.pointer (some ⟨b, 0, none⟩), .int .i64 v] w fun e w' => ∃ a c, e = .returned (.slice a (outI n L v).length c) ∧ Made w w' 3 1 a (outI n L v).length c (i64s (outI n L v)) := by
  obtain ⟨F, h1, _⟩ := h.first
  exact aout_p h1 hG v
end
theorem merged19 : merged [(0, 1, 5)] = [(0, 1, 5)] := by decide +kernel
end Edge
end Go.Proofs.YtjpfmkfikidgkaaGreat

set_option linter.unusedVariables false
set_option linter.unusedSimpArgs false
namespace Go.Proofs.YtjpfmkfikidgkaaGreat
namespace Edge
/-- A flow of each edge, no more than it weighs, either way. -/
def FB : List Ed → List Int → Prop
  | [], [] => True
  | e :: l, x :: f => (-e.2.2 ≤ x ∧ x ≤ e.2.2) ∧ FB l f
  | _, _ => False
theorem FB.len : ∀ {L : List Ed} {f : List Int}, FB L f → f.length = L.length
  | [], [], _ => rfl
  | e :: l, x :: f, h => by simp [FB.len h.2]
theorem FB.get : ∀ {L : List Ed} {f : List Int}, FB L f → ∀ (k : Nat) (hk : k < L.length), -L[k].2.2 ≤ f.getD k 0 ∧ f.getD k 0 ≤ L[k].2.2
  | e :: l, x :: f, h, 0, _ => by simpa using h.1
  | e :: l, x :: f, h, k + 1, hk => by
    have := FB.get h.2 k (by simpa using hk)
    simpa using this
theorem FB.set : ∀ {L : List Ed} {f : List Int}, FB L f → ∀ (k : Nat) (hk : k < L.length) (y : Int), -L[k].2.2 ≤ y → y ≤ L[k].2.2 → FB L (f.set k y)
  | e :: l, x :: f, h, 0, _, y, h1, h2 => ⟨⟨by simpa using h1, by simpa using h2⟩, h.2⟩
  | e :: l, x :: f, h, k + 1, hk, y, h1, h2 => ⟨h.1, FB.set h.2 k (by simpa using hk) y (by simpa using h1) (by simpa using h2)⟩
theorem FB.none : ∀ {L : List Ed}, (∀ e ∈ L, 0 < e.2.2) → FB L (List.replicate L.length 0)
  | [], _ => trivial
  | e :: l, h => by
    have h1 := h e (by simp)
    refine ⟨⟨by omega, by omega⟩, FB.none (fun x hx => h x (by simp [hx]))⟩
/-- What an arc has left. -/
def leftE (L : List Ed) (f : List Int) (i : Nat) : Int := if i % 2 = 0 then capE L i - f.getD (i / 2) 0 else capE L i + f.getD (i / 2) 0
def leftL (L : List Ed) (f : List Int) : List Int := (List.range (2 * L.length)).map (leftE L f)
/-- What stays at a vertex. -/
def exc : List Ed → List Int → Int → Int
  | e :: l, x :: f, v => (if e.2.1 = v then x else 0) - (if e.1 = v then x else 0) + exc l f v
  | _, _, _ => 0
def overL (n : Nat) (L : List Ed) (f : List Int) : List Int := (List.range n).map fun (v : Nat) => exc L f (v : Int)
/-- x goes along the arc i. -/
def pushF (f : List Int) (i : Nat) (x : Int) : List Int := f.set (i / 2) (if i % 2 = 0 then f.getD (i / 2) 0 + x else f.getD (i / 2) 0 - x)
theorem leftL_len (L : List Ed) (f : List Int) : (leftL L f).length = 2 * L.length := by simp [leftL]
theorem leftL_get {L : List Ed} {f : List Int} {i : Nat} (h : i < 2 * L.length) : (leftL L f)[i]? = some (leftE L f i) := by
  unfold leftL
  rw [List.getElem?_map, List.getElem?_range h]; rfl
theorem overL_len (n : Nat) (L : List Ed) (f : List Int) : (overL n L f).length = n := by simp [overL]
theorem overL_get {n : Nat} {L : List Ed} {f : List Int} {v : Nat} (h : v < n) : (overL n L f)[v]? = some (exc L f (v : Int)) := by
  unfold overL
  rw [List.getElem?_map, List.getElem?_range h]; rfl
theorem capE_le {n : Nat} {L : List Ed} (hG : GOk n L) (i : Nat) : 0 ≤ capE L i ∧ capE L i ≤ 2251799813685248 := by
  by_cases h : i < 2 * L.length
  · rw [capE_get h]
    have h1 := hG.pos _ (List.getElem_mem (l := L) (n := i / 2) (by omega))
    have h2 : ∀ {M : List Ed}, (∀ e ∈ M, 0 < e.2.2) → ∀ e ∈ M, e.2.2 ≤ total M ∧ 0 ≤ total M := by
      intro M
      induction M with
      | nil => simp
      | cons a M ih =>
        intro hp e he
        have ha := hp a (by simp)
        have hM : 0 ≤ total M := by
          cases M with
          | nil => simp [total]
          | cons b M => exact (ih (fun x hx => hp x (by simp [hx])) b (by simp)).2
        simp only [total]
        rcases List.mem_cons.1 he with rfl | he
        · omega
        · have := ih (fun x hx => hp x (by simp [hx])) e he
          omega
    have h3 := (h2 hG.pos _ (List.getElem_mem (l := L) (n := i / 2) (by omega))).1
    have h4 := hG.tot
    omega
  · rw [capE_out h]; omega
theorem leftE_in {n : Nat} {L : List Ed} {f : List Int} (hG : GOk n L) (hF : FB L f) {i : Nat} (h : i < 2 * L.length) : 0 ≤ leftE L f i ∧ leftE L f i ≤ 4503599627370496 := by
  have h1 := hF.get (i / 2) (by omega)
  have h2 := capE_le hG i
  rw [capE_get h] at h2
  unfold leftE
  rw [capE_get h]
  split <;> omega
theorem leftE_even {L : List Ed} {f : List Int} {i : Nat} (h : i % 2 = 0) : leftE L f i = capE L i - f.getD (i / 2) 0 := by unfold leftE; rw [if_pos h]
theorem leftE_odd {L : List Ed} {f : List Int} {i : Nat} (h : ¬ i % 2 = 0) : leftE L f i = capE L i + f.getD (i / 2) 0 := by unfold leftE; rw [if_neg h]
theorem push_get {f : List Int} {i : Nat} (h : i / 2 < f.length) (x : Int) (k : Nat) : (pushF f i x).getD k 0 = if i / 2 = k then (if i % 2 = 0 then f.getD (i / 2) 0 + x else f.getD (i / 2) 0 - x) else f.getD k 0 := by
  unfold pushF
  simp only [List.getD_eq_getElem?_getD, List.getElem?_set]
  by_cases c : i / 2 = k
  · subst c
    simp [h]
  · simp [c]
theorem leftE_push {L : List Ed} {f : List Int} (hl : f.length = L.length) {i : Nat} (h : i < 2 * L.length) (x : Int) (j : Nat) : leftE L (pushF f i x) j = if j = i then leftE L f i - x else if j = back i then leftE L f (back i) + x else leftE L f j := by
  have hb := back_half i
  have hg := push_get (f := f) (i := i) (by omega) x
  by_cases c1 : j = i
  · subst c1
    rw [if_pos rfl]
    by_cases c : j % 2 = 0
    · rw [leftE_even c, leftE_even c, hg, if_pos rfl, if_pos c]; omega
    · rw [leftE_odd c, leftE_odd c, hg, if_pos rfl, if_neg c]; omega
  · rw [if_neg c1]
    by_cases c2 : j = back i
    · subst c2
      rw [if_pos rfl]
      by_cases c : i % 2 = 0
      · have cb : ¬ back i % 2 = 0 := by unfold back; rw [if_pos c]; omega
        rw [leftE_odd cb, leftE_odd cb, hg, hb, if_pos rfl, if_pos c]; omega
      · have cb : back i % 2 = 0 := by unfold back; rw [if_neg c]; omega
        rw [leftE_even cb, leftE_even cb, hg, hb, if_pos rfl, if_neg c]; omega
    · rw [if_neg c2]
      have hn : ¬ i / 2 = j / 2 := by
        intro e
        unfold back at c2
        split at c2 <;> omega
      by_cases c : j % 2 = 0
      · rw [leftE_even c, leftE_even c, hg, if_neg hn]
      · rw [leftE_odd c, leftE_odd c, hg, if_neg hn]
theorem leftL_push {L : List Ed} {f : List Int} (hl : f.length = L.length) {i : Nat} (h : i < 2 * L.length) (x : Int) : ((leftL L f).set i (leftE L f i - x)).set (back i) (leftE L f (back i) + x) = leftL L (pushF f i x) := by
  have hne : back i ≠ i := by unfold back; split <;> omega
  apply List.ext_getElem?
  intro j
  by_cases hj : j < 2 * L.length
  · rw [leftL_get hj, leftE_push hl h, List.getElem?_set, List.getElem?_set]
    simp only [List.length_set, leftL_len]
    by_cases c1 : j = i
    · subst c1
      rw [if_pos rfl, if_neg hne, if_pos rfl, if_pos hj]
    · rw [if_neg c1]
      by_cases c2 : j = back i
      · subst c2
        rw [if_pos rfl, if_pos rfl, if_pos hj]
      · rw [if_neg c2, if_neg (fun e => c2 e.symm), if_neg (fun e => c1 e.symm), leftL_get hj]
  · rw [List.getElem?_eq_none (by simp only [List.length_set, leftL_len]; omega), List.getElem?_eq_none (by rw [leftL_len]; omega)]
theorem FB.push {L : List Ed} {f : List Int} (hF : FB L f) {i : Nat} (h : i < 2 * L.length) {x : Int} (h0 : 0 ≤ x) (h1 : x ≤ leftE L f i) : FB L (pushF f i x) := by
  have hb := hF.get (i / 2) (by omega)
  unfold leftE at h1
  rw [capE_get h] at h1
  unfold pushF
  refine hF.set (i / 2) (by omega) _ ?_ ?_
  · split at h1 <;> simp_all <;> omega
  · split at h1 <;> simp_all <;> omega
theorem exc_set : ∀ {L : List Ed} {f : List Int} (k : Nat) (hk : k < L.length) (hl : f.length = L.length) (y v : Int), exc L (f.set k y) v = exc L f v + (if L[k].2.1 = v then y - f.getD k 0 else 0) - (if L[k].1 = v then y - f.getD k 0 else 0)
  | e :: l, x :: f, 0, _, _, y, v => by
    simp only [List.set_cons_zero, exc, List.getElem_cons_zero, List.getD_cons_zero]
    by_cases c1 : e.2.1 = v <;> by_cases c2 : e.1 = v <;> simp only [c1, c2, if_true, if_false] <;> omega
  | e :: l, x :: f, k + 1, hk, hl, y, v => by
    have := exc_set (L := l) (f := f) k (by simpa using hk) (by simpa using hl) y v
    simp only [List.set_cons_succ, exc, List.getElem_cons_succ, List.getD_cons_succ]
    rw [this]; omega
theorem exc_push {L : List Ed} {f : List Int} (hl : f.length = L.length) {i : Nat} (h : i < 2 * L.length) (x v : Int) : exc L (pushF f i x) v = exc L f v + (if headE L i = v then x else 0) - (if tailE L i = v then x else 0) := by
  unfold pushF
  rw [exc_set (i / 2) (by omega) hl, headE_get h, tailE_get h]
  by_cases c : i % 2 = 0
  · simp only [c, if_true, show f.getD (i / 2) 0 + x - f.getD (i / 2) 0 = x by omega]
  · simp only [c, if_false, show f.getD (i / 2) 0 - x - f.getD (i / 2) 0 = -x by omega]
    by_cases c1 : (L[i / 2]'(by omega)).2.1 = v <;> by_cases c2 : (L[i / 2]'(by omega)).1 = v <;> simp only [c1, c2, if_true, if_false] <;> omega
theorem tail_ne_head {n : Nat} {L : List Ed} (hG : GOk n L) {i : Nat} (h : i < 2 * L.length) : tailE L i ≠ headE L i := by
  have := hG.ends _ (List.getElem_mem (l := L) (n := i / 2) (by omega))
  rw [tailE_get h, headE_get h]
  split <;> omega
theorem overL_push {n : Nat} {L : List Ed} {f : List Int} (hG : GOk n L) (hl : f.length = L.length) {i t hd : Nat} (h : i < 2 * L.length) (ht : tailE L i = (t : Int)) (hh : headE L i = (hd : Int)) (x : Int) : ((overL n L f).set t (exc L f (t : Int) - x)).set hd (exc L f (hd : Int) + x) = overL n L (pushF f i x) := by
  have hne := tail_ne_head hG h
  rw [ht, hh] at hne
  apply List.ext_getElem?
  intro v
  by_cases hv : v < n
  · rw [overL_get hv, exc_push hl h, ht, hh, List.getElem?_set, List.getElem?_set]
    simp only [List.length_set, overL_len]
    by_cases c1 : v = hd
    · subst c1
      rw [if_pos rfl, if_pos hv, if_pos rfl, if_neg hne]; congr 1; omega
    · rw [if_neg (fun e => c1 e.symm)]
      by_cases c2 : v = t
      · subst c2
        rw [if_pos rfl, if_pos hv, if_neg (fun e => hne e.symm), if_pos rfl]; congr 1; omega
      · rw [if_neg (fun e => c2 e.symm), overL_get hv, if_neg (by omega), if_neg (by omega)]; congr 1; omega
  · rw [List.getElem?_eq_none (by simp only [List.length_set, overL_len]; omega), List.getElem?_eq_none (by rw [overL_len]; omega)]
theorem exc_in : ∀ {L : List Ed} {f : List Int}, FB L f → (∀ e ∈ L, e.1 ≠ e.2.1) → ∀ v : Int, -total L ≤ exc L f v ∧ exc L f v ≤ total L
  | [], [], _, _, _ => by simp [exc, total]
  | e :: l, x :: f, h, hne, v => by
    have h1 := exc_in h.2 (fun y hy => hne y (by simp [hy])) v
    have h2 := hne e (by simp)
    have h3 := h.1
    simp only [exc, total]
    by_cases c1 : e.2.1 = v <;> by_cases c2 : e.1 = v <;> simp only [c1, c2, if_true, if_false] <;> omega
theorem exc_out : ∀ {L : List Ed} {f : List Int} {v : Int}, (∀ e ∈ L, e.1 ≠ v ∧ e.2.1 ≠ v) → exc L f v = 0
  | [], _, _, _ => by simp [exc]
  | e :: l, [], _, _ => by simp [exc]
  | e :: l, x :: f, v, h => by
    have h1 := h e (by simp)
    have h2 := exc_out (L := l) (f := f) (v := v) (fun y hy => h y (by simp [hy]))
    simp only [exc, if_neg h1.1, if_neg h1.2, h2]; omega
/-- All that stays at the first k vertices. -/
def cutS : List Ed → List Int → Int → Int
  | e :: l, x :: f, k => (if e.2.1 < k then x else 0) - (if e.1 < k then x else 0) + cutS l f k
  | _, _, _ => 0
theorem step_if (u k x : Int) : (if u < k then x else 0) + (if u = k then x else 0) = if u < k + 1 then x else 0 := by
  by_cases h1 : u < k
  · rw [if_pos h1, if_neg (by omega), if_pos (by omega)]; omega
  · rw [if_neg h1]
    by_cases h2 : u = k
    · rw [if_pos h2, if_pos (by omega)]; omega
    · rw [if_neg h2, if_neg (by omega)]; omega
theorem sum_exc : ∀ {L : List Ed} {f : List Int}, f.length = L.length → (∀ e ∈ L, 0 ≤ e.1 ∧ 0 ≤ e.2.1) → ∀ k : Nat, sumTo (exc L f) k = cutS L f (k : Int) := by
  intro L f hl hp k
  induction k with
  | zero =>
    have : ∀ {L : List Ed} {f : List Int}, (∀ e ∈ L, 0 ≤ e.1 ∧ 0 ≤ e.2.1) → cutS L f 0 = 0 := by
      intro L
      induction L with
      | nil => intro f _; simp [cutS]
      | cons e l ih =>
        intro f h
        cases f with
        | nil => simp [cutS]
        | cons x f =>
          have h1 := h e (by simp)
          simp only [cutS, if_neg (show ¬ e.2.1 < 0 by omega), if_neg (show ¬ e.1 < 0 by omega), ih (fun y hy => h y (by simp [hy]))]; omega
    exact (this hp).symm
  | succ k ih =>
    have hs : sumTo (exc L f) (k + 1) = sumTo (exc L f) k + exc L f (k : Int) := rfl
    rw [hs, ih]
    have : ∀ {L : List Ed} {f : List Int}, cutS L f (k : Int) + exc L f (k : Int) = cutS L f ((k + 1 : Nat) : Int) := by
      intro L
      induction L with
      | nil => intro f; simp [cutS, exc]
      | cons e l ih =>
        intro f
        cases f with
        | nil => simp [cutS, exc]
        | cons x f =>
          have h0 := ih (f := f)
          have a := step_if e.2.1 (k : Int) x
          have b := step_if e.1 (k : Int) x
          rw [Int.natCast_add, Int.natCast_one] at h0 ⊢
          simp only [cutS, exc]
          omega
    exact this
theorem cut_in : ∀ {L : List Ed} {f : List Int}, FB L f → ∀ k : Int, -total L ≤ cutS L f k ∧ cutS L f k ≤ total L
  | [], [], _, _ => by simp [cutS, total]
  | e :: l, x :: f, h, k => by
    have h1 := cut_in h.2 k
    have h3 := h.1
    simp only [cutS, total]
    by_cases c1 : e.2.1 < k <;> by_cases c2 : e.1 < k <;> simp only [c1, c2, if_true, if_false] <;> omega
theorem cut_all : ∀ {L : List Ed} {f : List Int} {n : Int}, (∀ e ∈ L, e.1 < n ∧ e.2.1 < n) → cutS L f n = 0
  | [], _, _, _ => by simp [cutS]
  | e :: l, [], _, _ => by simp [cutS]
  | e :: l, x :: f, n, h => by
    have h1 := h e (by simp)
    have h2 := cut_all (L := l) (f := f) (n := n) (fun y hy => h y (List.mem_cons_of_mem _ hy))
    simp only [cutS, if_pos h1.1, if_pos h1.2, h2]; omega
/-- Ahead of all pushes. -/
def noF (L : List Ed) : List Int := List.replicate L.length 0
theorem leftE_new (L : List Ed) (i : Nat) : leftE L (noF L) i = capE L i := by
  have : (noF L).getD (i / 2) 0 = 0 := by
    unfold noF
    rw [List.getD_eq_getElem?_getD, List.getElem?_replicate]
    split <;> rfl
  unfold leftE
  rw [this]
  split <;> omega
theorem exc_new : ∀ (L : List Ed) (k : Nat) (v : Int), exc L (List.replicate k 0) v = 0
  | [], _, _ => by simp [exc]
  | e :: l, 0, _ => by simp [exc]
  | e :: l, k + 1, v => by
    simp only [List.replicate_succ, exc, exc_new l k v]
    by_cases c1 : e.2.1 = v <;> by_cases c2 : e.1 = v <;> simp [c1, c2]
theorem overL_new (n : Nat) (L : List Ed) : overL n L (noF L) = List.replicate n 0 := by
  apply List.eq_replicate_iff.2 ⟨overL_len _ _ _, ?_⟩
  intro x hx
  simp only [overL, List.mem_map] at hx
  obtain ⟨v, _, rfl⟩ := hx
  exact exc_new L _ _
/-- The row of what is left, while it is being made. -/
def capL (L : List Ed) (k : Nat) : List Int := (List.range (2 * L.length)).map fun j => if j < k then capE L j else 0
theorem capL_zero (L : List Ed) : capL L 0 = List.replicate (2 * L.length) 0 := by
  apply List.eq_replicate_iff.2 ⟨by simp [capL], ?_⟩
  intro x hx
  simp only [capL, List.mem_map] at hx
  obtain ⟨v, _, rfl⟩ := hx
  rw [if_neg (by omega)]
theorem capL_len (L : List Ed) (k : Nat) : (capL L k).length = 2 * L.length := by simp [capL]
theorem capL_step {L : List Ed} {k : Nat} (hk : k < 2 * L.length) : (capL L k).set k (capE L k) = capL L (k + 1) := by
  apply List.ext_getElem
  · simp [capL]
  intro i g1 g2
  simp only [capL, List.getElem_set, List.getElem_map, List.getElem_range]
  by_cases c : k = i
  · subst c; rw [if_pos rfl, if_pos (by omega)]
  · rw [if_neg c]
    by_cases h : i < k
    · rw [if_pos h, if_pos (by omega)]
    · rw [if_neg h, if_neg (by omega)]
theorem capL_all (L : List Ed) : capL L (2 * L.length) = leftL L (noF L) := by
  unfold capL leftL
  apply List.map_congr_left
  intro i hi
  rw [List.mem_range] at hi
  rw [if_pos hi, leftE_new]
/-! By any numbers. -/
def leftI (L : List Ed) (f : List Int) (i : Int) : Int := if 0 ≤ i ∧ i < 2 * L.length then leftE L f i.toNat else 0
def flowI (L : List Ed) (f : List Int) (e : Int) : Int := if 0 ≤ e ∧ e < L.length then f.getD e.toNat 0 else 0
def mayP (L : List Ed) (f : List Int) (i x : Int) : Bool := decide ((0 ≤ i ∧ i < 2 * L.length) ∧ 0 ≤ x ∧ x ≤ leftE L f i.toNat)
def pushI (L : List Ed) (f : List Int) (i x : Int) : List Int := if mayP L f i x = true then pushF f i.toNat x else f
theorem FB.pushI {L : List Ed} {f : List Int} (hF : FB L f) (i x : Int) : FB L (pushI L f i x) := by
  unfold Edge.pushI
  by_cases h : mayP L f i x = true
  · rw [if_pos h]
    unfold mayP at h
    simp only [decide_eq_true_eq] at h
    exact hF.push (by omega) h.2.1 h.2.2
  · rw [if_neg h]; exact hF
theorem exc_I {n : Nat} {L : List Ed} {f : List Int} (hG : GOk n L) {v : Int} (h : v < 0 ∨ (n : Int) ≤ v) : exc L f v = 0 :=
  exc_out (fun e he => by have := hG.ends e he; omega)
end Edge
end Go.Proofs.YtjpfmkfikidgkaaGreat

set_option linter.unusedVariables false
set_option linter.unusedSimpArgs false
namespace Go.Proofs.YtjpfmkfikidgkaaGreat
open Go.RowKit
namespace Edge
/-- What is left of the arcs ba. -/
def RestP (r ba n : Nat) (L : List Ed) (f : List Int) : Part := fun w F => ∃ gl go : Nat, Parts w
  [Blk r [.pointer (some ⟨ba, 0, none⟩), .slice (some ⟨gl, 0, none⟩) (2 * L.length) (2 * L.length), .slice (some ⟨go, 0, none⟩) n n] 174,
   Row 2 1 (2 * L.length) (.slice (some ⟨gl, 0, none⟩) (2 * L.length) (2 * L.length)) (i64s (leftL L f)),
   Row 2 1 n (.slice (some ⟨go, 0, none⟩) n n) (i64s (overL n L f))] F
instance (r ba n : Nat) (L : List Ed) (f : List Int) : Good (RestP r ba n L f) where
  lt h := by obtain ⟨_, _, h⟩ := h; exact h.lt
  keep h m hd := by obtain ⟨gl, go, h⟩ := h; exact ⟨gl, go, h.keep m hd⟩
structure RestRd (w : World) (r ba n : Nat) (L : List Ed) (f : List Int) (gl go : Nat) : Prop where
  hb : Has w r [.pointer (some ⟨ba, 0, none⟩), .slice (some ⟨gl, 0, none⟩) (2 * L.length) (2 * L.length), .slice (some ⟨go, 0, none⟩) n n] 174
  left : w.ownsRow 0 2 1 (.slice (some ⟨gl, 0, none⟩) (2 * L.length) (2 * L.length)) (2 * L.length) (i64s (leftL L f))
  over : w.ownsRow 0 2 1 (.slice (some ⟨go, 0, none⟩) n n) n (i64s (overL n L f))
theorem RestP.rd {w : World} {r ba n : Nat} {L : List Ed} {f : List Int} {F : List Nat} (h : RestP r ba n L f w F) : ∃ gl go, RestRd w r ba n L f gl go := by
  obtain ⟨gl, go, h⟩ := h
  obtain ⟨_, ⟨k0, _⟩, _⟩ := parts_at h 0 _ rfl
  obtain ⟨_, ⟨k1, _⟩, _⟩ := parts_at h 1 _ rfl
  obtain ⟨_, ⟨k2, _⟩, _⟩ := parts_at h 2 _ rfl
  exact ⟨gl, go, k0, k1, k2⟩
/-- The parts of what is left, side by side with others. -/
theorem Sep.rest {w0 w : World} {r ba n : Nat} {L : List Ed} {f : List Int} {R : List Part} (h : Sep w0 w (RestP r ba n L f :: R)) : ∃ gl go : Nat, Sep w0 w
  (Blk r [.pointer (some ⟨ba, 0, none⟩), .slice (some ⟨gl, 0, none⟩) (2 * L.length) (2 * L.length), .slice (some ⟨go, 0, none⟩) n n] 174 ::
   Row 2 1 (2 * L.length) (.slice (some ⟨gl, 0, none⟩) (2 * L.length) (2 * L.length)) (i64s (leftL L f)) ::
   Row 2 1 n (.slice (some ⟨go, 0, none⟩) n n) (i64s (overL n L f)) :: R) := by
  obtain ⟨F, h1, h2, h3⟩ := h.out
  obtain ⟨_, F1, F2, rfl, ⟨gl, go, k⟩, k2, k3⟩ := h1
  obtain ⟨g0, A, B, rfl, a1, ⟨g1, C, D, rfl, c1, ⟨g2, E, G, rfl, e1, rfl, e3⟩, c3⟩, a3⟩ := k
  refine ⟨gl, go, A ++ (C ++ (E ++ F2)), ⟨g0, A, _, rfl, a1, ⟨g1, C, _, rfl, c1, ⟨g2, E, _, rfl, e1, k2, ?_⟩, ?_⟩, ?_⟩, h2, ?_⟩
  · intro b hb hb2; exact k3 b (by simp [hb]) hb2
  · intro b hb hb2
    rcases List.mem_append.1 hb2 with hb2 | hb2
    · exact c3 b hb (by simp [hb2])
    · exact k3 b (by simp [hb]) hb2
  · intro b hb hb2
    rcases List.mem_append.1 hb2 with hb2 | hb2
    · exact a3 b hb (by simp [hb2])
    rcases List.mem_append.1 hb2 with hb2 | hb2
    · exact a3 b hb (by simp [hb2])
    · exact k3 b (by simp [hb]) hb2
  · intro b hb
    refine h3 b ?_
    simp only [List.mem_append] at hb ⊢
    rcases hb with hb | hb | hb | hb <;> simp [hb]
theorem Sep.mkRest {w0 w : World} {r ba n : Nat} {L : List Ed} {f : List Int} {R : List Part} {gl go : Nat} (h : Sep w0 w
  (Blk r [.pointer (some ⟨ba, 0, none⟩), .slice (some ⟨gl, 0, none⟩) (2 * L.length) (2 * L.length), .slice (some ⟨go, 0, none⟩) n n] 174 ::
   Row 2 1 (2 * L.length) (.slice (some ⟨gl, 0, none⟩) (2 * L.length) (2 * L.length)) (i64s (leftL L f)) ::
   Row 2 1 n (.slice (some ⟨go, 0, none⟩) n n) (i64s (overL n L f)) :: R)) : Sep w0 w (RestP r ba n L f :: R) := by
  obtain ⟨F, h1, h2, h3⟩ := h.out
  obtain ⟨g0, A, B, rfl, a1, ⟨g1, C, D, rfl, c1, ⟨g2, E, G, rfl, e1, k2, e3⟩, c3⟩, a3⟩ := h1
  refine ⟨(A ++ (C ++ (E ++ []))) ++ G, ⟨inferInstance, _, G, rfl, ⟨gl, go, ⟨g0, A, _, rfl, a1, ⟨g1, C, _, rfl, c1, ⟨g2, E, _, rfl, e1, rfl, by simp⟩, ?_⟩, ?_⟩⟩, k2, ?_⟩, h2, ?_⟩
  · intro b hb hb2
    simp only [List.append_nil] at hb2
    exact c3 b hb (by simp [hb2])
  · intro b hb hb2
    simp only [List.append_nil, List.mem_append] at hb2
    exact a3 b hb (by rcases hb2 with hb2 | hb2 <;> simp [hb2])
  · intro b hb hb2
    simp only [List.append_nil, List.mem_append] at hb
    rcases hb with hb | hb | hb
    · exact a3 b hb (by simp [hb2])
    · exact c3 b hb (by simp [hb2])
    · exact e3 b hb hb2
  · intro b hb
    refine h3 b ?_
    simp only [List.append_nil, List.mem_append] at hb ⊢
    rcases hb with (hb | hb | hb) | hb <;> simp [hb]
section
variable {w : World} {r ba n : Nat} {L : List Ed} {f : List Int} {F F2 : List Nat}
theorem rarcs_p (h : RestP r ba n L f w F) : Calls Tryz.prog 23 #[.pointer (some ⟨r, 0, none⟩)] w fun e w' => e = .returned (.pointer (some ⟨ba, 0, none⟩)) ∧ w' = w := by
  obtain ⟨gl, go, hr⟩ := h.rd
  have b0 := hr.hb.cell 0 rfl
  have bl := hr.hb.lt
  clear h hr
  go_enter Tryz.func23, Tryz.ntmps23
  go_wp2
  go_ret
  exact ⟨rfl, rfl⟩
theorem rleft_p (h : RestP r ba n L f w F) (hA : ArcP ba n L w F2) (hG : GOk n L) (i : Int) : Calls Tryz.prog 40 #[.pointer (some ⟨r, 0, none⟩), .int .i64 i] w fun e w' => e = .returned (.int .i64 (leftI L f i)) ∧ w' = w := by
  have ca := Lib.hid (rarcs_p h)
  have cl := Lib.hid (alen_p hA)
  have hl := hG.len
  obtain ⟨gl, go, hr⟩ := h.rd
  have b1 := hr.hb.cell 1 rfl
  have bl := hr.hb.lt
  by_cases h0 : i < 0
  · have e : leftI L f i = 0 := by unfold leftI; rw [if_neg (by omega)]
    rw [e]
    clear e hr h hA hG
    go_enter Tryz.func40, Tryz.ntmps40
    go_wp2_with fail
    go_ret
    exact ⟨rfl, rfl⟩
  obtain ⟨k, rfl⟩ := Int.eq_ofNat_of_zero_le (show 0 ≤ i by omega)
  obtain ⟨m, hm⟩ : ∃ m, 2 * L.length = m := ⟨_, rfl⟩
  by_cases h1 : k < m
  · have e : leftI L f (k : Int) = leftE L f k := by unfold leftI; rw [if_pos (by omega), Int.toNat_natCast]
    rw [e]
    have c0 : w.cell? ⟨gl, k, none⟩ = some (.int .i64 (leftE L f k)) := by
      have := hr.left.cellAt k (by omega)
      rw [i64s_got (leftL_get (by omega))] at this
      exact this
    have gll := own_lt hr.left (g := gl) rfl
    rw [hm] at cl b1
    have hk1 : (k : Int) < m := by omega
    generalize leftE L f k = z at *
    clear e hr h hA hG hm
    go_enter Tryz.func40, Tryz.ntmps40
    go_wp2_with (first
      | (go_at_call 23; refine ca.out.mono ?_; rintro e w1 ⟨rfl, hw1⟩; subst w1)
      | (go_at_call 24; refine cl.out.mono ?_; rintro e w1 ⟨rfl, hw1⟩; subst w1))
    go_ret
    exact ⟨rfl, rfl⟩
  · have e : leftI L f (k : Int) = 0 := by unfold leftI; rw [if_neg (by omega)]
    rw [e]
    rw [hm] at cl b1
    have hk1 : ¬ (k : Int) < m := by omega
    have t1 : decide ((m : Int) ≤ (k : Int)) = true := by simp; omega
    clear e hr h hA hG hm
    go_enter Tryz.func40, Tryz.ntmps40
    go_wp2_with (first
      | (go_at_call 23; refine ca.out.mono ?_; rintro e w1 ⟨rfl, hw1⟩; subst w1)
      | (go_at_call 24; refine cl.out.mono ?_; rintro e w1 ⟨rfl, hw1⟩; subst w1))
    go_ret
    exact ⟨rfl, rfl⟩
theorem rexc_p (h : RestP r ba n L f w F) (hA : ArcP ba n L w F2) (hG : GOk n L) (v : Int) : Calls Tryz.prog 74 #[.pointer (some ⟨r, 0, none⟩), .int .i64 v] w fun e w' => e = .returned (.int .i64 (exc L f v)) ∧ w' = w := by
  have ca := Lib.hid (rarcs_p h)
  have cn := Lib.hid (an_p hA hG)
  have hl := hG.le
  obtain ⟨gl, go, hr⟩ := h.rd
  have b2 := hr.hb.cell 2 rfl
  have bl := hr.hb.lt
  by_cases h0 : v < 0
  · rw [exc_I hG (.inl h0)]
    clear hr h hA hG
    go_enter Tryz.func74, Tryz.ntmps74
    go_wp2_with fail
    go_ret
    exact ⟨rfl, rfl⟩
  obtain ⟨k, rfl⟩ := Int.eq_ofNat_of_zero_le (show 0 ≤ v by omega)
  by_cases h1 : k < n
  · have c0 : w.cell? ⟨go, k, none⟩ = some (.int .i64 (exc L f (k : Int))) := by
      have := hr.over.cellAt k (by omega)
      rw [i64s_got (overL_get h1)] at this
      exact this
    have gll := own_lt hr.over (g := go) rfl
    have hk1 : (k : Int) < n := by omega
    generalize exc L f (k : Int) = z at *
    clear hr h hA hG
    go_enter Tryz.func74, Tryz.ntmps74
    go_wp2_with (first
      | (go_at_call 23; refine ca.out.mono ?_; rintro e w1 ⟨rfl, hw1⟩; subst w1)
      | (go_at_call 105; refine cn.out.mono ?_; rintro e w1 ⟨rfl, hw1⟩; subst w1))
    go_ret
    exact ⟨rfl, rfl⟩
  · rw [exc_I hG (.inr (by omega))]
    have hk1 : ¬ (k : Int) < n := by omega
    have t1 : decide ((n : Int) ≤ (k : Int)) = true := by simp; omega
    clear hr h hA hG
    go_enter Tryz.func74, Tryz.ntmps74
    go_wp2_with (first
      | (go_at_call 23; refine ca.out.mono ?_; rintro e w1 ⟨rfl, hw1⟩; subst w1)
      | (go_at_call 105; refine cn.out.mono ?_; rintro e w1 ⟨rfl, hw1⟩; subst w1))
    go_ret
    exact ⟨rfl, rfl⟩
set_option maxHeartbeats 2000000 in
theorem rflow_p (h : RestP r ba n L f w F) (hA : ArcP ba n L w F2) (hG : GOk n L) (hF : FB L f) (i : Int) : Calls Tryz.prog 99 #[.pointer (some ⟨r, 0, none⟩), .int .i64 i] w fun e w' => e = .returned (.int .i64 (flowI L f i)) ∧ Mod [] w w' := by
  have ca := Lib.hid (rarcs_p h)
  have hl := hG.len
  obtain ⟨gl, go, hr⟩ := h.rd
  obtain ⟨N, hN⟩ : ∃ N, L.length = N := ⟨_, rfl⟩
  have cl := alen_p hA
  rw [show ((2 * L.length : Nat) : Int) = 2 * (N : Int) by omega] at cl
  have cl' := Lib.hid cl
  by_cases h0 : i < 0
  · have e : flowI L f i = 0 := by unfold flowI; rw [if_neg (by omega)]
    rw [e]
    clear e hr h hA hG hF cl
    go_enter Tryz.func99, Tryz.ntmps99
    go_wp2_with fail
    go_ret
    exact ⟨rfl, Mod.refl _ _⟩
  obtain ⟨k, rfl⟩ := Int.eq_ofNat_of_zero_le (show 0 ≤ i by omega)
  have td : (2 * (N : Int)) / 2 = (N : Int) := by omega
  by_cases h1 : k < N
  · have e : flowI L f (k : Int) = f.getD k 0 := by unfold flowI; rw [if_pos (by omega), Int.toNat_natCast]
    rw [e]
    have b0 := hr.hb.cell 0 rfl
    have b1 := hr.hb.cell 1 rfl
    have bl := hr.hb.lt
    have c0 : w.cell? ⟨gl, 2 * k, none⟩ = some (.int .i64 (leftE L f (2 * k))) := by
      have := hr.left.cellAt (2 * k) (by omega)
      rw [i64s_got (leftL_get (by omega))] at this
      exact this
    have gll := own_lt hr.left (g := gl) rfl
    have hz := leftE_in hG hF (i := 2 * k) (by omega)
    have hc := capE_le hG (2 * k)
    have hcap := Lib.hid (fun W (m : Mod [] w W) => acap_p (Good.keep hA m (by simp)) hG (2 * (k : Int)))
    have ec : capI L (2 * (k : Int)) = capE L (2 * k) := by unfold capI; rw [if_neg (by omega)]; congr 1
    rw [ec] at hcap
    have ef : f.getD k 0 = capE L (2 * k) - leftE L f (2 * k) := by
      rw [leftE_even (by omega), show 2 * k / 2 = k by omega]; omega
    rw [ef]
    have hk1 : (k : Int) < N := by omega
    have hk2 : 2 * (k : Int) < 2 * (L.length : Int) := by omega
    have hk3 : 2 * k < 2 * L.length := by omega
    have b0' : ∀ m : Fut (Mod []) w.drew, m.v.cell? ⟨r, 0, none⟩ = some (.pointer (some ⟨ba, 0, none⟩)) := fun m => (hr.hb.keep ((Mod.refl [] w).drew.trans m.of (by simp)) (by simp)).cell 0 rfl
    have b1' : ∀ m : Fut (Mod []) w.drew, m.v.cell? ⟨r, 1, none⟩ = some (.slice (some ⟨gl, 0, none⟩) (2 * L.length) (2 * L.length)) := fun m => (hr.hb.keep ((Mod.refl [] w).drew.trans m.of (by simp)) (by simp)).cell 1 rfl
    have c0' : ∀ m : Fut (Mod []) w.drew, m.v.cell? ⟨gl, 2 * k, none⟩ = some (.int .i64 (leftE L f (2 * k))) := fun m => by
      have := (own_keep hr.left ((Mod.refl [] w).drew.trans m.of (by simp)) (by simp)).cellAt (2 * k) (by omega)
      rw [i64s_got (leftL_get (by omega))] at this
      exact this
    generalize leftE L f (2 * k) = z at *
    generalize capE L (2 * k) = c at *
    clear e hr h hA hG hF cl ec ef h1
    go_enter Tryz.func99, Tryz.ntmps99
    go_upto_region 3 with (first
      | (go_at_call 23; refine ca.out.mono ?_; rintro e w1 ⟨rfl, hw1⟩; subst w1)
      | (go_at_call 24; refine cl'.out.mono ?_; rintro e w1 ⟨rfl, hw1⟩; subst w1))
    refine region_sched (G := Mod []) [([0,1,2,3,4,5,7,8,9,10,11,12,13,14],6)] [15,16] (by kernel_rfl) (by kernel_rfl) (by kernel_rfl) rfl (Mod.refl _) (fun _ _ _ h1 h2 => h1.trans h2 (by simp)) ?_
    simp only [stages, pickO, nthO, headO, List.append_eq, List.cons_append, List.nil_append]
    refine sched_step ?_
    repeat (go_big_quiet_step (fail))
    refine wpQuiet_nil ?_
    intro K hK
    rw [if_pos (by rfl)]
    go_simp
    refine (hcap.out _ (Mod.refl [] w).drew).mono ?_
    rintro e w2 ⟨rfl, hw2⟩
    subst w2
    try dsimp only
    refine hK.out _ _ (Mod.refl _ _) ?_
    clear hK K
    refine sched_last ?_
    repeat (go_big_quiet_step (fail))
    refine wpQuiet_nil ?_
    go_wp2_with fail
    go_ret
    exact ⟨rfl, (Mod.refl [] w).drew⟩
  · have e : flowI L f (k : Int) = 0 := by unfold flowI; rw [if_neg (by omega)]
    rw [e]
    have hk1 : ¬ (k : Int) < N := by omega
    have t1 : decide ((N : Int) ≤ (k : Int)) = true := by simp; omega
    clear e hr h hA hG hF cl h1
    go_enter Tryz.func99, Tryz.ntmps99
    go_wp2_with (first
      | (go_at_call 23; refine ca.out.mono ?_; rintro e w1 ⟨rfl, hw1⟩; subst w1)
      | (go_at_call 24; refine cl'.out.mono ?_; rintro e w1 ⟨rfl, hw1⟩; subst w1))
    go_ret
    exact ⟨rfl, Mod.refl _ _⟩
end
end Edge
end Go.Proofs.YtjpfmkfikidgkaaGreat

set_option linter.unusedVariables false
set_option linter.unusedSimpArgs false
namespace Go.Proofs.YtjpfmkfikidgkaaGreat
open Go.RowKit
namespace Edge
theorem mayP_no {L : List Ed} {f : List Int} {i x : Int} (h : ¬ ((0 ≤ i ∧ i < 2 * L.length) ∧ 0 ≤ x ∧ x ≤ leftE L f i.toNat)) : mayP L f i x = false ∧ pushI L f i x = f := by
  have e : mayP L f i x = false := by unfold mayP; rw [decide_eq_false_iff_not]; exact h
  exact ⟨e, by unfold pushI; rw [e]; rfl⟩
theorem mayP_yes {L : List Ed} {f : List Int} {k : Nat} {x : Int} (h1 : k < 2 * L.length) (h2 : 0 ≤ x) (h3 : x ≤ leftE L f k) : mayP L f (k : Int) x = true ∧ pushI L f (k : Int) x = pushF f k x := by
  have e : mayP L f (k : Int) x = true := by unfold mayP; rw [decide_eq_true_eq, Int.toNat_natCast]; exact ⟨by omega, h2, h3⟩
  exact ⟨e, by unfold pushI; rw [e, if_pos rfl, Int.toNat_natCast]⟩
set_option maxRecDepth 100000 in
set_option maxHeartbeats 8000000 in
theorem rpush_sep {w0 w : World} {r ba n : Nat} {L : List Ed} {f : List Int} {R : List Part} (hS : Sep w0 w (RestP r ba n L f :: ArcP ba n L :: R)) (hG : GOk n L) (hF : FB L f) (i x : Int) :
    Calls Tryz.prog 22 #[.pointer (some ⟨r, 0, none⟩), .int .i64 i, .int .i64 x] w fun e w' => e = .returned (.bool (mayP L f i x)) ∧ Sep w0 w' (RestP r ba n L (pushI L f i x) :: ArcP ba n L :: R) := by
  obtain ⟨Fr, hPr, _⟩ := hS.first
  obtain ⟨Fa, hPa, _⟩ := hS.tail.first
  have ca := Lib.hid (rarcs_p hPr)
  have cl := alen_p hPa
  have hl := hG.len
  obtain ⟨m, hm⟩ : ∃ m, 2 * L.length = m := ⟨_, rfl⟩
  rw [hm] at cl
  have cl' := Lib.hid cl
  have hS' := Lib.hid hS
  by_cases h0 : i < 0
  · obtain ⟨e1, e2⟩ := mayP_no (L := L) (f := f) (i := i) (x := x) (by omega)
    rw [e1, e2]
    clear hS hPr hPa cl e1 e2 hG hF hm
    go_enter Tryz.func22, Tryz.ntmps22
    go_wp2_with fail
    go_ret
    exact ⟨rfl, hS'.out⟩
  obtain ⟨k, rfl⟩ := Int.eq_ofNat_of_zero_le (show 0 ≤ i by omega)
  by_cases h1 : k < m
  case neg =>
    obtain ⟨e1, e2⟩ := mayP_no (L := L) (f := f) (i := (k : Int)) (x := x) (by omega)
    rw [e1, e2]
    have hk1 : ¬ (k : Int) < m := by omega
    have t1 : decide ((m : Int) ≤ (k : Int)) = true := by simp; omega
    clear hS hPr hPa cl e1 e2 hG hF hm
    go_enter Tryz.func22, Tryz.ntmps22
    go_wp2_with (first
      | (go_at_call 23; refine ca.out.mono ?_; rintro e w1 ⟨rfl, hw1⟩; subst w1)
      | (go_at_call 24; refine cl'.out.mono ?_; rintro e w1 ⟨rfl, hw1⟩; subst w1))
    go_ret
    exact ⟨rfl, hS'.out⟩
  have hk1 : (k : Int) < m := by omega
  by_cases h2 : x < 0
  · obtain ⟨e1, e2⟩ := mayP_no (L := L) (f := f) (i := (k : Int)) (x := x) (by omega)
    rw [e1, e2]
    clear hS hPr hPa cl e1 e2 hG hF hm h1
    go_enter Tryz.func22, Tryz.ntmps22
    go_wp2_with (first
      | (go_at_call 23; refine ca.out.mono ?_; rintro e w1 ⟨rfl, hw1⟩; subst w1)
      | (go_at_call 24; refine cl'.out.mono ?_; rintro e w1 ⟨rfl, hw1⟩; subst w1))
    go_ret
    exact ⟨rfl, hS'.out⟩
  obtain ⟨gl, go, hR⟩ := Sep.rest hS
  have r1 := (hR.blkAt 0 rfl).cell 1 rfl
  have rl := (hR.blkAt 0 rfl).lt
  have gll := own_lt (hR.rowAt 1 rfl) (g := gl) rfl
  have c0 : w.cell? ⟨gl, k, none⟩ = some (.int .i64 (leftE L f k)) := by
    have := (hR.rowAt 1 rfl).cellAt k (by omega)
    rw [i64s_got (leftL_get (by omega))] at this
    exact this
  by_cases h3 : leftE L f k < x
  · obtain ⟨e1, e2⟩ := mayP_no (L := L) (f := f) (i := (k : Int)) (x := x) (by rw [Int.toNat_natCast]; omega)
    rw [e1, e2]
    rw [hm] at r1
    generalize leftE L f k = z at *
    clear hS hPr hPa cl e1 e2 hG hF hm h1 hR
    go_enter Tryz.func22, Tryz.ntmps22
    go_wp2_with (first
      | (go_at_call 23; refine ca.out.mono ?_; rintro e w1 ⟨rfl, hw1⟩; subst w1)
      | (go_at_call 24; refine cl'.out.mono ?_; rintro e w1 ⟨rfl, hw1⟩; subst w1))
    go_ret
    exact ⟨rfl, hS'.out⟩
  obtain ⟨e1, e2⟩ := mayP_yes (L := L) (f := f) (k := k) (x := x) (by omega) (by omega) (by omega)
  rw [e1, e2]
  clear e1 e2
  have hkL : k < 2 * L.length := by omega
  have hbL := back_lt.2 hkL
  have hz := leftE_in hG hF hkL
  have hzb := leftE_in hG hF hbL
  obtain ⟨t, ht⟩ : ∃ t : Nat, tailE L k = (t : Int) := ⟨(tailE L k).toNat, by have := tail_in hG hkL; omega⟩
  obtain ⟨hd, hh⟩ : ∃ t : Nat, headE L k = (t : Int) := ⟨(headE L k).toNat, by have := head_in hG hkL; omega⟩
  have htn : t < n := by have := tail_in hG hkL; omega
  have hhn : hd < n := by have := head_in hG hkL; omega
  have hth : t ≠ hd := by have := tail_ne_head hG hkL; omega
  have hxt := exc_in hF (fun e he => by have := hG.ends e he; omega) (t : Int)
  have hxh := exc_in hF (fun e he => by have := hG.ends e he; omega) (hd : Int)
  have htot := hG.tot
  have hlp := Lib.hid (leftL_push (L := L) (f := f) hF.len hkL x)
  have hop := Lib.hid (overL_push (n := n) hG hF.len hkL ht hh x)
  have hbk := Lib.hid (back_any (k : Int) (by omega) w)
  rw [show backI (k : Int) = ((back k : Nat) : Int) by unfold backI; rw [if_neg (by omega), Int.toNat_natCast]] at hbk
  have hbne : back k ≠ k := by unfold back; split <;> omega
  have hct := Lib.hid (fun W F (h : ArcP ba n L W F) => atail_p h hG (k : Int) (by omega))
  have hch := Lib.hid (fun W F (h : ArcP ba n L W F) => ahead_p h hG (k : Int))
  rw [show tailI L (k : Int) = (t : Int) by unfold tailI; rw [if_neg (by omega), Int.toNat_natCast, ht]] at hct
  rw [show headI L (k : Int) = (hd : Int) by unfold headI; rw [if_neg (by omega), Int.toNat_natCast, hh]] at hch
  have hge : ∀ j, (leftL L f)[j]? = some (leftE L f j) ∨ 2 * L.length ≤ j := fun j => by
    by_cases hj : j < 2 * L.length
    · exact .inl (leftL_get hj)
    · exact .inr (by omega)
  rw [hm] at r1
  -- the left of the arc
  have hS1 := Lib.hid (hR.rowsetAt 1 rfl k (.int .i64 (leftE L f k - x)))
  have f0 := (hR.rowAt 1 rfl).frozenAt k
  have hb1 : (leftL L f)[back k]? = some (leftE L f (back k)) := leftL_get hbL
  have ho1 : (overL n L f)[t]? = some (exc L f (t : Int)) := overL_get htn
  have ho2 : (overL n L f)[hd]? = some (exc L f (hd : Int)) := overL_get hhn
  have hbm : (back k : Int) < m := by omega
  have hbm2 : back k < 2 * L.length := hbL
  obtain ⟨lf, hlf⟩ : ∃ lf, leftL L f = lf := ⟨_, rfl⟩
  obtain ⟨ov, hov⟩ : ∃ ov, overL n L f = ov := ⟨_, rfl⟩
  have hlfl : lf.length = m := by rw [← hlf, leftL_len, hm]
  have hovl : ov.length = n := by rw [← hov, overL_len]
  rw [hlf] at hS1 hlp hb1
  rw [hov] at hS1 hop ho1 ho2
  rw [hm] at hS1
  have hm' := Lib.hid hm
  have hbk2 := Lib.hid hbne
  have hth' := Lib.hid hth
  generalize back k = bk at *
  generalize leftE L f k = z at *
  generalize leftE L f bk = zb at *
  generalize exc L f (t : Int) = xt at *
  generalize exc L f (hd : Int) = xh at *
  generalize total L = tot at *
  have hb1' := Lib.hid hb1
  have ho1' := Lib.hid ho1
  have ho2' := Lib.hid ho2
  have hth1 : (t : Int) < n := by omega
  have hhh1 : (hd : Int) < n := by omega
  clear hS hPr hPa cl hG hF hm h1 hR hge ht hh hlf hov hkL hbL hb1 ho1 ho2 hbne hth hbm2 hS'
  go_enter Tryz.func22, Tryz.ntmps22
  go_upto_region 5 with (first
    | (go_at_call 23; refine ca.out.mono ?_; rintro e w1 ⟨rfl, hw1⟩; subst w1)
    | (go_at_call 24; refine cl'.out.mono ?_; rintro e w1 ⟨rfl, hw1⟩; subst w1)
    | (go_at_call 113; refine hbk.out.mono ?_; rintro e w1 ⟨rfl, hw1⟩; subst w1))
  generalize w.setCell ⟨gl, k, none⟩ (.int .i64 (z - x)) = W1 at *
  clear r1 rl gll c0 f0 ca cl' hbk
  have r1 := (hS1.out.blkAt 0 rfl).cell 1 rfl
  have rl := (hS1.out.blkAt 0 rfl).lt
  have gll := own_lt (hS1.out.rowAt 1 rfl) (g := gl) rfl
  have f0 := (hS1.out.rowAt 1 rfl).frozenAt bk
  have c0 : W1.cell? ⟨gl, bk, none⟩ = some (.int .i64 zb) := by
    have := (hS1.out.rowAt 1 rfl).cellAt bk (by omega)
    rw [i64s_set, i64s_got (x := zb) (by rw [List.getElem?_set_ne (fun e => hbk2.out e.symm)]; exact hb1'.out)] at this
    exact this
  have hS2 := Lib.hid (hS1.out.rowsetAt 1 rfl bk (.int .i64 (zb + x)))
  clear hS1
  go_upto_region 6 with fail
  generalize W1.setCell ⟨gl, bk, none⟩ (.int .i64 (zb + x)) = W2 at *
  clear r1 rl gll c0 f0
  rw [i64s_set, i64s_set, hlp.out] at hS2
  -- what stays at the tail
  have rl := (hS2.out.blkAt 0 rfl).lt
  have n1 : r ≠ go := fun e => hS2.out.blkrow 0 2 (by omega) rfl rfl (by rw [e]; rfl)
  have hrb := Lib.hid (hS2.out.blkAt 0 rfl)
  have hn1 := Lib.hid n1
  have g0 : ∀ m : Fut (Mod [go]) W2.drew, m.v.cell? ⟨r, 0, none⟩ = some (.pointer (some ⟨ba, 0, none⟩)) := fun m => (hrb.out.drew.keep m.of (by simpa using hn1.out)).cell 0 rfl
  have g2 : ∀ m : Fut (Mod [go]) W2.drew, m.v.cell? ⟨r, 2, none⟩ = some (.slice (some ⟨go, 0, none⟩) n n) := fun m => (hrb.out.drew.keep m.of (by simpa using hn1.out)).cell 2 rfl
  obtain ⟨Fa, hPa, _⟩ := (hS2.out.still (Mod.refl [] W2).drew |>.get 3 rfl).first
  have ct := Lib.hid (hct.out _ _ hPa)
  have c0 : W2.drew.cell? ⟨go, t, none⟩ = some (.int .i64 xt) := by
    have := (hS2.out.rowAt 2 rfl).cellAt t (by omega)
    rw [i64s_got ho1'.out] at this
    exact this
  have f0 : W2.drew.frozen? ⟨go, t, none⟩ = false := (hS2.out.rowAt 2 rfl).frozenAt t
  have gol : go < W2.drew.heap.size := own_lt (hS2.out.rowAt 2 rfl) (g := go) rfl
  have hS3 := Lib.hid ((hS2.out.rowsetAt 2 rfl t (.int .i64 (xt - x))).still (Mod.refl [] _).drew)
  clear hPa hS2 n1 hrb
  refine region_sched (G := Mod [go]) [([0,1,2,3,4,5,6,7,8,12],9), ([10],11), ([13,14],15)] [] (by kernel_rfl) (by kernel_rfl) (by kernel_rfl) rfl (Mod.refl _) (fun _ _ _ h1 h2 => h1.trans h2 (fun b hb _ => hb)) ?_
  simp only [stages, pickO, nthO, headO, List.append_eq, List.cons_append, List.nil_append]
  refine sched_step ?_
  repeat (go_big_quiet_step (fail))
  refine wpQuiet_nil ?_
  intro K hK
  rw [if_pos (by rfl)]
  go_simp
  refine ct.out.mono ?_
  rintro e w5 ⟨rfl, hw5⟩
  subst w5
  try dsimp only
  refine hK.out _ _ (Mod.refl _ _) ?_
  clear hK K ct g0 g2
  refine sched_step ?_
  repeat (go_big_quiet_step (fail))
  refine wpQuiet_nil ?_
  intro K hK
  rw [if_pos (by rfl)]
  go_simp
  refine hK.out _ _ (Mod.refl _ _) ?_
  clear hK K
  refine sched_step ?_
  repeat (go_big_quiet_step (fail))
  refine wpQuiet_nil ?_
  intro K hK
  rw [if_pos (by rfl)]
  go_simp
  refine hK.out _ _ ((Mod.refl _ _).setCell _ _ (fun _ => by simp)) ?_
  clear hK K c0 f0 gol rl
  refine sched_last ?_
  refine wpQuiet_nil ?_
  go_upto_region 7 with fail
  generalize (W2.setCell ⟨go, t, none⟩ (.int .i64 (xt - x))).drew = W3 at *
  -- what stays at the head
  have rl := (hS3.out.blkAt 0 rfl).lt
  have hrb := Lib.hid (hS3.out.blkAt 0 rfl)
  have g0 : ∀ m : Fut (Mod [go]) W3.drew, m.v.cell? ⟨r, 0, none⟩ = some (.pointer (some ⟨ba, 0, none⟩)) := fun m => (hrb.out.drew.keep m.of (by simpa using hn1.out)).cell 0 rfl
  have g2 : ∀ m : Fut (Mod [go]) W3.drew, m.v.cell? ⟨r, 2, none⟩ = some (.slice (some ⟨go, 0, none⟩) n n) := fun m => (hrb.out.drew.keep m.of (by simpa using hn1.out)).cell 2 rfl
  obtain ⟨Fa, hPa, _⟩ := (hS3.out.still (Mod.refl [] W3).drew |>.get 3 rfl).first
  have ch := Lib.hid (hch.out _ _ hPa)
  have c0 : W3.drew.cell? ⟨go, hd, none⟩ = some (.int .i64 xh) := by
    have := (hS3.out.rowAt 2 rfl).cellAt hd (by omega)
    rw [i64s_set, i64s_got (x := xh) (by rw [List.getElem?_set_ne hth'.out]; exact ho2'.out)] at this
    exact this
  have f0 : W3.drew.frozen? ⟨go, hd, none⟩ = false := (hS3.out.rowAt 2 rfl).frozenAt hd
  have gol : go < W3.drew.heap.size := own_lt (hS3.out.rowAt 2 rfl) (g := go) rfl
  have hS4 := Lib.hid ((hS3.out.rowsetAt 2 rfl hd (.int .i64 (xh + x))).still (Mod.refl [] _).drew)
  rw [i64s_set, i64s_set, hop.out] at hS4
  clear hPa hS3 hrb
  refine region_sched (G := Mod [go]) [([0,1,2,3,4,5,6,7,8,12],9), ([10],11), ([13,14],15)] [] (by kernel_rfl) (by kernel_rfl) (by kernel_rfl) rfl (Mod.refl _) (fun _ _ _ h1 h2 => h1.trans h2 (fun b hb _ => hb)) ?_
  simp only [stages, pickO, nthO, headO, List.append_eq, List.cons_append, List.nil_append]
  refine sched_step ?_
  repeat (go_big_quiet_step (fail))
  refine wpQuiet_nil ?_
  intro K hK
  rw [if_pos (by rfl)]
  go_simp
  refine ch.out.mono ?_
  rintro e w5 ⟨rfl, hw5⟩
  subst w5
  try dsimp only
  refine hK.out _ _ (Mod.refl _ _) ?_
  clear hK K ch g0 g2
  refine sched_step ?_
  repeat (go_big_quiet_step (fail))
  refine wpQuiet_nil ?_
  intro K hK
  rw [if_pos (by rfl)]
  go_simp
  refine hK.out _ _ (Mod.refl _ _) ?_
  clear hK K
  refine sched_step ?_
  repeat (go_big_quiet_step (fail))
  refine wpQuiet_nil ?_
  intro K hK
  rw [if_pos (by rfl)]
  go_simp
  refine hK.out _ _ ((Mod.refl _ _).setCell _ _ (fun _ => by simp)) ?_
  clear hK K c0 f0 gol rl
  refine sched_last ?_
  refine wpQuiet_nil ?_
  go_wp2_with fail
  go_ret
  refine ⟨rfl, Sep.mkRest (gl := gl) (go := go) ?_⟩
  rw [hm'.out]
  exact hS4.out
end Edge
end Go.Proofs.YtjpfmkfikidgkaaGreat

set_option linter.unusedVariables false
set_option linter.unusedSimpArgs false
namespace Go.Proofs.YtjpfmkfikidgkaaGreat
open Go.RowKit
namespace Edge
theorem infoI64b : (Tryz.prog.info? 2).map (fun i => (i.zero, i.size, i.bytes)) = some (some (.int .i64 0), 1, 8) := by kernel_rfl
/-- The flows so far. -/
def partF (f : List Int) (N k : Nat) : List Int := (List.range N).map fun j => if j < k then f.getD j 0 else 0
theorem partF_len (f : List Int) (N k : Nat) : (partF f N k).length = N := by simp [partF]
theorem partF_zero (f : List Int) (N : Nat) : partF f N 0 = List.replicate N 0 := by
  apply List.eq_replicate_iff.2 ⟨partF_len _ _ _, ?_⟩
  intro x hx
  simp only [partF, List.mem_map] at hx
  obtain ⟨v, _, rfl⟩ := hx
  rw [if_neg (by omega)]
theorem partF_step {f : List Int} {N k : Nat} : (partF f N k).set k (f.getD k 0) = partF f N (k + 1) := by
  apply List.ext_getElem
  · simp [partF]
  intro i g1 g2
  simp only [partF, List.getElem_set, List.getElem_map, List.getElem_range]
  by_cases c : k = i
  · subst c; rw [if_pos rfl, if_pos (by omega)]
  · rw [if_neg c]
    by_cases h : i < k
    · rw [if_pos h, if_pos (by omega)]
    · rw [if_neg h, if_neg (by omega)]
theorem partF_all {f : List Int} {N : Nat} (h : f.length = N) : partF f N N = f := by
  apply List.ext_getElem
  · rw [partF_len, h]
  intro i g1 g2
  simp only [partF, List.getElem_map, List.getElem_range]
  rw [if_pos (by omega), List.getD_eq_getElem?_getD, List.getElem?_eq_getElem g2]; rfl
set_option maxRecDepth 100000 in
set_option maxHeartbeats 2000000 in
theorem rflows_p {w : World} {r ba n : Nat} {L : List Ed} {f : List Int} {F F2 : List Nat} (h : RestP r ba n L f w F) (hA : ArcP ba n L w F2) (hG : GOk n L) (hF : FB L f) :
    Calls Tryz.prog 80 #[.pointer (some ⟨r, 0, none⟩)] w fun e w' => ∃ a c, e = .returned (.slice a f.length c) ∧ Made w w' 2 1 a f.length c (i64s f) := by
  have hl := hG.len
  have hfl := hF.len
  obtain ⟨N, hN⟩ : ∃ N, L.length = N := ⟨_, rfl⟩
  have ca := Lib.hid (rarcs_p h)
  have cl := alen_p hA
  rw [show ((2 * L.length : Nat) : Int) = 2 * (N : Int) by omega] at cl
  have cl' := Lib.hid cl
  have hfw := fun W (m : Mod [] w W) (k : Nat) => rflow_p (Good.keep h m (by simp)) (Good.keep hA m (by simp)) hG hF (k : Int)
  have hfw' : Hid (∀ W (m : Mod [] w W) (k : Nat), k < N → Calls Tryz.prog 99 #[.pointer (some ⟨r, 0, none⟩), .int .i64 (k : Int)] W fun e w' => e = .returned (.int .i64 (f.getD k 0)) ∧ Mod [] W w') := Lib.hid (fun W m k hk => by
    have := hfw W m k
    rw [show flowI L f (k : Int) = f.getD k 0 by unfold flowI; rw [if_pos (by omega), Int.toNat_natCast]] at this
    exact this)
  have td : (2 * (N : Int)) / 2 = (N : Int) := by omega
  have hmk := make_run (P := Tryz.prog) 33 2 (.int .i64 0) 8 Tryz.underlying33 infoI64b rfl (by omega) N (by omega)
  have hst : Hid (Sep w (w.alloc (.cells (madeCells #[.int .i64 0] N) 2)) [Row 2 1 N (.slice (some ⟨w.heap.size, 0, none⟩) N N) (i64s (partF f N 0))]) := Lib.hid (by
    have h5 := (Sep.empty w).made (made_made w 2 (.int .i64 0) N (by omega))
    rw [partF_zero]
    have e : i64s (List.replicate N 0) = List.replicate N (.int .i64 0) := by simp [i64s]
    rw [e]
    exact h5)
  have hNl : N ≤ 1048576 := by omega
  have hfn : f.length = N := by omega
  have hfn' := Lib.hid hfn
  rw [hfn]
  clear h hA hG hF cl hfw hfl hN hfn
  go_enter Tryz.func80, Tryz.ntmps80
  go_wp2_with (first
    | (go_at_call 23; refine ca.out.mono ?_; rintro e w1 ⟨rfl, hw1⟩; subst w1)
    | (go_at_call 24; refine cl'.out.mono ?_; rintro e w1 ⟨rfl, hw1⟩; subst w1))
  generalize w.alloc (.cells (madeCells #[.int .i64 0] N) 2) = w1 at *
  generalize w.heap.size = g at *
  go_loopw [12] (fun i wr => ∃ k : Nat, k ≤ N ∧ i = .int .i64 k ∧ Hid (Sep w wr [Row 2 1 N (.slice (some ⟨g, 0, none⟩) N N) (i64s (partF f N k))])) (fun i _ => N - (intOf i).toNat)
  case atStart => exact ⟨0, Nat.zero_le _, rfl, hst⟩
  case round =>
    clear hst
    obtain ⟨k, hk, rfl, hS⟩ := hrel
    by_cases hlt : k < N
    · have hlt1 : (k : Int) < N := by omega
      have cf := Lib.hid (hfw'.out wr hS.out.mod k hlt)
      have hps := Lib.hid (partF_step (f := f) (N := N) (k := k))
      generalize f.getD k 0 = y at *
      go_wp2_with fail
      refine cf.out.mono ?_
      rintro e w2 ⟨rfl, hm2⟩
      have hS2 := Lib.hid (hS.out.still hm2)
      have gz := (hS2.out.rowAt 0 rfl).frozenAt k
      have gl := own_lt (hS2.out.rowAt 0 rfl) (g := g) rfl
      obtain ⟨u, gc⟩ : ∃ u, w2.cell? ⟨g, k, none⟩ = some u := by
        have h1 := (hS2.out.rowAt 0 rfl).cellAt k (by omega)
        have h2 := (hS2.out.rowAt 0 rfl).1
        rw [List.getElem?_eq_getElem (by omega)] at h1
        exact ⟨_, h1⟩
      have hS3 := Lib.hid (hS2.out.rowsetAt 0 rfl k (.int .i64 y))
      rw [i64s_set, hps.out] at hS3
      clear hm2 hS hS2
      try dsimp only
      go_wp2_with fail
      go_roundw
      case rel => exact ⟨k + 1, by omega, by go_num, hS3⟩
      case measure => simp [intOf]; omega
    · have hkN : k = N := by omega
      have hfin : Hid (Made w wr 2 1 (some ⟨g, 0, none⟩) N N (i64s f)) := Lib.hid (by
        have h5 := hS.out
        rw [hkN, partF_all hfn'.out] at h5
        exact h5.toMade)
      clear hS hk hkN
      go_wp2_with fail
      go_ret
      exact ⟨_, _, rfl, hfin.out⟩
/-! Of nil there is nothing. -/
theorem rarcs_nil (w : World) : Calls Tryz.prog 23 #[.pointer none] w fun e w' => e = .returned (.pointer none) ∧ w' = w := by
  go_enter Tryz.func23, Tryz.ntmps23
  go_wp2
  go_ret
  exact ⟨rfl, rfl⟩
theorem rleft_nil (w : World) : Calls Tryz.prog 40 #[.pointer none, .int .i64 0] w fun e w' => e = .returned (.int .i64 0) ∧ w' = w := by
  go_enter Tryz.func40, Tryz.ntmps40
  go_wp2_with (first
    | (go_at_call 23; refine (rarcs_nil _).mono ?_; rintro e w1 ⟨rfl, rfl⟩)
    | (go_at_call 24; refine (alen_nil _).mono ?_; rintro e w1 ⟨rfl, rfl⟩))
  go_ret
  exact ⟨rfl, rfl⟩
theorem rpush_nil (w : World) : Calls Tryz.prog 22 #[.pointer none, .int .i64 0, .int .i64 0] w fun e w' => e = .returned (.bool false) ∧ w' = w := by
  go_enter Tryz.func22, Tryz.ntmps22
  go_wp2_with (first
    | (go_at_call 23; refine (rarcs_nil _).mono ?_; rintro e w1 ⟨rfl, rfl⟩)
    | (go_at_call 24; refine (alen_nil _).mono ?_; rintro e w1 ⟨rfl, rfl⟩))
  go_ret
  exact ⟨rfl, rfl⟩
theorem rflow_nil (w : World) : Calls Tryz.prog 99 #[.pointer none, .int .i64 0] w fun e w' => e = .returned (.int .i64 0) ∧ w' = w := by
  go_enter Tryz.func99, Tryz.ntmps99
  go_wp2_with (first
    | (go_at_call 23; refine (rarcs_nil _).mono ?_; rintro e w1 ⟨rfl, rfl⟩)
    | (go_at_call 24; refine (alen_nil _).mono ?_; rintro e w1 ⟨rfl, rfl⟩))
  go_ret
  exact ⟨rfl, rfl⟩
theorem rexc_nil (w : World) : Calls Tryz.prog 74 #[.pointer none, .int .i64 0] w fun e w' => e = .returned (.int .i64 0) ∧ w' = w := by
  go_enter Tryz.func74, Tryz.ntmps74
  go_wp2_with (first
    | (go_at_call 23; refine (rarcs_nil _).mono ?_; rintro e w1 ⟨rfl, rfl⟩)
    | (go_at_call 105; refine (an_nil _).mono ?_; rintro e w1 ⟨rfl, rfl⟩))
  go_ret
  exact ⟨rfl, rfl⟩
theorem rreach_nil (w : World) : Calls Tryz.prog 110 #[.pointer none, .int .i64 0] w fun e w' => e = .returned (.slice none 0 0) ∧ w' = w := by
  go_enter Tryz.func110, Tryz.ntmps110
  go_wp2_with (first
    | (go_at_call 23; refine (rarcs_nil _).mono ?_; rintro e w1 ⟨rfl, rfl⟩)
    | (go_at_call 105; refine (an_nil _).mono ?_; rintro e w1 ⟨rfl, rfl⟩))
  go_ret
  exact ⟨rfl, rfl⟩
theorem rtwin_nil (w : World) : Calls Tryz.prog 20 #[.pointer none] w fun e w' => e = .returned (.pointer none) ∧ w' = w := by
  go_enter Tryz.func20, Tryz.ntmps20
  go_wp2
  go_ret
  exact ⟨rfl, rfl⟩
set_option maxRecDepth 100000 in
set_option maxHeartbeats 2000000 in
theorem rflows_nil (w : World) : Calls Tryz.prog 80 #[.pointer none] w fun e w' => ∃ a, e = .returned (.slice a 0 0) ∧ Mod [] w w' := by
  have hmk := make_run (P := Tryz.prog) 33 2 (.int .i64 0) 8 Tryz.underlying33 infoI64b rfl (by omega) 0 (by omega)
  have hmod := Lib.hid ((Mod.refl [] w).alloc (.cells (madeCells #[.int .i64 0] 0) 2))
  simp only [Int.natCast_zero, Int.ofNat_zero, Int.cast_ofNat_Int] at hmk
  go_enter Tryz.func80, Tryz.ntmps80
  go_wp2_with (first
    | (go_at_call 23; refine (rarcs_nil _).mono ?_; rintro e w1 ⟨rfl, hw1⟩; subst w1)
    | (go_at_call 24; refine (alen_nil _).mono ?_; rintro e w1 ⟨rfl, hw1⟩; subst w1))
  clear hmk
  generalize w.alloc (.cells (madeCells #[.int .i64 0] 0) 2) = w1 at *
  generalize w.heap.size = g at *
  go_loopw [12] (fun i wr => i = .int .i64 0 ∧ wr = w1) (fun i _ => 0)
  case atStart => exact ⟨rfl, rfl⟩
  case round =>
    obtain ⟨rfl, hw⟩ := hrel
    subst hw
    go_wp2_with fail
    go_ret
    exact ⟨_, rfl, hmod.out⟩
end Edge
end Go.Proofs.YtjpfmkfikidgkaaGreat

set_option linter.unusedVariables false
set_option linter.unusedSimpArgs false
namespace Go.Proofs.YtjpfmkfikidgkaaGreat
open Go.RowKit
namespace Edge
theorem sep_wrap2 {goalP : World → Prop} {W0 V Wx : World} {L : List Part} (h : Sep W0 Wx L) (m : Mod [] V Wx) (hp : ∀ Wg, Sep W0 Wg L → Mod [] V Wg → goalP Wg) : goalP Wx := hp Wx h m
set_option maxRecDepth 100000 in
set_option maxHeartbeats 8000000 in
theorem rnew_res {w0 w : World} {q : Option Addr} {n : Nat} {L : List Ed} {R : List Part} (hG : GOk n L)
    (hC : Calls Tryz.prog 104 #[.pointer q] w fun e w' => ∃ ba, e = .returned (.pointer (some ⟨ba, 0, none⟩)) ∧ Sep w0 w' (ArcP ba n L :: R)) :
    Calls Tryz.prog 16 #[.pointer q] w fun e w' => ∃ r ba, e = .returned (.pointer (some ⟨r, 0, none⟩)) ∧ Sep w0 w' (RestP r ba n L (noF L) :: ArcP ba n L :: R) := by
  have hn4 := hG.le
  have hl := hG.len
  have hG' := Lib.hid hG
  obtain ⟨m, hm⟩ : ∃ m, 2 * L.length = m := ⟨_, rfl⟩
  have hml : m ≤ 2097152 := by omega
  have hm' := Lib.hid hm
  have hC' := Lib.hid hC
  clear hC hG hm
  go_enter Tryz.func16, Tryz.ntmps16
  go_wp2_with fail
  refine hC'.out.mono ?_
  rintro e w1 ⟨ba, rfl, hS⟩
  have cl := Lib.hid (fun W (h : Mod [] w1 W) => alen_sep (hS.still h))
  rw [hm'.out] at cl
  have cn := Lib.hid (fun W (h : Mod [] w1 W) => an_sep (hS.still h) hG'.out)
  have hS1 := Lib.hid (hS.still (Mod.refl [] _).drew)
  clear hS hC'
  try dsimp only
  go_upto_region 2 with fail
  have hmkL := make_run (P := Tryz.prog) 33 2 (.int .i64 0) 8 Tryz.underlying33 infoI64b rfl (by omega) m (by omega)
  have hmkN := make_run (P := Tryz.prog) 33 2 (.int .i64 0) 8 Tryz.underlying33 infoI64b rfl (by omega) n (by omega)
  refine region_head (G := Mod []) [0, 1, 4] #[true, true, false, false, true, false, false, false, false, false] 7 (by kernel_rfl) (by kernel_rfl) (by kernel_rfl) rfl (Mod.refl []) ?_
  simp only [pickO, nthO, List.cons_append, List.nil_append]
  repeat (go_big_quiet_step (fail))
  refine wpQuiet_nil ?_
  refine tail_one 2 (by kernel_rfl) rfl ?_
  intro K hK
  rw [if_pos (by rfl)]
  go_simp
  refine (cl.out _ (Mod.refl [] _).drew).mono ?_
  rintro e w2 ⟨rfl, hw2⟩
  subst w2
  try dsimp only
  refine hK.out _ _ (Mod.refl _ _) ?_
  clear hK K
  have hA := Lib.hid (((hS1.out.made (made_made w1.drew 2 (.int .i64 0) m (by omega))).made (made_made _ 2 (.int .i64 0) n (by omega))).box [.pointer (some ⟨ba, 0, none⟩), .slice (some ⟨w1.heap.size, 0, none⟩) m m, .slice (some ⟨w1.heap.size + 1, 0, none⟩) n n] 174)
  have hB := Lib.hid (((hS1.out.made (made_made w1.drew 2 (.int .i64 0) n (by omega))).made (made_made _ 2 (.int .i64 0) m (by omega))).box [.pointer (some ⟨ba, 0, none⟩), .slice (some ⟨w1.heap.size + 1, 0, none⟩) m m, .slice (some ⟨w1.heap.size, 0, none⟩) n n] 174)
  rw [World.size_alloc, World.size_alloc, show w1.drew.heap.size = w1.heap.size from rfl] at hA
  rw [World.size_alloc, World.size_alloc, show w1.drew.heap.size = w1.heap.size from rfl] at hB
  refine tail_two 3 5 (by kernel_rfl) rfl rfl ?_ ?_
  case' refine_1 =>
    intro K hK
    rw [if_pos (by rfl)]
    go_simp
    refine hK.out _ _ ((Mod.refl _ _).alloc _) ?_
    clear hK K
    refine tail_one 5 (by kernel_rfl) rfl ?_
    intro K hK
    rw [if_pos (by rfl)]
    go_simp
    refine (cn.out _ ((Mod.refl [] w1).drew.alloc _)).mono ?_
    rintro e w2 ⟨rfl, hw2⟩
    subst w2
    try dsimp only
    refine hK.out _ _ ((Mod.refl _ _).alloc _) ?_
    clear hK K
    refine tail_one 6 (by kernel_rfl) rfl ?_
    intro K hK
    rw [if_pos (by rfl)]
    go_simp
    refine hK.out _ _ (((Mod.refl _ _).alloc _).alloc _) ?_
    clear hK K
    refine tail_one 7 (by kernel_rfl) rfl ?_
    intro K hK
    rw [if_pos (by rfl)]
    go_simp
    refine hK.out _ _ (((Mod.refl _ _).alloc _).alloc _) ?_
    clear hK K
    refine tail_one 8 (by kernel_rfl) rfl ?_
    intro K hK
    rw [if_pos (by rfl)]
    go_simp
    refine hK.out _ _ ((((Mod.refl _ _).alloc _).alloc _).alloc _) ?_
    clear hK K hmkL hmkN cl cn hB hS1
    refine sep_wrap2 (goalP := fun W => wpAnyH _ _ _ _ _ _ _ _ W) (V := w1.drew) hA.out ((((Mod.refl _ _).alloc _).alloc _).alloc _) ?_
    intro Wg hSg hmg
    clear hA
    have hSg2 := Lib.hid (show Sep w0 Wg (Blk (w1.heap.size + 1 + 1) [.pointer (some ⟨ba, 0, none⟩), .slice (some ⟨w1.heap.size, 0, none⟩) m m, .slice (some ⟨w1.heap.size + 1, 0, none⟩) n n] 174 :: Row 2 1 m (.slice (some ⟨w1.heap.size, 0, none⟩) m m) (List.replicate m (.int .i64 0)) :: Row 2 1 n (.slice (some ⟨w1.heap.size + 1, 0, none⟩) n n) (List.replicate n (.int .i64 0)) :: ArcP ba n L :: R) from hSg.perm (List.Perm.cons _ (List.Perm.swap _ _ _)))
    clear hSg
    generalize w1.heap.size + 1 + 1 = r at *
    generalize w1.heap.size + 1 = go at *
    generalize w1.heap.size = gl at *
  case' refine_2 =>
    intro K hK
    rw [if_pos (by rfl)]
    go_simp
    refine (cn.out _ (Mod.refl [] w1).drew).mono ?_
    rintro e w2 ⟨rfl, hw2⟩
    subst w2
    try dsimp only
    refine hK.out _ _ (Mod.refl _ _) ?_
    clear hK K
    refine tail_two 3 6 (by kernel_rfl) rfl rfl ?_ ?_
  case' refine_2.refine_1 =>
    intro K hK
    rw [if_pos (by rfl)]
    go_simp
    refine hK.out _ _ ((Mod.refl _ _).alloc _) ?_
    clear hK K
    refine tail_one 6 (by kernel_rfl) rfl ?_
    intro K hK
    rw [if_pos (by rfl)]
    go_simp
    refine hK.out _ _ (((Mod.refl _ _).alloc _).alloc _) ?_
    clear hK K
    refine tail_one 7 (by kernel_rfl) rfl ?_
    intro K hK
    rw [if_pos (by rfl)]
    go_simp
    refine hK.out _ _ (((Mod.refl _ _).alloc _).alloc _) ?_
    clear hK K
    refine tail_one 8 (by kernel_rfl) rfl ?_
    intro K hK
    rw [if_pos (by rfl)]
    go_simp
    refine hK.out _ _ ((((Mod.refl _ _).alloc _).alloc _).alloc _) ?_
    clear hK K hmkL hmkN cl cn hB hS1
    refine sep_wrap2 (goalP := fun W => wpAnyH _ _ _ _ _ _ _ _ W) (V := w1.drew) hA.out ((((Mod.refl _ _).alloc _).alloc _).alloc _) ?_
    intro Wg hSg hmg
    clear hA
    have hSg2 := Lib.hid (show Sep w0 Wg (Blk (w1.heap.size + 1 + 1) [.pointer (some ⟨ba, 0, none⟩), .slice (some ⟨w1.heap.size, 0, none⟩) m m, .slice (some ⟨w1.heap.size + 1, 0, none⟩) n n] 174 :: Row 2 1 m (.slice (some ⟨w1.heap.size, 0, none⟩) m m) (List.replicate m (.int .i64 0)) :: Row 2 1 n (.slice (some ⟨w1.heap.size + 1, 0, none⟩) n n) (List.replicate n (.int .i64 0)) :: ArcP ba n L :: R) from hSg.perm (List.Perm.cons _ (List.Perm.swap _ _ _)))
    clear hSg
    generalize w1.heap.size + 1 + 1 = r at *
    generalize w1.heap.size + 1 = go at *
    generalize w1.heap.size = gl at *
  case' refine_2.refine_2 =>
    intro K hK
    rw [if_pos (by rfl)]
    go_simp
    refine hK.out _ _ ((Mod.refl _ _).alloc _) ?_
    clear hK K
    refine tail_one 3 (by kernel_rfl) rfl ?_
    intro K hK
    rw [if_pos (by rfl)]
    go_simp
    refine hK.out _ _ (((Mod.refl _ _).alloc _).alloc _) ?_
    clear hK K
    refine tail_one 7 (by kernel_rfl) rfl ?_
    intro K hK
    rw [if_pos (by rfl)]
    go_simp
    refine hK.out _ _ (((Mod.refl _ _).alloc _).alloc _) ?_
    clear hK K
    refine tail_one 8 (by kernel_rfl) rfl ?_
    intro K hK
    rw [if_pos (by rfl)]
    go_simp
    refine hK.out _ _ ((((Mod.refl _ _).alloc _).alloc _).alloc _) ?_
    clear hK K hmkL hmkN cl cn hA hS1
    refine sep_wrap2 (goalP := fun W => wpAnyH _ _ _ _ _ _ _ _ W) (V := w1.drew) hB.out ((((Mod.refl _ _).alloc _).alloc _).alloc _) ?_
    intro Wg hSg hmg
    clear hB
    have hSg2 := Lib.hid hSg
    clear hSg
    generalize w1.heap.size + 1 + 1 = r at *
    generalize w1.heap.size + 1 = gl at *
    generalize w1.heap.size = go at *
  all_goals
    have hS3 := Lib.hid (show Sep w0 Wg (Blk r [.pointer (some ⟨ba, 0, none⟩), .slice (some ⟨gl, 0, none⟩) m m, .slice (some ⟨go, 0, none⟩) n n] 174 :: Row 2 1 m (.slice (some ⟨gl, 0, none⟩) m m) (i64s (capL L 0)) :: Row 2 1 n (.slice (some ⟨go, 0, none⟩) n n) (i64s (overL n L (noF L))) :: ArcP ba n L :: R) by
      rw [capL_zero, overL_new, hm'.out]
      have e : ∀ m : Nat, i64s (List.replicate m 0) = List.replicate m (.int .i64 0) := fun m => by simp [i64s]
      rw [e, e]
      exact hSg2.out)
    clear hSg2
    refine tail_one 9 (by kernel_rfl) rfl ?_
    intro K hK
    rw [if_pos (by rfl)]
    go_simp
    refine hK.out _ _ hmg ?_
    clear hK K hmg
    refine tail_done (by kernel_rfl) ?_
    have r1 := (hS3.out.blkAt 0 rfl).cell 1 rfl
    have rl := (hS3.out.blkAt 0 rfl).lt
    go_wp2_with fail
    clear r1 rl
    go_loopw [22] (fun i wr => ∃ k : Nat, k ≤ m ∧ i = .int .i64 k ∧ Hid (Sep w0 wr (Blk r [.pointer (some ⟨ba, 0, none⟩), .slice (some ⟨gl, 0, none⟩) m m, .slice (some ⟨go, 0, none⟩) n n] 174 :: Row 2 1 m (.slice (some ⟨gl, 0, none⟩) m m) (i64s (capL L k)) :: Row 2 1 n (.slice (some ⟨go, 0, none⟩) n n) (i64s (overL n L (noF L))) :: ArcP ba n L :: R))) (fun i _ => m - (intOf i).toNat)
    case atStart => exact ⟨0, Nat.zero_le _, rfl, hS3⟩
    case round =>
      clear hS3
      obtain ⟨k, hk, rfl, hS⟩ := hrel
      by_cases hlt : k < m
      · have hlt1 : (k : Int) < m := by omega
        have r1 := (hS.out.blkAt 0 rfl).cell 1 rfl
        have rl := (hS.out.blkAt 0 rfl).lt
        have cc := Lib.hid (acap_sep ((hS.out.still (Mod.refl [] wr).drew).pick 3 (by simp)) hG'.out (k : Int))
        rw [show capI L (k : Int) = capE L k by unfold capI; rw [if_neg (by omega), Int.toNat_natCast]] at cc
        have hcs := Lib.hid (capL_step (L := L) (k := k) (by rw [hm'.out]; exact hlt))
        obtain ⟨ou, ogc⟩ : ∃ u, wr.drew.cell? ⟨gl, k, none⟩ = some u := by
          have h1 := (hS.out.rowAt 1 rfl).cellAt k (by omega)
          have h2 := (hS.out.rowAt 1 rfl).1
          rw [List.getElem?_eq_getElem (by omega)] at h1
          exact ⟨_, h1⟩
        have ogz : wr.drew.frozen? ⟨gl, k, none⟩ = false := (hS.out.rowAt 1 rfl).frozenAt k
        have ogl : gl < wr.drew.heap.size := own_lt (hS.out.rowAt 1 rfl) (g := gl) rfl
        generalize capE L k = z at *
        have hS5 := Lib.hid ((hS.out.rowsetAt 1 rfl k (.int .i64 z)).still (Mod.refl [] _).drew)
        rw [i64s_set, hcs.out] at hS5
        have k1 := KC.one (w := wr.drew) (L := [(⟨r, 1, none⟩, .slice (some ⟨gl, 0, none⟩) m m)]) r1 (by simp)
        clear hS r1 hcs
        go_upto_region 6 with fail
        refine region_sched (G := KC [(⟨r, 1, none⟩, .slice (some ⟨gl, 0, none⟩) m m)]) [([0,1,2,3,4,5,6],7), ([8],9)] [] (by kernel_rfl) (by kernel_rfl) (by kernel_rfl) rfl (KC.refl _) (KC.trans _) ?_
        simp only [stages, pickO, nthO, headO, List.append_eq, List.cons_append, List.nil_append]
        refine sched_step ?_
        repeat (go_big_quiet_step (fail))
        refine wpQuiet_nil ?_
        intro K hK
        rw [if_pos (by rfl)]
        go_simp
        refine cc.out.mono ?_
        rintro e w5 ⟨rfl, hw5⟩
        subst w5
        try dsimp only
        refine hK.out _ _ (KC.refl _ _) ?_
        clear hK K k1 cc
        refine sched_step ?_
        repeat (go_big_quiet_step (fail))
        refine wpQuiet_nil ?_
        intro K hK
        rw [if_pos (by rfl)]
        go_simp
        refine hK.out _ _ (fun p hp _ => by
          simp only [List.mem_cons, List.mem_nil_iff, or_false] at hp
          subst hp
          exact (hS5.out.blkAt 0 rfl).cell 1 rfl) ?_
        clear hK K ogc ogz ogl rl
        refine sched_last ?_
        refine wpQuiet_nil ?_
        go_wp2_with fail
        go_roundw
        case rel => exact ⟨k + 1, by omega, by go_num, hS5⟩
        case measure => simp [intOf]; omega
      · have hkm : k = m := by omega
        have hfin : Hid (Sep w0 wr (RestP r ba n L (noF L) :: ArcP ba n L :: R)) := Lib.hid (by
          refine Sep.mkRest (gl := gl) (go := go) ?_
          have h5 := hS.out
          rw [hkm, ← hm'.out, capL_all] at h5
          exact h5)
        clear hS hk hkm
        go_wp2_with fail
        go_ret
        exact ⟨r, ba, rfl, hfin.out⟩
end Edge
end Go.Proofs.YtjpfmkfikidgkaaGreat

set_option linter.unusedVariables false
set_option linter.unusedSimpArgs false
namespace Go.Proofs.YtjpfmkfikidgkaaGreat
open Go.RowKit
namespace Edge
section
variable {w0 w : World} {r ba n : Nat} {L : List Ed} {f : List Int} {R : List Part}
theorem rarcs_sep (h : Sep w0 w (RestP r ba n L f :: ArcP ba n L :: R)) : Calls Tryz.prog 23 #[.pointer (some ⟨r, 0, none⟩)] w fun e w' => e = .returned (.pointer (some ⟨ba, 0, none⟩)) ∧ w' = w := by
  obtain ⟨F, h1, _⟩ := h.first
  exact rarcs_p h1
theorem rleft_sep (h : Sep w0 w (RestP r ba n L f :: ArcP ba n L :: R)) (hG : GOk n L) (i : Int) : Calls Tryz.prog 40 #[.pointer (some ⟨r, 0, none⟩), .int .i64 i] w fun e w' => e = .returned (.int .i64 (leftI L f i)) ∧ w' = w := by
  obtain ⟨F, h1, _⟩ := h.first
  obtain ⟨F2, h2, _⟩ := h.tail.first
  exact rleft_p h1 h2 hG i
theorem rexc_sep (h : Sep w0 w (RestP r ba n L f :: ArcP ba n L :: R)) (hG : GOk n L) (v : Int) : Calls Tryz.prog 74 #[.pointer (some ⟨r, 0, none⟩), .int .i64 v] w fun e w' => e = .returned (.int .i64 (exc L f v)) ∧ w' = w := by
  obtain ⟨F, h1, _⟩ := h.first
  obtain ⟨F2, h2, _⟩ := h.tail.first
  exact rexc_p h1 h2 hG v
theorem rflow_sep (h : Sep w0 w (RestP r ba n L f :: ArcP ba n L :: R)) (hG : GOk n L) (hF : FB L f) (i : Int) : Calls Tryz.prog 99 #[.pointer (some ⟨r, 0, none⟩), .int .i64 i] w fun e w' => e = .returned (.int .i64 (flowI L f i)) ∧ Mod [] w w' := by
  obtain ⟨F, h1, _⟩ := h.first
  obtain ⟨F2, h2, _⟩ := h.tail.first
  exact rflow_p h1 h2 hG hF i
theorem rflows_sep (h : Sep w0 w (RestP r ba n L f :: ArcP ba n L :: R)) (hG : GOk n L) (hF : FB L f) : Calls Tryz.prog 80 #[.pointer (some ⟨r, 0, none⟩)] w fun e w' => ∃ a c, e = .returned (.slice a f.length c) ∧ Made w w' 2 1 a f.length c (i64s f) := by
  obtain ⟨F, h1, _⟩ := h.first
  obtain ⟨F2, h2, _⟩ := h.tail.first
  exact rflows_p h1 h2 hG hF
theorem rreach_none (h : Sep w0 w (RestP r ba 0 L f :: ArcP ba 0 L :: R)) (hG : GOk 0 L) : Calls Tryz.prog 110 #[.pointer (some ⟨r, 0, none⟩), .int .i64 0] w fun e w' => e = .returned (.slice none 0 0) ∧ w' = w := by
  have ca := Lib.hid (rarcs_sep h)
  have cn := an_sep h.tail hG
  simp only [Int.natCast_zero, Int.ofNat_zero, Int.cast_ofNat_Int] at cn
  have cn' := Lib.hid cn
  clear h hG cn
  go_enter Tryz.func110, Tryz.ntmps110
  go_wp2_with (first
    | (go_at_call 23; refine ca.out.mono ?_; rintro e w1 ⟨rfl, hw1⟩; subst w1)
    | (go_at_call 105; refine cn'.out.mono ?_; rintro e w1 ⟨rfl, hw1⟩; subst w1))
  go_ret
  exact ⟨rfl, rfl⟩
end
theorem fb_new {n : Nat} {L : List Ed} (hG : GOk n L) : FB L (noF L) := FB.none hG.pos
theorem merged23 : merged [(0, 1, 7)] = [(0, 1, 7)] := by decide +kernel
set_option maxRecDepth 100000 in
set_option maxHeartbeats 4000000 in
theorem awake23 (w : World) : Calls Tryz.prog 14 #[] w fun e w' => e = .returned (.bool true) ∧ Mod [] w w' := by
  go_enter Tryz.func14, Tryz.ntmps14
  go_wp2_with fail
  refine (new_net 2 (l := [(0, 1, 7)]) (rd_ed (l := [(0, 1, 7)]) (Has.new w [.int .i64 0, .int .i64 1, .int .i64 7] 146) (by simp))).mono ?_
  rintro e w1 hN
  rcases hN.out with ⟨hne, _⟩ | ⟨he, b, rfl, hS⟩
  · exact absurd (by decide +kernel) hne
  have hG := new_ok he
  rw [merged23] at hS hG
  have e3 : ((2 : Int).toNat) = 2 := rfl
  rw [e3] at hS hG
  have hnw := Lib.hid (rnew_res hG (csr_net hS hG))
  clear hN he hS
  try dsimp only
  go_wp2_with fail
  refine hnw.out.mono ?_
  rintro e w2 ⟨r, ba, rfl, hA⟩
  have hF := fb_new hG
  have c1 := Lib.hid (rpush_sep hA hG hF 0 5)
  rw [show mayP [(0, 1, 7)] (noF [(0, 1, 7)]) 0 5 = true by decide +kernel, show pushI [(0, 1, 7)] (noF [(0, 1, 7)]) 0 5 = [5] by decide +kernel] at c1
  clear hnw hA
  try dsimp only
  go_wp2_with fail
  refine c1.out.mono ?_
  rintro e w3 ⟨rfl, hA⟩
  have hF5 : FB [(0, 1, 7)] [5] := ⟨by decide, trivial⟩
  have c2 := Lib.hid (rpush_sep hA hG hF5 0 3)
  rw [show mayP [(0, 1, 7)] [5] 0 3 = false by decide +kernel, show pushI [(0, 1, 7)] [5] 0 3 = [5] by decide +kernel] at c2
  clear c1 hA
  try dsimp only
  go_wp2_with fail
  refine c2.out.mono ?_
  rintro e w4 ⟨rfl, hA⟩
  have hw4 := Lib.hid (show Mod [] w w4 from ((Mod.refl [] w).alloc _).trans hA.mod (by simp))
  have c3 := Lib.hid (rleft_sep hA hG 0)
  have c4 := Lib.hid (rleft_sep hA hG 1)
  have c5 := Lib.hid (rflow_sep hA hG hF5 0)
  have c6 := Lib.hid (fun W (m : Mod [] w4 W) => rexc_sep (hA.still m) hG 1)
  rw [show leftI [(0, 1, 7)] [5] 0 = 2 by decide +kernel] at c3
  rw [show leftI [(0, 1, 7)] [5] 1 = 12 by decide +kernel] at c4
  rw [show flowI [(0, 1, 7)] [5] 0 = 5 by decide +kernel] at c5
  simp only [show exc [(0, 1, 7)] [5] 1 = 5 by decide +kernel] at c6
  clear c2 hA hF hG hF5
  try dsimp only
  go_wp2_with fail
  refine c3.out.mono ?_
  rintro e w5 ⟨rfl, hw5⟩
  subst w5
  try dsimp only
  go_wp2_with fail
  refine c4.out.mono ?_
  rintro e w5 ⟨rfl, hw5⟩
  subst w5
  try dsimp only
  go_wp2_with fail
  refine c5.out.mono ?_
  rintro e w5 ⟨rfl, hm5⟩
  have c7 := Lib.hid (c6.out _ hm5)
  have hm5' := Lib.hid hm5
  clear hm5
  try dsimp only
  go_wp2_with fail
  refine c7.out.mono ?_
  rintro e w6 ⟨rfl, hw6⟩
  subst w6
  try dsimp only
  go_wp2_with fail
  go_ret
  exact ⟨rfl, hw4.out.trans hm5'.out (by simp)⟩
end Edge
end Go.Proofs.YtjpfmkfikidgkaaGreat

set_option linter.unusedVariables false
set_option linter.unusedSimpArgs false
namespace Go.Proofs.YtjpfmkfikidgkaaGreat
open Go.RowKit
namespace Edge
def encPu (x : Int × Int) : List Value := [.int .i64 x.1, .int .i64 x.2]
theorem encPu_len : ∀ x, (encPu x).length = 2 := fun _ => rfl
theorem pu_cells {w : World} {l : List (Int × Int)} {a : Option Addr} {c k : Nat} (h : Rd w 2 (.slice a l.length c) l.length (flat encPu l)) (hk : k < l.length) :
    ∃ g o, a = some ⟨g, o, none⟩ ∧ g < w.heap.size ∧ ∀ W, Mod [] w W → W.cell? ⟨g, o + k * 2, none⟩ = some (.int .i64 l[k].1) ∧ W.cell? ⟨g, o + k * 2 + 1, none⟩ = some (.int .i64 l[k].2) := by
  obtain ⟨g, o, rfl, h1, h2, h3⟩ := h.at (by rw [flat_length encPu_len]; omega)
  have k0 := flat_get encPu_len l k 0 hk (by omega)
  have k1 := flat_get encPu_len l k 1 hk (by omega)
  refine ⟨g, o, rfl, ?_, fun W m => ⟨?_, ?_⟩⟩
  · have := h3 (k * 2 + 0) _ k0
    exact World.block_lt_of_cell? w _ this
  · have := (h.still m).cellAt (k * 2 + 0) (u := .int .i64 l[k].1) (by rw [k0]; rfl)
    simpa using this
  · have := (h.still m).cellAt (k * 2 + 1) (u := .int .i64 l[k].2) (by rw [k1]; rfl)
    rw [← Nat.add_assoc] at this
    exact this
/-- The flow behind the first k pushes. -/
def runF (L : List Ed) (ops : List (Int × Int)) (k : Nat) : List Int := (ops.take k).foldl (fun f o => pushI L f o.1 o.2) (noF L)
theorem runF_step (L : List Ed) {ops : List (Int × Int)} {k : Nat} (hk : k < ops.length) : runF L ops (k + 1) = pushI L (runF L ops k) ops[k].1 ops[k].2 := by
  unfold runF
  rw [List.take_succ_eq_append_getElem hk, List.foldl_append]; rfl
theorem runF_ok {n : Nat} {L : List Ed} (hG : GOk n L) (ops : List (Int × Int)) : ∀ k, FB L (runF L ops k)
  | 0 => by simpa [runF] using fb_new hG
  | k + 1 => by
    by_cases hk : k < ops.length
    · rw [runF_step L hk]; exact (runF_ok hG ops k).pushI _ _
    · have e : runF L ops (k + 1) = runF L ops k := by unfold runF; rw [List.take_of_length_le (by omega), List.take_of_length_le (by omega)]
      rw [e]; exact runF_ok hG ops k
theorem newE_bad3 {n : Int} {l : List Ed} (h : newE n l ≠ (0, 0)) : (newE n l).1 ≠ 0 := fun hz => h (by
  unfold newE at hz ⊢
  split at hz
  · cases hz
  · split at hz
    · cases hz
    · rw [if_neg (by assumption), if_neg (by assumption)]; exact checksE_at hz)
end Edge
end Go.Proofs.YtjpfmkfikidgkaaGreat

set_option linter.unusedVariables false
set_option linter.unusedSimpArgs false
namespace Go.Proofs.YtjpfmkfikidgkaaGreat
open Go.RowKit
namespace Edge
def restV (n : Int) (a : Option Addr) (m c : Nat) (fa : Option Addr) (fc : Nat) : Value := .agg #[.int .i64 n, .slice a m c, .slice fa m fc]
/-- The reference's flow f of the edges L: what is read of it. -/
structure RX (w : World) (L : List Ed) (f : List Int) (a : Option Addr) (c : Nat) (fa : Option Addr) (fc : Nat) : Prop where
  l : Rd w 3 (.slice a L.length c) L.length (flat encEd L)
  f : Rd w 1 (.slice fa L.length fc) L.length (i64s f)
theorem RX.still {w w' : World} {L : List Ed} {f : List Int} {a : Option Addr} {c : Nat} {fa : Option Addr} {fc : Nat} (h : RX w L f a c fa fc) (m : Mod [] w w') : RX w' L f a c fa fc := ⟨h.l.still m, h.f.still m⟩
theorem RX.len {w : World} {L : List Ed} {f : List Int} {a : Option Addr} {c : Nat} {fa : Option Addr} {fc : Nat} (h : RX w L f a c fa fc) : f.length = L.length := by
  have := h.f.1
  rw [i64s_len] at this
  omega
theorem RX.fcell {w : World} {L : List Ed} {f : List Int} {a : Option Addr} {c : Nat} {fa : Option Addr} {fc k : Nat} (h : RX w L f a c fa fc) (hk : k < L.length) : ∃ g o, fa = some ⟨g, o, none⟩ ∧ g < w.heap.size ∧ ∀ w', Mod [] w w' → w'.cell? ⟨g, o + k, none⟩ = some (.int .i64 (f.getD k 0)) := by
  obtain ⟨g, o, e, hg, hc⟩ := rd_cell h.f hk
  refine ⟨g, o, e, hg, fun w' m => hc w' k _ m ?_⟩
  have hf : k < f.length := by rw [h.len]; exact hk
  refine i64s_got ?_
  rw [List.getD_eq_getElem?_getD, List.getElem?_eq_getElem hf]; rfl
set_option maxRecDepth 100000 in
set_option maxHeartbeats 2000000 in
theorem xnew23 (n : Nat) {L : List Ed} {a : Option Addr} {c : Nat} (w : World) (hl : L.length ≤ 1048576) :
    Calls Tryz.prog 17 #[netV n a L.length c] w fun e w' => ∃ fa fc, e = .returned (restV n a L.length c fa fc) ∧ Made w w' 2 1 fa L.length fc (i64s (noF L)) := by
  obtain ⟨m, hm⟩ : ∃ m, L.length = m := ⟨_, rfl⟩
  have hm' := Lib.hid hm
  rw [hm] at hl ⊢
  have hB := ((Has.new w [.int .i64 n, .slice a m c] 32).alloc (.cells #[.int .i64 0, .slice none 0 0, .slice none 0 0] 35))
  have hB' := Lib.hid hB
  have hmk := make_run (P := Tryz.prog) 33 2 (.int .i64 0) 8 Tryz.underlying33 infoI64b rfl (by omega) m (by omega)
  have hmod : Hid (Mod [] w ((w.alloc (.cells #[.int .i64 n, .slice a m c] 32)).alloc (.cells #[.int .i64 0, .slice none 0 0, .slice none 0 0] 35))) := Lib.hid (((Mod.refl [] w).alloc _).alloc _)
  unfold netV restV
  clear hB hm
  go_enter Tryz.func17, Tryz.ntmps17
  go_upto_region 1 with fail
  have hA := Lib.hid (((((Sep.empty w).box [.int .i64 n, .slice a m c] 32).box [.int .i64 0, .slice none 0 0, .slice none 0 0] 35).still (Mod.refl [] _).drew))
  have f0 := KC.one (w := ((w.alloc (.cells #[.int .i64 n, .slice a m c] 32)).alloc (.cells #[.int .i64 0, .slice none 0 0, .slice none 0 0] 35)).drew) (L := [(⟨w.heap.size, 0, none⟩, .int .i64 n), (⟨w.heap.size, 1, none⟩, .slice a m c)]) ((hA.out.blkAt 1 rfl).cell 0 rfl) (by simp)
  have f1 := KC.one (w := ((w.alloc (.cells #[.int .i64 n, .slice a m c] 32)).alloc (.cells #[.int .i64 0, .slice none 0 0, .slice none 0 0] 35)).drew) (L := [(⟨w.heap.size, 0, none⟩, .int .i64 n), (⟨w.heap.size, 1, none⟩, .slice a m c)]) ((hA.out.blkAt 1 rfl).cell 1 rfl) (by simp)
  have hS : Hid (Sep w (((w.alloc (.cells #[.int .i64 n, .slice a m c] 32)).alloc (.cells #[.int .i64 0, .slice none 0 0, .slice none 0 0] 35)).alloc (.cells (madeCells #[.int .i64 0] m) 2)).drew [Row 2 1 m (.slice (some ⟨w.heap.size + 1 + 1, 0, none⟩) m m) (i64s (noF L)), Blk (w.heap.size + 1) [.int .i64 0, .slice none 0 0, .slice none 0 0] 35, Blk w.heap.size [.int .i64 n, .slice a m c] 32]) := Lib.hid (by
    have h5 := hA.out.made (made_made _ 2 (.int .i64 0) m (by omega))
    have e : i64s (noF L) = List.replicate m (.int .i64 0) := by unfold noF; rw [hm'.out]; simp [i64s]
    rw [e]
    simp only [World.size_alloc] at h5
    rw [show ∀ W : World, W.drew.heap.size = W.heap.size from fun _ => rfl] at h5
    simp only [World.size_alloc] at h5
    exact h5)
  clear hm' hmod hB' hA
  refine region_sched (G := KC [(⟨w.heap.size, 0, none⟩, .int .i64 n), (⟨w.heap.size, 1, none⟩, .slice a m c)]) [([0,1,2,3],4), ([5],6)] [] (by kernel_rfl) (by kernel_rfl) (by kernel_rfl) rfl (KC.refl _) (KC.trans _) ?_
  simp only [stages, pickO, nthO, headO, List.append_eq, List.cons_append, List.nil_append]
  refine sched_step ?_
  repeat (go_big_quiet_step (fail))
  refine wpQuiet_nil ?_
  intro K hK
  rw [if_pos (by rfl)]
  go_simp
  refine hK.out _ _ (fun p hp _ => by
    simp only [List.mem_cons, List.mem_nil_iff, or_false] at hp
    rcases hp with rfl | rfl
    · exact (hS.out.blkAt 2 rfl).cell 0 rfl
    · exact (hS.out.blkAt 2 rfl).cell 1 rfl) ?_
  clear hK K hmk f0 f1
  generalize (((w.alloc (.cells #[.int .i64 n, .slice a m c] 32)).alloc (.cells #[.int .i64 0, .slice none 0 0, .slice none 0 0] 35)).alloc (.cells (madeCells #[.int .i64 0] m) 2)).drew = W1 at *
  generalize w.heap.size + 1 + 1 = g at *
  generalize w.heap.size + 1 = B2 at *
  generalize w.heap.size = B at *
  have hb := hS.out.blkAt 1 rfl
  have k0 := hb.cell 0 rfl
  have k1 := hb.cell 1 rfl
  have k2 := hb.cell 2 rfl
  have z0 := hb.free 0
  have z1 := hb.free 1
  have z2 := hb.free 2
  have bl := hb.lt
  have hS3 := Lib.hid (((hS.out.setAt 1 rfl 0 (.int .i64 n)).setAt 1 rfl 1 (.slice a m c)).setAt 1 rfl 2 (.slice (some ⟨g, 0, none⟩) m m))
  clear hb
  refine sched_step ?_
  repeat (go_big_quiet_step (fail))
  refine wpQuiet_nil ?_
  intro K hK
  rw [if_pos (by rfl)]
  go_simp
  refine hK.out _ _ (fun p hp _ => by
    simp only [List.mem_cons, List.mem_nil_iff, or_false] at hp
    rcases hp with rfl | rfl
    · exact (hS3.out.blkAt 2 rfl).cell 0 rfl
    · exact (hS3.out.blkAt 2 rfl).cell 1 rfl) ?_
  clear hK K k0 k1 k2 z0 z1 z2 bl
  refine sched_last ?_
  refine wpQuiet_nil ?_
  have hb := hS3.out.blkAt 1 rfl
  have k0 := hb.cell 0 rfl
  have k1 := hb.cell 1 rfl
  have k2 := hb.cell 2 rfl
  have hfin := Lib.hid hS3.out.toMade
  clear hb hS hS3
  go_wp2_with fail
  generalize ((W1.setCell ⟨B2, 0, none⟩ (.int .i64 n)).setCell ⟨B2, 1, none⟩ (.slice a m c)).setCell ⟨B2, 2, none⟩ (.slice (some ⟨g, 0, none⟩) m m) = wf at *
  refine bodyPost_ret (v := .agg #[.int .i64 n, .slice a m c, .slice (some ⟨g, 0, none⟩) m m]) ?_ rfl ⟨_, _, rfl, hfin.out⟩
  simp [results, Tryz.results17, go_sem, k0, k1, k2]
set_option maxRecDepth 100000 in
set_option maxHeartbeats 2000000 in
theorem xleft23 {n : Nat} {L : List Ed} {f : List Int} {a : Option Addr} {c : Nat} {fa : Option Addr} {fc : Nat} {w : World} (h : RX w L f a c fa fc) (hG : GOk n L) (hF : FB L f) (i : Int) (hi : i ≤ 9223372036854775807) :
    Calls Tryz.prog 109 #[restV n a L.length c fa fc, .int .i64 i] w fun e w' => e = .returned (.int .i64 (leftI L f i)) ∧ Mod [] w w' := by
  have hmod := Lib.hid ((Mod.refl [] w).alloc (.cells #[.int .i64 n, .slice a L.length c, .slice fa L.length fc] 35))
  have hl := hG.len
  have htl := Lib.hid (rtail_any n (h.l.still hmod.out) hl i hi)
  have hB := Has.new w [.int .i64 n, .slice a L.length c, .slice fa L.length fc] 35
  have hB' := Lib.hid hB
  have b0 := hB.cell 0 rfl
  have b1 := hB.cell 1 rfl
  have bl := hB.lt
  have h' := Lib.hid h
  unfold netV at htl
  unfold restV
  clear h hB
  by_cases hin : 0 ≤ i ∧ i < 2 * L.length
  · obtain ⟨k, rfl⟩ := Int.eq_ofNat_of_zero_le hin.1
    have h1 : k < 2 * L.length := by omega
    have ht : tailI L (k : Int) = tailE L k := by unfold tailI; rw [if_neg (by omega), Int.toNat_natCast]
    have hc : leftI L f (k : Int) = leftE L f k := by unfold leftI; rw [if_pos (by omega), Int.toNat_natCast]
    have ht2 := tail_in hG h1
    rw [ht] at htl
    rw [hc]
    have hk : k / 2 < L.length := by omega
    obtain ⟨g, o, rfl, hg, hcell⟩ := ed_cells h'.out.l hk
    obtain ⟨gf, of, rfl, hgf, hfcell⟩ := h'.out.fcell hk
    have hcl := Lib.hid (fun W m => (hcell W m).2.2)
    have hcf := Lib.hid hfcell
    have et := capE_get h1
    have hcap := capE_le hG k
    have hfb := hF.get (k / 2) hk
    have e5 : leftE L f k = if k % 2 = 0 then L[k / 2].2.2 - f.getD (k / 2) 0 else L[k / 2].2.2 + f.getD (k / 2) 0 := by
      unfold leftE; rw [et]
    rw [et] at hcap
    rw [e5]
    generalize f.getD (k / 2) 0 = y at *
    generalize L[k / 2] = x at *
    obtain ⟨xu, xv, xw⟩ := x
    simp only at et hcl hcap hfb ⊢
    generalize tailE L k = t at *
    have hk1 : (k : Int) / 2 < L.length := by omega
    have ht3 : 0 ≤ t := ht2.1
    clear et hcell hfcell hin ht hc ht2 hi h' e5 hF
    by_cases h2 : k % 2 = 0
    · have t1 : ((k : Int) % 2 == 0) = true := by simp; omega
      rw [if_pos h2]
      clear h2
      go_enter Tryz.func109, Tryz.ntmps109
      go_wp2_with fail
      refine htl.out.mono ?_
      rintro e w1 ⟨rfl, hm⟩
      have hB1 := hB'.out.keep hm (by simp)
      have c1 := hB1.cell 1 rfl
      have c2 := hB1.cell 2 rfl
      have cl := hB1.lt
      have q2 := hcl.out w1 (hmod.out.trans hm (by simp))
      have q3 := hcf.out w1 (hmod.out.trans hm (by simp))
      have hgl : g < w1.heap.size := Nat.lt_of_lt_of_le hg (hmod.out.trans hm (by simp)).size
      have hgl2 : gf < w1.heap.size := Nat.lt_of_lt_of_le hgf (hmod.out.trans hm (by simp)).size
      have hm' := Lib.hid (hmod.out.trans hm (by simp))
      clear b0 b1 bl hB1 hm htl hcl hcf
      try dsimp only
      go_upto_region 4 with fail
      go_quiet (fail)
      go_wp2_with fail
      go_ret
      exact ⟨rfl, hm'.out.drewN _⟩
    · have t1 : ((k : Int) % 2 == 0) = false := by simp; omega
      rw [if_neg h2]
      clear h2
      go_enter Tryz.func109, Tryz.ntmps109
      go_wp2_with fail
      refine htl.out.mono ?_
      rintro e w1 ⟨rfl, hm⟩
      have hB1 := hB'.out.keep hm (by simp)
      have c1 := hB1.cell 1 rfl
      have c2 := hB1.cell 2 rfl
      have cl := hB1.lt
      have q2 := hcl.out w1 (hmod.out.trans hm (by simp))
      have q3 := hcf.out w1 (hmod.out.trans hm (by simp))
      have hgl : g < w1.heap.size := Nat.lt_of_lt_of_le hg (hmod.out.trans hm (by simp)).size
      have hgl2 : gf < w1.heap.size := Nat.lt_of_lt_of_le hgf (hmod.out.trans hm (by simp)).size
      have hm' := Lib.hid (hmod.out.trans hm (by simp))
      clear b0 b1 bl hB1 hm htl hcl hcf
      try dsimp only
      go_upto_region 5 with fail
      go_quiet (fail)
      go_wp2_with fail
      go_ret
      exact ⟨rfl, hm'.out.drewN _⟩
  · have ht : tailI L i = -1 := by
      unfold tailI
      by_cases h0 : i < 0
      · rw [if_pos h0]
      · rw [if_neg h0, tailE_out (by omega)]
    have hc : leftI L f i = 0 := by unfold leftI; rw [if_neg hin]
    rw [ht] at htl
    rw [hc]
    clear ht hc hin hi h'
    go_enter Tryz.func109, Tryz.ntmps109
    go_wp2_with fail
    refine htl.out.mono ?_
    rintro e w1 ⟨rfl, hm⟩
    have hm' := Lib.hid (hmod.out.trans hm (by simp))
    try dsimp only
    go_wp2_with fail
    go_ret
    exact ⟨rfl, hm'.out⟩
end Edge
end Go.Proofs.YtjpfmkfikidgkaaGreat

set_option linter.unusedVariables false
set_option linter.unusedSimpArgs false
namespace Go.Proofs.YtjpfmkfikidgkaaGreat
open Go.RowKit
namespace Edge
theorem exc_take : ∀ (L : List Ed) (f : List Int) (k : Nat) (hk : k < L.length) (hl : f.length = L.length) (v : Int), exc (L.take (k + 1)) (f.take (k + 1)) v = exc (L.take k) (f.take k) v + (if L[k].2.1 = v then f.getD k 0 else 0) - (if L[k].1 = v then f.getD k 0 else 0)
  | e :: l, x :: f, 0, _, _, v => by simp [exc]
  | e :: l, x :: f, k + 1, hk, hl, v => by
    have := exc_take l f k (by simpa using hk) (by simpa using hl) v
    simp only [List.take_succ_cons, exc, List.getElem_cons_succ, List.getD_cons_succ] at this ⊢
    rw [this]; omega
theorem FB.take : ∀ {L : List Ed} {f : List Int}, FB L f → ∀ k, FB (L.take k) (f.take k)
  | [], [], _, k => by simp [FB]
  | e :: l, x :: f, h, 0 => by simp [FB]
  | e :: l, x :: f, h, k + 1 => ⟨h.1, FB.take h.2 k⟩
theorem exc_part {n : Nat} {L : List Ed} {f : List Int} (hG : GOk n L) (hF : FB L f) (k : Nat) (v : Int) : -2251799813685248 ≤ exc (L.take k) (f.take k) v ∧ exc (L.take k) (f.take k) v ≤ 2251799813685248 := by
  have h1 := exc_in (hF.take k) (fun e he => by have := hG.ends e (List.mem_of_mem_take he); omega) v
  have h2 := total_part hG k
  omega
set_option maxRecDepth 100000 in
set_option maxHeartbeats 4000000 in
theorem xexc23 {n : Nat} {L : List Ed} {f : List Int} {a : Option Addr} {c : Nat} {fa : Option Addr} {fc : Nat} {w : World} (h : RX w L f a c fa fc) (hG : GOk n L) (hF : FB L f) (v : Int) :
    Calls Tryz.prog 78 #[restV n a L.length c fa fc, .int .i64 v] w fun e w' => e = .returned (.int .i64 (exc L f v)) ∧ Mod [] w w' := by
  have hmod := Lib.hid ((Mod.refl [] w).alloc (.cells #[.int .i64 n, .slice a L.length c, .slice fa L.length fc] 35))
  have hB := Has.new w [.int .i64 n, .slice a L.length c, .slice fa L.length fc] 35
  have b1 := hB.cell 1 rfl
  have b2 := hB.cell 2 rfl
  have bl := hB.lt
  obtain ⟨m, hm⟩ : ∃ m, L.length = m := ⟨_, rfl⟩
  have hlb : m ≤ 1048576 := by have := hG.len; omega
  have h' := Lib.hid h
  have hG' := Lib.hid hG
  have hF' := Lib.hid hF
  have hend : Hid (exc (L.take m) (f.take m) v = exc L f v) := Lib.hid (by rw [List.take_of_length_le (by omega), List.take_of_length_le (by rw [h.len]; omega)])
  rw [hm] at b1 b2 hmod
  have hm' := Lib.hid hm
  unfold restV
  rw [hm]
  rw [hm] at bl
  clear h hB hG hF hm
  go_enter Tryz.func78, Tryz.ntmps78
  go_wp2_with fail
  generalize w.alloc (.cells #[.int .i64 n, .slice a m c, .slice fa m fc] 35) = w1 at *
  generalize w.heap.size = B at *
  go_loopw [5, 6] (fun s i wr => ∃ (k : Nat) (z : Int), k ≤ m ∧ s = .int .i64 z ∧ i = .int .i64 k ∧ wr = w1 ∧ Hid (z = exc (L.take k) (f.take k) v)) (fun _ i _ => m - (intOf i).toNat)
  case atStart => exact ⟨0, 0, Nat.zero_le _, rfl, rfl, rfl, Lib.hid (by simp [exc])⟩
  case round =>
    obtain ⟨k, z, hk, rfl, rfl, hwr, hz⟩ := hrel
    subst hwr
    by_cases hlt : k < m
    · have hlt1 : (k : Int) < m := by omega
      have hkl : k < L.length := by rw [hm'.out]; exact hlt
      obtain ⟨g, o, rfl, hg, hcell⟩ := ed_cells h'.out.l hkl
      obtain ⟨gf, of, rfl, hgf, hfcell⟩ := h'.out.fcell hkl
      obtain ⟨q0, q1, _⟩ := hcell _ hmod.out
      have q3 := hfcell _ hmod.out
      have hgl : g < wr.heap.size := Nat.lt_of_lt_of_le hg hmod.out.size
      have hgl2 : gf < wr.heap.size := Nat.lt_of_lt_of_le hgf hmod.out.size
      have hst := exc_take L f k hkl h'.out.len v
      have hp := exc_part hG'.out hF'.out k v
      rw [← hz.out] at hst hp
      have hfb := hF'.out.get k hkl
      have hen := hG'.out.ends _ (List.getElem_mem hkl)
      have hcap := capE_le hG'.out (2 * k)
      rw [capE_get (by omega)] at hcap
      simp only [show 2 * k / 2 = k by omega] at hcap
      generalize L[k] = x at *
      obtain ⟨xu, xv, xw⟩ := x
      generalize f.getD k 0 = y at *
      simp only at q0 q1 hst hfb hen hcap
      clear hcell hfcell hz
      by_cases h1 : xv = v
      · have h2 : ¬ xu = v := by omega
        rw [if_pos h1, if_neg h2] at hst
        have hst' := Lib.hid hst
        have t1 : (xv == v) = true := by simpa using h1
        have t2 : (xu == v) = false := by simpa using h2
        clear hst h1 h2 hen
        go_wp2_with fail
        go_roundw
        case rel => exact ⟨k + 1, z + y, by omega, by go_num, by go_num, trivial, Lib.hid (by have := hst'.out; omega)⟩
        case measure => simp [intOf]; omega
      · have t1 : (xv == v) = false := by simpa using h1
        rw [if_neg h1] at hst
        by_cases h2 : xu = v
        · rw [if_pos h2] at hst
          have hst' := Lib.hid hst
          have t2 : (xu == v) = true := by simpa using h2
          clear hst h1 h2 hen
          go_wp2_with fail
          go_roundw
          case rel => exact ⟨k + 1, z - y, by omega, by go_num, by go_num, trivial, Lib.hid (by have := hst'.out; omega)⟩
          case measure => simp [intOf]; omega
        · rw [if_neg h2] at hst
          have hst' := Lib.hid hst
          have t2 : (xu == v) = false := by simpa using h2
          clear hst h1 h2 hen
          go_wp2_with fail
          go_roundw
          case rel => exact ⟨k + 1, z, by omega, rfl, by go_num, trivial, Lib.hid (by have := hst'.out; omega)⟩
          case measure => simp [intOf]; omega
    · have hkm : k = m := by omega
      have hz2 := hz.out
      rw [hkm, hend.out] at hz2
      have hz3 := Lib.hid hz2
      clear hz hkm hz2
      go_wp2_with fail
      go_ret
      exact ⟨by rw [hz3.out]; rfl, hmod.out⟩
end Edge
end Go.Proofs.YtjpfmkfikidgkaaGreat

set_option linter.unusedVariables false
set_option linter.unusedSimpArgs false
namespace Go.Proofs.YtjpfmkfikidgkaaGreat
open Go.RowKit
namespace Edge
theorem infoI64c : (Tryz.prog.info? 2).map (fun i => (i.zero, i.size, i.bytes)) = some (some (.int .i64 0), 1, 8) := by kernel_rfl
theorem tail_neg {L : List Ed} {i : Int} (h : ¬ (0 ≤ i ∧ i < 2 * L.length)) : tailI L i = -1 := by
  unfold tailI
  by_cases h0 : i < 0
  · rw [if_pos h0]
  · rw [if_neg h0, tailE_out (by omega)]
set_option maxRecDepth 100000 in
set_option maxHeartbeats 4000000 in
theorem xpush23 {n : Nat} {L : List Ed} {f : List Int} {a : Option Addr} {c : Nat} {fa : Option Addr} {fc : Nat} {w : World} (h : RX w L f a c fa fc) (hG : GOk n L) (hF : FB L f) (i : Int) (hi : i ≤ 9223372036854775807) (x : Int) (hx : -9223372036854775808 ≤ x ∧ x ≤ 9223372036854775807) :
    Calls Tryz.prog 21 #[restV n a L.length c fa fc, .int .i64 i, .int .i64 x] w fun e w' =>
      (mayP L f i x = false ∧ e = .returned (.tuple #[restV n a L.length c fa fc, .bool false]) ∧ Mod [] w w') ∨
      (mayP L f i x = true ∧ ∃ fa' fc', e = .returned (.tuple #[restV n a L.length c fa' fc', .bool true]) ∧ Made w w' 2 1 fa' L.length fc' (i64s (pushI L f i x))) := by
  obtain ⟨m, hm⟩ : ∃ m, L.length = m := ⟨_, rfl⟩
  have hlb : m ≤ 1048576 := by have := hG.len; omega
  have hS0 : Hid (Sep w ((w.alloc (.cells #[.int .i64 n, .slice a m c, .slice fa m fc] 35)).alloc (.cells #[.int .i64 0, .slice none 0 0, .slice none 0 0] 35)) [Blk (w.heap.size + 1) [.int .i64 0, .slice none 0 0, .slice none 0 0] 35, Blk w.heap.size [.int .i64 n, .slice a m c, .slice fa m fc] 35]) := Lib.hid (by
    have h5 := ((Sep.empty w).box [.int .i64 n, .slice a m c, .slice fa m fc] 35).box [.int .i64 0, .slice none 0 0, .slice none 0 0] 35
    simp only [World.size_alloc] at h5
    exact h5)
  have htl := Lib.hid (fun W (hM : Mod [] w W) => rtail_any n (h.l.still hM) hG.len i hi)
  have hlf := Lib.hid (fun W (hM : Mod [] w W) => xleft23 (h.still hM) hG hF i hi)
  unfold netV at htl
  unfold restV at hlf ⊢
  rw [hm] at htl hlf ⊢
  have hm' := Lib.hid hm
  have h' := Lib.hid h
  have hG' := Lib.hid hG
  have hF' := Lib.hid hF
  have c0 := (hS0.out.blkAt 1 rfl).cell 0 rfl
  have c1 := (hS0.out.blkAt 1 rfl).cell 1 rfl
  have cl := (hS0.out.blkAt 1 rfl).lt
  have hmay : mayP L f i x = decide ((0 ≤ i ∧ i < 2 * (m : Int)) ∧ 0 ≤ x ∧ x ≤ leftE L f i.toNat) := by unfold mayP; rw [hm]
  clear h hG hF hi
  by_cases hin : 0 ≤ i ∧ i < 2 * (m : Int)
  · obtain ⟨k, rfl⟩ := Int.eq_ofNat_of_zero_le hin.1
    have hk : k < 2 * L.length := by rw [hm]; omega
    have ht2 := (tail_in hG'.out hk).1
    have etl : tailI L (k : Int) = tailE L k := by unfold tailI; rw [if_neg (by omega), Int.toNat_natCast]
    have elf : leftI L f (k : Int) = leftE L f k := by unfold leftI; rw [if_pos (by omega), Int.toNat_natCast]
    rw [etl] at htl
    rw [elf] at hlf
    rw [Int.toNat_natCast] at hmay
    have hlin := leftE_in hG'.out hF'.out hk
    generalize tailE L k = t at *
    clear etl elf
    by_cases hx0 : x < 0
    · have hno := Lib.hid (show mayP L f (k : Int) x = false by rw [hmay]; simp; omega)
      clear hmay hm hlf hlin
      go_enter Tryz.func21, Tryz.ntmps21
      go_wp2_with fail
      refine (htl.out _ hS0.out.mod).mono ?_
      rintro e w1 ⟨rfl, hm1⟩
      have hS1 := Lib.hid (hS0.out.still hm1)
      clear hS0 c0 c1 cl hm1 htl
      generalize w.heap.size + 1 = C at *
      generalize w.heap.size = B at *

      have b0 := (hS1.out.blkAt 1 rfl).cell 0 rfl
      have b1 := (hS1.out.blkAt 1 rfl).cell 1 rfl
      have b2 := (hS1.out.blkAt 1 rfl).cell 2 rfl
      have bl := (hS1.out.blkAt 1 rfl).lt
      have bf := (hS1.out.blkAt 1 rfl).free
      have k0 := (hS1.out.blkAt 0 rfl).cell 0 rfl
      have k1 := (hS1.out.blkAt 0 rfl).cell 1 rfl
      have k2 := (hS1.out.blkAt 0 rfl).cell 2 rfl
      have kl := (hS1.out.blkAt 0 rfl).lt
      have kf := (hS1.out.blkAt 0 rfl).free
      have hS9 := ((hS1.out.setAt 0 rfl 0 (.int .i64 n)).setAt 0 rfl 1 (.slice a m c)).setAt 0 rfl 2 (.slice fa m fc)
      have s0 := (hS9.blkAt 0 rfl).cell 0 rfl
      have s1 := (hS9.blkAt 0 rfl).cell 1 rfl
      have s2 := (hS9.blkAt 0 rfl).cell 2 rfl
      have hfin := Lib.hid hS9.mod
      clear hS9
      try dsimp only
      go_wp2_with fail
      generalize ((w1.setCell ⟨C, 0, none⟩ (.int .i64 n)).setCell ⟨C, 1, none⟩ (.slice a m c)).setCell ⟨C, 2, none⟩ (.slice fa m fc) = wf at *
      refine bodyPost_ret (v := .tuple #[.agg #[.int .i64 n, .slice a m c, .slice fa m fc], .bool false]) ?_ rfl (.inl ⟨hno.out, rfl, hfin.out⟩)
      simp [results, Tryz.results21, go_sem, s0, s1, s2]
    · by_cases hxl : x ≤ leftE L f k
      · have hyes := Lib.hid (show mayP L f (k : Int) x = true by rw [hmay]; simp; omega)
        have epu : pushI L f (k : Int) x = pushF f k x := by unfold pushI; rw [if_pos hyes.out, Int.toNat_natCast]
        rw [epu]
        clear hmay hm epu
        have hkm : k / 2 < m := by omega
        have hkm1 : (k : Int) / 2 < m := by omega
        have hfb := hF'.out.get (k / 2) (by omega)
        have hcap := capE_le hG'.out k
        rw [capE_get hk] at hcap
        have hfl := h'.out.len
        have hgd : f[k / 2]? = some (f.getD (k / 2) 0) := by rw [List.getD_eq_getElem?_getD, List.getElem?_eq_getElem (by omega)]; rfl
        have hgd' := Lib.hid hgd
        have hpu : pushF f k x = f.set (k / 2) (if k % 2 = 0 then f.getD (k / 2) 0 + x else f.getD (k / 2) 0 - x) := rfl
        rw [hpu]
        have hyb : -2251799813685248 ≤ f.getD (k / 2) 0 ∧ f.getD (k / 2) 0 ≤ 2251799813685248 := by omega
        have hxb : 0 ≤ x ∧ x ≤ 4503599627370496 := by omega
        generalize f.getD (k / 2) 0 = y at *
        generalize leftE L f k = lz at *
        clear hfb hcap hfl hgd hpu hk
        by_cases h2 : k % 2 = 0
        · have t1 : ((k : Int) % 2 == 0) = true := by simp; omega
          rw [if_pos h2]
          clear h2
          go_enter Tryz.func21, Tryz.ntmps21
          go_wp2_with fail
          refine (htl.out _ hS0.out.mod).mono ?_
          rintro e w1 ⟨rfl, hm1⟩
          have hS1 := Lib.hid (hS0.out.still hm1)
          clear hS0 c0 c1 cl hm1 htl
          generalize w.heap.size + 1 = C at *
          generalize w.heap.size = B at *
          have b0 := (hS1.out.blkAt 1 rfl).cell 0 rfl
          have b1 := (hS1.out.blkAt 1 rfl).cell 1 rfl
          have b2 := (hS1.out.blkAt 1 rfl).cell 2 rfl
          have bl := (hS1.out.blkAt 1 rfl).lt
          have bf := (hS1.out.blkAt 1 rfl).free
          try dsimp only
          go_wp2_with fail
          refine (hlf.out _ hS1.out.mod).mono ?_
          rintro e w2 ⟨rfl, hm2⟩
          have hS2 := Lib.hid (hS1.out.still hm2)
          clear b0 b1 b2 bl bf hm2 hlf hS1

          have b0 := (hS2.out.blkAt 1 rfl).cell 0 rfl
          have b1 := (hS2.out.blkAt 1 rfl).cell 1 rfl
          have b2 := (hS2.out.blkAt 1 rfl).cell 2 rfl
          have bl := (hS2.out.blkAt 1 rfl).lt
          have bf := (hS2.out.blkAt 1 rfl).free
          have hRd := Lib.hid (h'.out.f.still hS2.out.mod)
          rw [hm'.out] at hRd
          try dsimp only
          go_upto_region 4 with (at_builtin; refine app_rd rfl (.tmp 26) (.tmp 28) 33 2 _ 1 8 rfl Tryz.underlying33 infoI64c rfl (by omega) (by omega) (.slice (some ⟨w2.heap.size, 0, none⟩) 0 0) (.slice fa m fc) 0 m [] (i64s f) rfl rfl (i64s_one f) (World.ownsRow_made w2 #[] 0 (Nat.zero_le _) (Nat.zero_le _) rfl) (hRd.out.still ((Mod.refl _ _).alloc _)) (by omega) ?_; intro a1 c1 w3 hi mi ni)
          rw [Nat.zero_add] at hi ni
          have hmi : Made w2 w3 2 1 a1 m c1 (i64s f) := ⟨by simpa using hi, ((Mod.refl [] w2).alloc _).ge mi (by simp [Value.ownBlock]), ge_of_old _ (by simp [Value.ownBlock]) ni (by simp)⟩
          have hS3 := Lib.hid (hS2.out.made hmi)
          clear hi mi ni hmi hS2 b0 b1 b2 bl bf hRd
          obtain ⟨g1, rfl, hg1, hfz, hcell⟩ := row_form (hS3.out.rowAt 0 rfl) (by omega)
          have r5 := hcell (k / 2) (.int .i64 y) (i64s_got hgd'.out)
          have rz := hfz (k / 2)
          have hS4 := Lib.hid (hS3.out.rowsetAt 0 rfl (k / 2) (.int .i64 (y + x)))
          rw [i64s_set] at hS4
          clear hS3 hcell hfz
          go_upto_region 7 with fail
          clear r5 rz
          have s4 : Hid (Sep w (w3.setCell ⟨g1, k / 2, none⟩ (.int .i64 (y + x))) _) := hS4
          clear hS4
          generalize w3.setCell ⟨g1, k / 2, none⟩ (.int .i64 (y + x)) = w4 at *
          have b0 := (s4.out.blkAt 2 rfl).cell 0 rfl
          have b1 := (s4.out.blkAt 2 rfl).cell 1 rfl
          have b2 := (s4.out.blkAt 2 rfl).cell 2 rfl
          have bl := (s4.out.blkAt 2 rfl).lt
          have bf := (s4.out.blkAt 2 rfl).free
          have k0 := (s4.out.blkAt 1 rfl).cell 0 rfl
          have k1 := (s4.out.blkAt 1 rfl).cell 1 rfl
          have k2 := (s4.out.blkAt 1 rfl).cell 2 rfl
          have kl := (s4.out.blkAt 1 rfl).lt
          have kf := (s4.out.blkAt 1 rfl).free
          have hS9 := ((s4.out.setAt 1 rfl 0 (.int .i64 n)).setAt 1 rfl 1 (.slice a m c)).setAt 1 rfl 2 (.slice (some ⟨g1, 0, none⟩) m c1)
          have s0 := (hS9.blkAt 1 rfl).cell 0 rfl
          have s1 := (hS9.blkAt 1 rfl).cell 1 rfl
          have s2 := (hS9.blkAt 1 rfl).cell 2 rfl
          have hfin := Lib.hid hS9.toMade
          clear hS9 s4
          try dsimp only
          go_wp2_with fail
          generalize ((w4.setCell ⟨C, 0, none⟩ (.int .i64 n)).setCell ⟨C, 1, none⟩ (.slice a m c)).setCell ⟨C, 2, none⟩ (.slice (some ⟨g1, 0, none⟩) m c1) = wf at *
          refine bodyPost_ret (v := .tuple #[.agg #[.int .i64 n, .slice a m c, .slice (some ⟨g1, 0, none⟩) m c1], .bool true]) ?_ rfl (.inr ⟨hyes.out, _, _, rfl, hfin.out⟩)
          simp [results, Tryz.results21, go_sem, s0, s1, s2]
        · have t1 : ((k : Int) % 2 == 0) = false := by simp; omega
          rw [if_neg h2]
          clear h2
          go_enter Tryz.func21, Tryz.ntmps21
          go_wp2_with fail
          refine (htl.out _ hS0.out.mod).mono ?_
          rintro e w1 ⟨rfl, hm1⟩
          have hS1 := Lib.hid (hS0.out.still hm1)
          clear hS0 c0 c1 cl hm1 htl
          generalize w.heap.size + 1 = C at *
          generalize w.heap.size = B at *
          have b0 := (hS1.out.blkAt 1 rfl).cell 0 rfl
          have b1 := (hS1.out.blkAt 1 rfl).cell 1 rfl
          have b2 := (hS1.out.blkAt 1 rfl).cell 2 rfl
          have bl := (hS1.out.blkAt 1 rfl).lt
          have bf := (hS1.out.blkAt 1 rfl).free
          try dsimp only
          go_wp2_with fail
          refine (hlf.out _ hS1.out.mod).mono ?_
          rintro e w2 ⟨rfl, hm2⟩
          have hS2 := Lib.hid (hS1.out.still hm2)
          clear b0 b1 b2 bl bf hm2 hlf hS1

          have b0 := (hS2.out.blkAt 1 rfl).cell 0 rfl
          have b1 := (hS2.out.blkAt 1 rfl).cell 1 rfl
          have b2 := (hS2.out.blkAt 1 rfl).cell 2 rfl
          have bl := (hS2.out.blkAt 1 rfl).lt
          have bf := (hS2.out.blkAt 1 rfl).free
          have hRd := Lib.hid (h'.out.f.still hS2.out.mod)
          rw [hm'.out] at hRd
          try dsimp only
          go_upto_region 4 with (at_builtin; refine app_rd rfl (.tmp 26) (.tmp 28) 33 2 _ 1 8 rfl Tryz.underlying33 infoI64c rfl (by omega) (by omega) (.slice (some ⟨w2.heap.size, 0, none⟩) 0 0) (.slice fa m fc) 0 m [] (i64s f) rfl rfl (i64s_one f) (World.ownsRow_made w2 #[] 0 (Nat.zero_le _) (Nat.zero_le _) rfl) (hRd.out.still ((Mod.refl _ _).alloc _)) (by omega) ?_; intro a1 c1 w3 hi mi ni)
          rw [Nat.zero_add] at hi ni
          have hmi : Made w2 w3 2 1 a1 m c1 (i64s f) := ⟨by simpa using hi, ((Mod.refl [] w2).alloc _).ge mi (by simp [Value.ownBlock]), ge_of_old _ (by simp [Value.ownBlock]) ni (by simp)⟩
          have hS3 := Lib.hid (hS2.out.made hmi)
          clear hi mi ni hmi hS2 b0 b1 b2 bl bf hRd
          obtain ⟨g1, rfl, hg1, hfz, hcell⟩ := row_form (hS3.out.rowAt 0 rfl) (by omega)
          have r5 := hcell (k / 2) (.int .i64 y) (i64s_got hgd'.out)
          have rz := hfz (k / 2)
          have hS4 := Lib.hid (hS3.out.rowsetAt 0 rfl (k / 2) (.int .i64 (y - x)))
          rw [i64s_set] at hS4
          clear hS3 hcell hfz
          go_upto_region 7 with fail
          clear r5 rz
          have s4 : Hid (Sep w (w3.setCell ⟨g1, k / 2, none⟩ (.int .i64 (y - x))) _) := hS4
          clear hS4
          generalize w3.setCell ⟨g1, k / 2, none⟩ (.int .i64 (y - x)) = w4 at *
          have b0 := (s4.out.blkAt 2 rfl).cell 0 rfl
          have b1 := (s4.out.blkAt 2 rfl).cell 1 rfl
          have b2 := (s4.out.blkAt 2 rfl).cell 2 rfl
          have bl := (s4.out.blkAt 2 rfl).lt
          have bf := (s4.out.blkAt 2 rfl).free
          have k0 := (s4.out.blkAt 1 rfl).cell 0 rfl
          have k1 := (s4.out.blkAt 1 rfl).cell 1 rfl
          have k2 := (s4.out.blkAt 1 rfl).cell 2 rfl
          have kl := (s4.out.blkAt 1 rfl).lt
          have kf := (s4.out.blkAt 1 rfl).free
          have hS9 := ((s4.out.setAt 1 rfl 0 (.int .i64 n)).setAt 1 rfl 1 (.slice a m c)).setAt 1 rfl 2 (.slice (some ⟨g1, 0, none⟩) m c1)
          have s0 := (hS9.blkAt 1 rfl).cell 0 rfl
          have s1 := (hS9.blkAt 1 rfl).cell 1 rfl
          have s2 := (hS9.blkAt 1 rfl).cell 2 rfl
          have hfin := Lib.hid hS9.toMade
          clear hS9 s4
          try dsimp only
          go_wp2_with fail
          generalize ((w4.setCell ⟨C, 0, none⟩ (.int .i64 n)).setCell ⟨C, 1, none⟩ (.slice a m c)).setCell ⟨C, 2, none⟩ (.slice (some ⟨g1, 0, none⟩) m c1) = wf at *
          refine bodyPost_ret (v := .tuple #[.agg #[.int .i64 n, .slice a m c, .slice (some ⟨g1, 0, none⟩) m c1], .bool true]) ?_ rfl (.inr ⟨hyes.out, _, _, rfl, hfin.out⟩)
          simp [results, Tryz.results21, go_sem, s0, s1, s2]
      · have hno := Lib.hid (show mayP L f (k : Int) x = false by rw [hmay]; simp; omega)
        generalize leftE L f k = y at *
        clear hmay hm
        go_enter Tryz.func21, Tryz.ntmps21
        go_wp2_with fail
        refine (htl.out _ hS0.out.mod).mono ?_
        rintro e w1 ⟨rfl, hm1⟩
        have hS1 := Lib.hid (hS0.out.still hm1)
        clear hS0 c0 c1 cl hm1 htl
        generalize w.heap.size + 1 = C at *
        generalize w.heap.size = B at *
        have b0 := (hS1.out.blkAt 1 rfl).cell 0 rfl
        have b1 := (hS1.out.blkAt 1 rfl).cell 1 rfl
        have b2 := (hS1.out.blkAt 1 rfl).cell 2 rfl
        have bl := (hS1.out.blkAt 1 rfl).lt
        have bf := (hS1.out.blkAt 1 rfl).free
        try dsimp only
        go_wp2_with fail
        refine (hlf.out _ hS1.out.mod).mono ?_
        rintro e w2 ⟨rfl, hm2⟩
        have hS2 := Lib.hid (hS1.out.still hm2)
        clear b0 b1 b2 bl bf hm2 hlf hS1

        have b0 := (hS2.out.blkAt 1 rfl).cell 0 rfl
        have b1 := (hS2.out.blkAt 1 rfl).cell 1 rfl
        have b2 := (hS2.out.blkAt 1 rfl).cell 2 rfl
        have bl := (hS2.out.blkAt 1 rfl).lt
        have bf := (hS2.out.blkAt 1 rfl).free
        have k0 := (hS2.out.blkAt 0 rfl).cell 0 rfl
        have k1 := (hS2.out.blkAt 0 rfl).cell 1 rfl
        have k2 := (hS2.out.blkAt 0 rfl).cell 2 rfl
        have kl := (hS2.out.blkAt 0 rfl).lt
        have kf := (hS2.out.blkAt 0 rfl).free
        have hS9 := ((hS2.out.setAt 0 rfl 0 (.int .i64 n)).setAt 0 rfl 1 (.slice a m c)).setAt 0 rfl 2 (.slice fa m fc)
        have s0 := (hS9.blkAt 0 rfl).cell 0 rfl
        have s1 := (hS9.blkAt 0 rfl).cell 1 rfl
        have s2 := (hS9.blkAt 0 rfl).cell 2 rfl
        have hfin := Lib.hid hS9.mod
        clear hS9
        try dsimp only
        go_wp2_with fail
        generalize ((w2.setCell ⟨C, 0, none⟩ (.int .i64 n)).setCell ⟨C, 1, none⟩ (.slice a m c)).setCell ⟨C, 2, none⟩ (.slice fa m fc) = wf at *
        refine bodyPost_ret (v := .tuple #[.agg #[.int .i64 n, .slice a m c, .slice fa m fc], .bool false]) ?_ rfl (.inl ⟨hno.out, rfl, hfin.out⟩)
        simp [results, Tryz.results21, go_sem, s0, s1, s2]
  · have hno := Lib.hid (show mayP L f i x = false by rw [hmay]; simp only [decide_eq_false_iff_not]; exact fun hh => hin hh.1)
    rw [tail_neg (by rw [hm]; exact hin)] at htl
    clear hmay hin hm hlf
    go_enter Tryz.func21, Tryz.ntmps21
    go_wp2_with fail
    refine (htl.out _ hS0.out.mod).mono ?_
    rintro e w1 ⟨rfl, hm1⟩
    have hS1 := Lib.hid (hS0.out.still hm1)
    clear hS0 c0 c1 cl hm1 htl
    generalize w.heap.size + 1 = C at *
    generalize w.heap.size = B at *

    have b0 := (hS1.out.blkAt 1 rfl).cell 0 rfl
    have b1 := (hS1.out.blkAt 1 rfl).cell 1 rfl
    have b2 := (hS1.out.blkAt 1 rfl).cell 2 rfl
    have bl := (hS1.out.blkAt 1 rfl).lt
    have bf := (hS1.out.blkAt 1 rfl).free
    have k0 := (hS1.out.blkAt 0 rfl).cell 0 rfl
    have k1 := (hS1.out.blkAt 0 rfl).cell 1 rfl
    have k2 := (hS1.out.blkAt 0 rfl).cell 2 rfl
    have kl := (hS1.out.blkAt 0 rfl).lt
    have kf := (hS1.out.blkAt 0 rfl).free
    have hS9 := ((hS1.out.setAt 0 rfl 0 (.int .i64 n)).setAt 0 rfl 1 (.slice a m c)).setAt 0 rfl 2 (.slice fa m fc)
    have s0 := (hS9.blkAt 0 rfl).cell 0 rfl
    have s1 := (hS9.blkAt 0 rfl).cell 1 rfl
    have s2 := (hS9.blkAt 0 rfl).cell 2 rfl
    have hfin := Lib.hid hS9.mod
    clear hS9
    try dsimp only
    go_wp2_with fail
    generalize ((w1.setCell ⟨C, 0, none⟩ (.int .i64 n)).setCell ⟨C, 1, none⟩ (.slice a m c)).setCell ⟨C, 2, none⟩ (.slice fa m fc) = wf at *
    refine bodyPost_ret (v := .tuple #[.agg #[.int .i64 n, .slice a m c, .slice fa m fc], .bool false]) ?_ rfl (.inl ⟨hno.out, rfl, hfin.out⟩)
    simp [results, Tryz.results21, go_sem, s0, s1, s2]
end Edge
end Go.Proofs.YtjpfmkfikidgkaaGreat

set_option linter.unusedVariables false
set_option linter.unusedSimpArgs false
namespace Go.Proofs.YtjpfmkfikidgkaaGreat
namespace Edge
/-- From v something may go to a vertex. -/
inductive Rch (L : List Ed) (f : List Int) (v : Nat) : Nat → Prop
  | base : Rch L f v v
  | step {u i h : Nat} : Rch L f v u → i < 2 * L.length → tailE L i = (u : Int) → 0 < leftE L f i → headE L i = (h : Int) → Rch L f v h
/-- All these vertices, in order. -/
def IsReach (L : List Ed) (f : List Int) (v : Nat) (l : List Nat) : Prop := (l.Pairwise fun a b => a < b) ∧ ∀ x, x ∈ l ↔ Rch L f v x
theorem reach_one {L : List Ed} {f : List Int} {v : Nat} {l m : List Nat} (hl : IsReach L f v l) (hm : IsReach L f v m) : l = m :=
  ascF_eq (f := fun x => (x : Int)) (hl.1.imp (fun {a b} h => by show (a : Int) < (b : Int); omega)) (hm.1.imp (fun {a b} h => by show (a : Int) < (b : Int); omega)) (fun x => by rw [hl.2, hm.2])
theorem rch_lt {n : Nat} {L : List Ed} {f : List Int} {v x : Nat} (hG : GOk n L) (hv : v < n) (h : Rch L f v x) : x < n := by
  cases h with
  | base => exact hv
  | step h1 h2 h3 h4 h5 =>
    have := head_in hG h2
    omega
theorem nodup_le : ∀ (n : Nat) (l : List Nat), l.Nodup → (∀ x ∈ l, x < n) → l.length ≤ n
  | 0, l, _, h => by
    cases l with
    | nil => simp
    | cons a l => have := h a (by simp); omega
  | n + 1, l, hd, h => by
    by_cases c : n ∈ l
    · have h1 := nodup_le n (l.erase n) (hd.erase n) (fun x hx => by
        rw [hd.mem_erase_iff] at hx
        have := h x hx.2
        omega)
      rw [List.length_erase_of_mem c] at h1
      omega
    · have := nodup_le n l hd (fun x hx => by
        have h1 := h x hx
        have h2 : x ≠ n := fun e => c (e ▸ hx)
        omega)
      omega
/-- The vertices found so far, of which the first i are done. -/
structure RSt (n : Nat) (L : List Ed) (f : List Int) (v : Nat) (O : List Nat) (i : Nat) : Prop where
  nd : O.Nodup
  rc : ∀ x ∈ O, Rch L f v x
  v0 : v ∈ O
  cl : ∀ u ∈ O.take i, ∀ a h : Nat, a < 2 * L.length → tailE L a = (u : Int) → 0 < leftE L f a → headE L a = (h : Int) → h ∈ O
theorem RSt.le {n : Nat} {L : List Ed} {f : List Int} {v : Nat} {O : List Nat} {i : Nat} (h : RSt n L f v O i) (hG : GOk n L) (hv : v < n) : O.length ≤ n := nodup_le n O h.nd (fun x hx => rch_lt hG hv (h.rc x hx))
theorem RSt.start (n : Nat) (L : List Ed) (f : List Int) (v : Nat) : RSt n L f v [v] 0 := ⟨by simp, fun x hx => by simp only [List.mem_singleton] at hx; subst hx; exact .base, by simp, by simp⟩
/-- A new one is found. -/
theorem RSt.more {n : Nat} {L : List Ed} {f : List Int} {v : Nat} {O : List Nat} {i : Nat} (hs : RSt n L f v O i) (hi : i < O.length) {a h : Nat} (ha : a < 2 * L.length) (ht : tailE L a = ((O[i] : Nat) : Int)) (hl : 0 < leftE L f a) (hh : headE L a = (h : Int)) (hn : h ∉ O) : RSt n L f v (O ++ [h]) i := by
  refine ⟨?_, fun x hx => ?_, by simp [hs.v0], fun u hu a' h' h1 h2 h3 h4 => ?_⟩
  · rw [List.nodup_append]
    refine ⟨hs.nd, by simp, ?_⟩
    intro x hx y hy
    rw [List.mem_singleton] at hy
    subst hy
    intro e
    subst e
    exact hn hx
  · rcases List.mem_append.1 hx with hx | hx
    · exact hs.rc x hx
    · rw [List.mem_singleton] at hx
      subst hx
      exact .step (hs.rc _ (List.getElem_mem hi)) ha ht hl hh
  · rw [List.take_append_of_le_length (by omega)] at hu
    exact List.mem_append.2 (.inl (hs.cl u hu a' h' h1 h2 h3 h4))
/-- One vertex is done. -/
theorem RSt.next {n : Nat} {L : List Ed} {f : List Int} {v : Nat} {O : List Nat} {i : Nat} (hs : RSt n L f v O i) (hi : i < O.length) (hd : ∀ a h : Nat, a < 2 * L.length → tailE L a = ((O[i] : Nat) : Int) → 0 < leftE L f a → headE L a = (h : Int) → h ∈ O) : RSt n L f v O (i + 1) := by
  refine ⟨hs.nd, hs.rc, hs.v0, fun u hu => ?_⟩
  rw [List.take_succ_eq_append_getElem hi, List.mem_append, List.mem_singleton] at hu
  rcases hu with hu | rfl
  · exact hs.cl u hu
  · exact hd
/-- All is found. -/
theorem RSt.all {n : Nat} {L : List Ed} {f : List Int} {v : Nat} {O : List Nat} (hs : RSt n L f v O O.length) : ∀ x, x ∈ O ↔ Rch L f v x := by
  intro x
  refine ⟨hs.rc x, fun hr => ?_⟩
  induction hr with
  | base => exact hs.v0
  | step h1 h2 h3 h4 h5 ih => exact hs.cl _ (by rw [List.take_length]; exact ih) _ _ h2 h3 h4 h5
theorem reach_sort {n : Nat} {L : List Ed} {f : List Int} {v : Nat} {O : List Nat} (hs : RSt n L f v O O.length) : ∃ l, IsReach L f v l ∧ l.length = O.length ∧ (ints O).mergeSort (fun x y => decide (x ≤ y)) = ints l := by
  have hp := List.mergeSort_perm (ints O) (fun x y => decide (x ≤ y))
  have hsort := List.pairwise_mergeSort (le := fun (x y : Int) => decide (x ≤ y)) (fun a b c h1 h2 => by simp only [decide_eq_true_eq] at *; omega) (fun a b => by simp only [Bool.or_eq_true, decide_eq_true_eq]; omega) (ints O)
  generalize (ints O).mergeSort (fun x y => decide (x ≤ y)) = S at *
  have hnn : ∀ y ∈ S, 0 ≤ y := fun y hy => by
    rw [hp.mem_iff] at hy
    unfold ints at hy
    obtain ⟨x, _, rfl⟩ := List.mem_map.1 hy
    omega
  have hSl : S = ints (S.map Int.toNat) := by
    unfold ints
    rw [List.map_map]
    conv => lhs; rw [← List.map_id S]
    exact List.map_congr_left (fun y hy => by have := hnn y hy; simp only [id, Function.comp]; omega)
  have hpO : (S.map Int.toNat).Perm O := by
    have h1 := hp.map Int.toNat
    have h2 : (ints O).map Int.toNat = O := by
      unfold ints
      rw [List.map_map]
      conv => rhs; rw [← List.map_id O]
      exact List.map_congr_left (fun y _ => by simp)
    rw [h2] at h1
    exact h1
  refine ⟨S.map Int.toNat, ⟨?_, fun x => by rw [hpO.mem_iff]; exact hs.all x⟩, hpO.length_eq, hSl⟩
  have hnd : (S.map Int.toNat).Nodup := hpO.nodup_iff.2 hs.nd
  have h3 : (S.map Int.toNat).Pairwise fun a b => a ≤ b := by
    rw [List.pairwise_map]
    exact hsort.imp (fun {a b} h => by have : a ≤ b := (by simpa using h); omega)
  exact (h3.and hnd).imp (fun {a b} h => by have := h.1; have := h.2; omega)
/-- Who has been met. -/
def metL (n : Nat) (O : List Nat) : List Bool := (List.range n).map fun x => decide (x ∈ O)
theorem metL_len (n : Nat) (O : List Nat) : (metL n O).length = n := by simp [metL]
theorem metL_get {n : Nat} {O : List Nat} {x : Nat} (h : x < n) : (metL n O)[x]? = some (decide (x ∈ O)) := by
  unfold metL
  rw [List.getElem?_map, List.getElem?_range h]; rfl
theorem metL_nil (n : Nat) : metL n [] = List.replicate n false := by
  apply List.eq_replicate_iff.2 ⟨metL_len _ _, ?_⟩
  intro x hx
  simp only [metL, List.mem_map] at hx
  obtain ⟨v, _, rfl⟩ := hx
  simp
theorem metL_set (n : Nat) (O : List Nat) (h : Nat) : (metL n O).set h true = metL n (O ++ [h]) := by
  apply List.ext_getElem
  · simp [metL]
  intro i g1 g2
  simp only [metL, List.getElem_set, List.getElem_map, List.getElem_range]
  by_cases c : h = i
  · subst c; simp
  · rw [if_neg c]
    have : (i ∈ O ++ [h]) ↔ i ∈ O := by
      rw [List.mem_append, List.mem_singleton]
      exact ⟨fun hh => hh.elim id (fun e => absurd e.symm c), .inl⟩
    simp only [this]
end Edge
end Go.Proofs.YtjpfmkfikidgkaaGreat

set_option linter.unusedVariables false
set_option linter.unusedSimpArgs false
namespace Go.Proofs.YtjpfmkfikidgkaaGreat
namespace Edge
def hasB (B : List Bool) (x : Nat) : Bool := B.getD x false
def cntB (B : List Bool) : Nat := B.countP id
def stepA (L : List Ed) (f : List Int) (B : List Bool) (i : Nat) : List Bool := if hasB B (tailE L i).toNat = true ∧ 0 < leftE L f i then B.set (headE L i).toNat true else B
def roundA (L : List Ed) (f : List Int) (B : List Bool) : Nat → List Bool
  | 0 => B
  | k + 1 => stepA L f (roundA L f B k) k
def roundsA (L : List Ed) (f : List Int) (B : List Bool) : Nat → List Bool
  | 0 => B
  | j + 1 => roundA L f (roundsA L f B j) (2 * L.length)
theorem hasB_set {B : List Bool} {h : Nat} (hh : h < B.length) (x : Nat) : hasB (B.set h true) x = (decide (h = x) || hasB B x) := by
  unfold hasB
  rw [List.getD_eq_getElem?_getD, List.getD_eq_getElem?_getD, List.getElem?_set]
  by_cases c : h = x
  · subst c; simp [hh]
  · simp [c]
theorem set_grow : ∀ {B : List Bool} {h : Nat}, h < B.length → hasB B h = false → cntB (B.set h true) = cntB B + 1
  | b :: B, 0, _, h2 => by
    have h3 : b = false := by simpa [hasB] using h2
    subst h3
    simp [cntB]
  | b :: B, h + 1, h1, h2 => by
    have := set_grow (B := B) (h := h) (by simpa using h1) (by simpa [hasB] using h2)
    simp only [cntB, List.set_cons_succ, List.countP_cons] at this ⊢
    omega
theorem set_same : ∀ {B : List Bool} {h : Nat}, hasB B h = true → B.set h true = B
  | [], h, h2 => by simp
  | b :: B, 0, h2 => by
    have h3 : b = true := by simpa [hasB] using h2
    subst h3
    simp
  | b :: B, h + 1, h2 => by
    have := set_same (B := B) (h := h) (by simpa [hasB] using h2)
    simp [this]
theorem cnt_le (B : List Bool) : cntB B ≤ B.length := List.countP_le_length
section
variable {n : Nat} {L : List Ed} {f : List Int}
theorem stepA_len (B : List Bool) (i : Nat) : (stepA L f B i).length = B.length := by unfold stepA; split <;> simp
theorem roundA_len (B : List Bool) : ∀ k, (roundA L f B k).length = B.length
  | 0 => rfl
  | k + 1 => by rw [roundA, stepA_len, roundA_len B k]
theorem roundsA_len (B : List Bool) : ∀ j, (roundsA L f B j).length = B.length
  | 0 => rfl
  | j + 1 => by rw [roundsA, roundA_len, roundsA_len B j]
def closedA (L : List Ed) (f : List Int) (B : List Bool) (k : Nat) : Prop := ∀ i, i < k → hasB B (tailE L i).toNat = true → 0 < leftE L f i → hasB B (headE L i).toNat = true
theorem step_or (hG : GOk n L) {B : List Bool} (hB : B.length = n) {i : Nat} (hi : i < 2 * L.length) :
    (stepA L f B i = B ∧ (hasB B (tailE L i).toNat = true → 0 < leftE L f i → hasB B (headE L i).toNat = true)) ∨ cntB (stepA L f B i) = cntB B + 1 := by
  unfold stepA
  by_cases c : hasB B (tailE L i).toNat = true ∧ 0 < leftE L f i
  · rw [if_pos c]
    cases ch : hasB B (headE L i).toNat with
    | true => exact .inl ⟨set_same ch, fun _ _ => rfl⟩
    | false =>
      have := head_in hG hi
      exact .inr (set_grow (by omega) ch)
  · rw [if_neg c]
    exact .inl ⟨rfl, fun h1 h2 => absurd ⟨h1, h2⟩ c⟩
theorem round_or (hG : GOk n L) {B : List Bool} (hB : B.length = n) : ∀ k, k ≤ 2 * L.length → (roundA L f B k = B ∧ closedA L f B k) ∨ cntB B + 1 ≤ cntB (roundA L f B k)
  | 0, _ => .inl ⟨rfl, fun i hi => by omega⟩
  | k + 1, hk => by
    have hs := step_or (f := f) hG (B := roundA L f B k) (by rw [roundA_len, hB]) (i := k) (by omega)
    rcases round_or hG hB k (by omega) with ⟨h1, h2⟩ | h1
    · rw [roundA]
      rw [h1] at hs ⊢
      rcases hs with ⟨h3, h4⟩ | h3
      · refine .inl ⟨h3, fun i hi => ?_⟩
        by_cases c : i = k
        · subst c; exact h4
        · exact h2 i (by omega)
      · exact .inr (by omega)
    · rw [roundA]
      rcases hs with ⟨h3, _⟩ | h3
      · rw [h3]; exact .inr h1
      · exact .inr (by omega)
theorem closed_same {B : List Bool} (hc : closedA L f B (2 * L.length)) : ∀ k, k ≤ 2 * L.length → roundA L f B k = B
  | 0, _ => rfl
  | k + 1, hk => by
    rw [roundA, closed_same hc k (by omega)]
    unfold stepA
    by_cases c : hasB B (tailE L k).toNat = true ∧ 0 < leftE L f k
    · rw [if_pos c]; exact set_same (hc k (by omega) c.1 c.2)
    · rw [if_neg c]
theorem rounds_or (hG : GOk n L) {B : List Bool} (hB : B.length = n) : ∀ j, closedA L f (roundsA L f B j) (2 * L.length) ∨ cntB B + j ≤ cntB (roundsA L f B j)
  | 0 => .inr (Nat.le_refl _)
  | j + 1 => by
    rcases rounds_or hG hB j with h | h
    · rw [roundsA, closed_same h _ (Nat.le_refl _)]; exact .inl h
    · rcases round_or (f := f) hG (B := roundsA L f B j) (by rw [roundsA_len, hB]) (2 * L.length) (Nat.le_refl _) with ⟨h1, h2⟩ | h1
      · rw [roundsA, h1]; exact .inl h2
      · rw [roundsA]; exact .inr (by omega)
theorem hasB_lt {B : List Bool} {x : Nat} (h : hasB B x = true) : x < B.length := by
  unfold hasB at h
  rw [List.getD_eq_getElem?_getD] at h
  cases c : B[x]? with
  | none => rw [c] at h; simp at h
  | some _ => exact (List.getElem?_eq_some_iff.1 c).1
def goodA (L : List Ed) (f : List Int) (v : Nat) (B : List Bool) : Prop := hasB B v = true ∧ ∀ x, hasB B x = true → Rch L f v x
theorem goodA.step (hG : GOk n L) {v : Nat} {B : List Bool} (hB : B.length = n) (h : goodA L f v B) {i : Nat} (hi : i < 2 * L.length) : goodA L f v (stepA L f B i) := by
  unfold stepA
  by_cases c : hasB B (tailE L i).toNat = true ∧ 0 < leftE L f i
  · rw [if_pos c]
    have hh := head_in hG hi
    have ht := tail_in hG hi
    have hl : (headE L i).toNat < B.length := by omega
    refine ⟨by rw [hasB_set hl, h.1]; simp, fun x hx => ?_⟩
    rw [hasB_set hl] at hx
    simp only [Bool.or_eq_true, decide_eq_true_eq] at hx
    rcases hx with rfl | hx
    · exact .step (h.2 _ c.1) hi (by omega) c.2 (by omega)
    · exact h.2 x hx
  · rw [if_neg c]; exact h
theorem goodA.round (hG : GOk n L) {v : Nat} {B : List Bool} (hB : B.length = n) (h : goodA L f v B) : ∀ k, k ≤ 2 * L.length → goodA L f v (roundA L f B k)
  | 0, _ => h
  | k + 1, hk => (goodA.round hG hB h k (by omega)).step hG (by rw [roundA_len, hB]) (by omega)
theorem goodA.rounds (hG : GOk n L) {v : Nat} {B : List Bool} (hB : B.length = n) (h : goodA L f v B) : ∀ j, goodA L f v (roundsA L f B j)
  | 0 => h
  | j + 1 => (goodA.rounds hG hB h j).round hG (by rw [roundsA_len, hB]) _ (Nat.le_refl _)
/-- At first v alone. -/
def oneB (n v : Nat) : List Bool := (List.replicate n false).set v true
theorem oneB_len (n v : Nat) : (oneB n v).length = n := by simp [oneB]
theorem hasB_none (n x : Nat) : hasB (List.replicate n false) x = false := by
  unfold hasB
  rw [List.getD_eq_getElem?_getD, List.getElem?_replicate]
  split <;> rfl
theorem oneB_has {v : Nat} (hv : v < n) (x : Nat) : hasB (oneB n v) x = decide (v = x) := by
  unfold oneB
  rw [hasB_set (by simpa using hv), hasB_none]; simp
theorem oneB_cnt {v : Nat} (hv : v < n) : cntB (oneB n v) = 1 := by
  unfold oneB
  rw [set_grow (by simpa using hv) (hasB_none n v)]
  simp [cntB, List.countP_replicate]
/-- Who is in it. -/
def listB (n : Nat) (B : List Bool) : List Nat := (List.range n).filter fun x => hasB B x
theorem rounds_all (hG : GOk n L) {v : Nat} (hv : v < n) : IsReach L f v (listB n (roundsA L f (oneB n v) n)) := by
  have hl := oneB_len n v
  have hg : goodA L f v (roundsA L f (oneB n v) n) := goodA.rounds hG hl ⟨by rw [oneB_has hv]; simp, fun x hx => by
    rw [oneB_has hv] at hx
    have : v = x := by simpa using hx
    subst this
    exact .base⟩ n
  have hc : closedA L f (roundsA L f (oneB n v) n) (2 * L.length) := by
    rcases rounds_or (f := f) hG hl n with h | h
    · exact h
    · rw [oneB_cnt hv] at h
      have := cnt_le (roundsA L f (oneB n v) n)
      rw [roundsA_len, hl] at this
      omega
  refine ⟨?_, fun x => ?_⟩
  · exact (List.pairwise_lt_range (n := n)).filter _
  · unfold listB
    rw [List.mem_filter, List.mem_range]
    refine ⟨fun h => hg.2 x h.2, fun h => ⟨rch_lt hG hv h, ?_⟩⟩
    induction h with
    | base => exact hg.1
    | step h1 h2 h3 h4 h5 ih =>
      have := hc _ h2
      rw [h3, h5, Int.toNat_natCast, Int.toNat_natCast] at this
      exact this ih h4
end
end Edge
end Go.Proofs.YtjpfmkfikidgkaaGreat

set_option linter.unusedVariables false
set_option linter.unusedSimpArgs false
namespace Go.Proofs.YtjpfmkfikidgkaaGreat
open Go.RowKit
namespace Edge
theorem infoB5 : (Tryz.prog.info? 4).map (fun i => (i.zero, i.size, i.bytes)) = some (some (.bool false), 1, 1) := by kernel_rfl
theorem infoI5 : (Tryz.prog.info? 3).map (fun i => (i.zero, i.size, i.bytes)) = some (some (.int .i64 0), 1, 8) := by kernel_rfl
def boolV (l : List Bool) : List Value := l.map Value.bool
theorem boolV_got {l : List Bool} {i : Nat} {b : Bool} (h : l[i]? = some b) : (boolV l)[i]? = some (.bool b) := by simp [boolV, h]
theorem boolV_set (l : List Bool) (i : Nat) (b : Bool) : (boolV l).set i (.bool b) = boolV (l.set i b) := by simp [boolV, List.map_set]
theorem boolV_none (n : Nat) : boolV (List.replicate n false) = List.replicate n (.bool false) := by simp [boolV]
theorem lit_made (w : World) (e : Nat) (v : Value) : Made w (w.alloc (.cells #[v] e)) e 1 (some ⟨w.heap.size, 0, none⟩) 1 1 [v] := by
  have := made_made w e v 1 (by omega)
  rw [made_list] at this
  exact this
section
variable {w : World} {r ba n : Nat} {L : List Ed} {f : List Int} {F F2 : List Nat}
set_option maxRecDepth 100000 in
set_option maxHeartbeats 4000000 in
theorem rreach_p (h : RestP r ba n L f w F) (hA : ArcP ba n L w F2) (hG : GOk n L) {v : Nat} (hv : v < n) :
    Calls Tryz.prog 110 #[.pointer (some ⟨r, 0, none⟩), .int .i64 (v : Int)] w fun e w' => ∃ l a c, IsReach L f v l ∧ e = .returned (.slice a l.length c) ∧ Made w w' 3 1 a l.length c (i64s (ints l)) := by
  have ca := Lib.hid (rarcs_p h)
  have cn := Lib.hid (an_p hA hG)
  have hn4 : n ≤ 4096 := hG.le
  obtain ⟨gl, go, hr⟩ := h.rd
  obtain ⟨N2, hN2⟩ : ∃ N2, 2 * L.length = N2 := ⟨_, rfl⟩
  have hN2b : N2 ≤ 2097152 := by have := hG.len; omega
  have hb0 := Lib.hid (fun W (m : Mod [] w W) => (hr.hb.keep m (by simp)).cell 0 rfl)
  have hb1 := Lib.hid (fun W (m : Mod [] w W) => (hr.hb.keep m (by simp)).cell 1 rfl)
  have hleft := Lib.hid (fun W (m : Mod [] w W) (k : Nat) (hk : k < N2) => show W.cell? ⟨gl, k, none⟩ = some (.int .i64 (leftE L f k)) by
    have := (own_keep hr.left m (by simp)).cellAt k (by omega)
    rw [i64s_got (leftL_get (by omega))] at this
    exact this)
  have b0 := hr.hb.cell 0 rfl
  have bl := hr.hb.lt
  have gll : gl < w.heap.size := own_lt hr.left (g := gl) rfl
  have hcall := Lib.hid (fun W (m : Mod [] w W) (u : Nat) (hu : u < n) => show Calls Tryz.prog 75 #[.pointer (some ⟨ba, 0, none⟩), .int .i64 (u : Int)] W fun e w' => ∃ a c, e = .returned (.slice a (ofS n L u).length c) ∧ Made W w' 3 1 a (ofS n L u).length c (i64s (ints (ofS n L u))) by
    have h1 := aout_p (Good.keep hA m (by simp)) hG (u : Int)
    have e : outI n L (u : Int) = ints (ofS n L u) := by unfold outI; rw [if_pos (by omega), Int.toNat_natCast]
    rw [e, ints_len] at h1
    exact h1)
  have hhead := Lib.hid (fun W (m : Mod [] w W) (k : Nat) => show Calls Tryz.prog 39 #[.pointer (some ⟨ba, 0, none⟩), .int .i64 (k : Int)] W fun e w' => e = .returned (.int .i64 (headE L k)) ∧ w' = W by
    have h1 := ahead_p (Good.keep hA m (by simp)) hG (k : Int)
    have e : headI L (k : Int) = headE L k := by unfold headI; rw [if_neg (by omega), Int.toNat_natCast]
    rw [e] at h1
    exact h1)
  have hmk := make_run (P := Tryz.prog) 211 4 (.bool false) 1 Tryz.underlying211 infoB5 rfl (by omega) n (by omega)
  have hst : Hid (Sep w (w.alloc (.cells (madeCells #[.bool false] n) 4)) [Row 4 1 n (.slice (some ⟨w.heap.size, 0, none⟩) n n) (boolV (metL n []))]) := Lib.hid (by
    have h5 := (Sep.empty w).made (made_made w 4 (.bool false) n (by omega))
    rw [metL_nil, boolV_none]
    exact h5)
  have hG' := Lib.hid hG
  rw [hN2] at hb1
  have hN2' := Lib.hid hN2
  have hvl : (v : Int) < n := by omega
  have t1 : decide ((n : Int) ≤ (v : Int)) = false := by simp; omega
  have t2 : decide ((v : Int) < 0) = false := by simp
  clear h hA hr hG hN2
  go_enter Tryz.func110, Tryz.ntmps110
  go_upto_region 4 with (first
    | (go_at_call 23; refine ca.out.mono ?_; rintro e w1 ⟨rfl, hw1⟩; subst w1)
    | (go_at_call 105; refine cn.out.mono ?_; rintro e w1 ⟨rfl, hw1⟩; subst w1))
  clear hmk b0
  have hgg := (hst.out.rowAt 0 rfl).frozenAt v
  have hgc : ∃ u, (w.alloc (.cells (madeCells #[.bool false] n) 4)).cell? ⟨w.heap.size, v, none⟩ = some u := by
    have h1 := (hst.out.rowAt 0 rfl).cellAt v (by omega)
    rw [boolV_got (metL_get hv)] at h1
    exact ⟨_, h1⟩
  have hgl : w.heap.size < (w.alloc (.cells (madeCells #[.bool false] n) 4)).heap.size := own_lt (hst.out.rowAt 0 rfl) (g := w.heap.size) rfl
  have hst2 := Lib.hid (by
    have h5 := hst.out.rowsetAt 0 rfl v (.bool true)
    rw [boolV_set, metL_set] at h5
    exact (h5.made (lit_made _ 3 (.int .i64 (v : Int)))).swap)
  obtain ⟨u0, hgc⟩ := hgc
  clear hst
  have hrlt := Lib.hid (fun W (m : Mod [] w W) => Nat.lt_of_lt_of_le bl m.size)
  have hglt := Lib.hid (fun W (m : Mod [] w W) => Nat.lt_of_lt_of_le gll m.size)
  generalize w.alloc (.cells (madeCells #[.bool false] n) 4) = w1 at *
  generalize w.heap.size = g at *
  go_wp2_with fail
  have hst3 : Hid (Sep w ((w1.setCell ⟨g, v, none⟩ (.bool true)).alloc (.cells #[.int .i64 (v : Int)] 3)) [Row 4 1 n (.slice (some ⟨g, 0, none⟩) n n) (boolV (metL n [v])), Row 3 1 1 (.slice (some ⟨w1.heap.size, 0, none⟩) 1 1) (i64s (ints [v]))]) := Lib.hid (by
    have h5 := hst2.out
    simp only [World.setCell, Array.size_modify] at h5 ⊢
    exact h5)
  clear hst2 hgc hgg hgl gll bl
  go_loopw [6, 7] (fun s6 s7 wr => ∃ (O : List Nat) (m i : Nat) (a : Option Addr) (c : Nat), Hid (O.length = m) ∧ Hid (RSt n L f v O i) ∧ i ≤ m ∧ m ≤ n ∧ s6 = .slice a m c ∧ s7 = .int .i64 i ∧ Hid (Sep w wr [Row 4 1 n (.slice (some ⟨g, 0, none⟩) n n) (boolV (metL n O)), Row 3 1 m (.slice a m c) (i64s (ints O))])) (fun _ s7 _ => n - (intOf s7).toNat)
  case atStart => exact ⟨[v], 1, 0, _, _, Lib.hid rfl, Lib.hid (RSt.start n L f v), by omega, by omega, rfl, rfl, hst3⟩
  case round =>
    clear hst3
    obtain ⟨O, m, i, a, c, hOm, hRs, him, hmn, rfl, rfl, hS⟩ := hrel
    by_cases hlt : i < m
    · have hlt1 : (i : Int) < m := by omega
      have hiO : i < O.length := by rw [hOm.out]; exact hlt
      obtain ⟨u, hu⟩ : ∃ u, O[i] = u := ⟨_, rfl⟩
      have hun : u < n := hu ▸ rch_lt hG'.out hv (hRs.out.rc _ (List.getElem_mem hiO))
      have hui := Lib.hid (show O[i]? = some u by rw [List.getElem?_eq_getElem hiO, hu])
      obtain ⟨go2, rfl, hgo2, _, hcell⟩ := row_form (hS.out.rowAt 1 rfl) (by omega)
      have cO := hcell i (.int .i64 (u : Int)) (by
        have : (ints O)[i]? = some (u : Int) := by unfold ints; rw [List.getElem?_map, hui.out]; rfl
        exact i64s_got this)
      have fO : ∀ m : Fut (Mod []) wr.drew, m.v.cell? ⟨go2, i, none⟩ = some (.int .i64 (u : Int)) := fun m' => by
        have h5 := hS.out.still ((Mod.refl [] wr).drew.trans m'.of (by simp))
        obtain ⟨g', e', _, _, hc'⟩ := row_form (h5.rowAt 1 rfl) (by omega)
        injection e' with e'; injection e' with e'; subst e'
        refine hc' i _ ?_
        have : (ints O)[i]? = some (u : Int) := by unfold ints; rw [List.getElem?_map, hui.out]; rfl
        exact i64s_got this
      have f0 : ∀ m : Fut (Mod []) wr.drew, m.v.cell? ⟨r, 0, none⟩ = some (.pointer (some ⟨ba, 0, none⟩)) := fun m' => hb0.out _ (hS.out.mod.trans ((Mod.refl [] wr).drew.trans m'.of (by simp)) (by simp))
      have c0 := f0 ⟨_, Mod.refl _ _⟩
      have cc := Lib.hid (hcall.out wr.drew hS.out.mod.drew u hun)
      obtain ⟨K, hK⟩ : ∃ K, (ofS n L u).length = K := ⟨_, rfl⟩
      rw [hK] at cc
      have hK' := Lib.hid hK
      have hKb : K ≤ 2097152 := by
        have h5 := ofU_le L (2 * L.length) u
        have h6 := ofS_len hG'.out u
        have h7 := hN2'.out
        unfold cntE at h6
        omega
      have hrl : r < wr.heap.size := hrlt.out _ hS.out.mod
      clear hK hu hiO hcell
      go_upto_region 9 with fail
      refine region_sched (G := Mod []) [([0,1,2,3,4,5,6,7,10],8)] [9] (by kernel_rfl) (by kernel_rfl) (by kernel_rfl) rfl (Mod.refl _) (fun _ _ _ h1 h2 => h1.trans h2 (by simp)) ?_
      simp only [stages, pickO, nthO, headO, List.append_eq, List.cons_append, List.nil_append]
      refine sched_step ?_
      repeat (go_big_quiet_step (fail))
      refine wpQuiet_nil ?_
      intro K1 hK1
      rw [if_pos (by rfl)]
      go_simp
      refine cc.out.mono ?_
      rintro e w2 ⟨a2, c2, rfl, hm2⟩
      have hS2 := Lib.hid ((hS.out.still (Mod.refl [] wr).drew).made hm2)
      have hm2' := hm2.mod
      clear hm2 hS
      try dsimp only
      refine hK1.out _ _ hm2' ?_
      clear hK1 K1 hm2' f0 fO c0 cO
      refine sched_last ?_
      repeat (go_big_quiet_step (fail))
      refine wpQuiet_nil ?_
      go_wp2_with fail
      have hS3 := Lib.hid (hS2.out.back2)
      clear hS2
      generalize hwx : wr.drew = wx at *
      clear hwx
      go_loopw [6, 47] (fun s6 s47 wq => ∃ (O : List Nat) (m j : Nat) (a : Option Addr) (c : Nat), Hid (O.length = m) ∧ Hid (RSt n L f v O i) ∧ Hid (O[i]? = some u) ∧ Hid (∀ x ∈ (ofS n L u).take j, 0 < leftE L f x → ∀ hd : Nat, headE L x = (hd : Int) → hd ∈ O) ∧ j ≤ K ∧ i < m ∧ m ≤ n ∧ s6 = .slice a m c ∧ s47 = .int .i64 j ∧ Hid (Sep w wq [Row 4 1 n (.slice (some ⟨g, 0, none⟩) n n) (boolV (metL n O)), Row 3 1 m (.slice a m c) (i64s (ints O)), Row 3 1 K (.slice a2 K c2) (i64s (ints (ofS n L u)))])) (fun _ s47 _ => K - (intOf s47).toNat)
      case atStart => exact ⟨O, m, 0, _, c, hOm, hRs, hui, Lib.hid (by simp), by omega, hlt, hmn, rfl, rfl, hS3⟩
      case round =>
        clear hS3 hOm hRs hui
        obtain ⟨O, m, j, a, c, hOm, hRs, hui, hdn, hjK, him, hmn, rfl, rfl, hS⟩ := hrel
        by_cases hlj : j < K
        · have hlj1 : (j : Int) < K := by omega
          obtain ⟨x, hx⟩ : ∃ x, (ofS n L u)[j]? = some x := ⟨_, List.getElem?_eq_getElem (by rw [hK'.out]; exact hlj)⟩
          have hxm := (mem_ofS hG'.out (v := u)).1 (List.mem_of_getElem? hx)
          have hxN : x < N2 := by have := hN2'.out; omega
          obtain ⟨hd, hhd⟩ := Int.eq_ofNat_of_zero_le (head_in hG'.out hxm.1).1
          have hdn1 : hd < n := by have := (head_in hG'.out hxm.1).2; omega
          obtain ⟨ga, rfl, hga, _, hcell⟩ := row_form (hS.out.rowAt 2 rfl) (by omega)
          have cX := hcell j (.int .i64 (x : Int)) (by
            have : (ints (ofS n L u))[j]? = some (x : Int) := by unfold ints; rw [List.getElem?_map, hx]; rfl
            exact i64s_got this)
          have hx' := Lib.hid hx
          have hxm' := Lib.hid hxm
          have hhd' := Lib.hid hhd
          have c0 := hb0.out _ hS.out.mod
          have c1 := hb1.out _ hS.out.mod
          have cl := hleft.out _ hS.out.mod x hxN
          have l1 := hrlt.out _ hS.out.mod
          have l2 := hglt.out _ hS.out.mod
          have chd := Lib.hid (hhead.out _ hS.out.mod x)
          rw [hhd] at chd
          have cm : wr.cell? ⟨g, hd, none⟩ = some (.bool (decide (hd ∈ O))) := by
            have h1 := (hS.out.rowAt 0 rfl).cellAt hd (by omega)
            rw [boolV_got (metL_get hdn1)] at h1
            exact h1
          have fm := (hS.out.rowAt 0 rfl).frozenAt hd
          have lg : g < wr.heap.size := own_lt (hS.out.rowAt 0 rfl) (g := g) rfl
          have hdl : (hd : Int) < n := by omega
          have hxl : (x : Int) < N2 := by omega
          have htk : (ofS n L u).take (j + 1) = (ofS n L u).take j ++ [x] := by rw [List.take_add_one, hx]; rfl
          have htk' := Lib.hid htk
          clear hx hxm hhd hcell htk
          by_cases hle : 0 < leftE L f x
          · by_cases hmet : hd ∈ O
            · have hnew := Lib.hid (show ∀ y ∈ (ofS n L u).take (j + 1), 0 < leftE L f y → ∀ hd : Nat, headE L y = (hd : Int) → hd ∈ O by
                intro y hy h1 hd2 h2
                rw [htk'.out, List.mem_append, List.mem_singleton] at hy
                rcases hy with hy | rfl
                · exact hdn.out y hy h1 hd2 h2
                · rw [hhd'.out] at h2
                  have : hd = hd2 := by omega
                  subst this
                  exact hmet)
              have hmt : decide (hd ∈ O) = true := by simpa using hmet
              rw [hmt] at cm
              clear hmt hmet
              generalize leftE L f x = z at *
              go_wp2_with (go_at_call 39; refine chd.out.mono ?_; rintro e w1 ⟨rfl, hw1⟩; subst w1)
              go_roundw
              case rel => exact ⟨O, m, j + 1, a, c, hOm, hRs, hui, hnew, by omega, him, hmn, rfl, by go_num, hS⟩
              case measure => simp [intOf]; omega
            · have hmt : decide (hd ∈ O) = false := by simpa using hmet
              rw [hmt] at cm
              have hiO : i < O.length := by rw [hOm.out]; exact him
              have hmore := Lib.hid (RSt.more hRs.out hiO (hxm'.out.1) (by rw [hxm'.out.2]; have := hui.out; rw [List.getElem?_eq_getElem hiO] at this; injection this with this; rw [this]) hle hhd'.out hmet)
              have hlen2 := Lib.hid (show (O ++ [hd]).length = m + 1 by rw [List.length_append, hOm.out]; rfl)
              have hmn2 : m + 1 ≤ n := by rw [← hlen2.out]; exact hmore.out.le hG'.out hv
              have hui2 := Lib.hid (show (O ++ [hd])[i]? = some u by rw [List.getElem?_append_left hiO]; exact hui.out)
              have hnew := Lib.hid (show ∀ y ∈ (ofS n L u).take (j + 1), 0 < leftE L f y → ∀ h2 : Nat, headE L y = (h2 : Int) → h2 ∈ O ++ [hd] by
                intro y hy h1 hd2 h2
                rw [htk'.out, List.mem_append, List.mem_singleton] at hy
                rw [List.mem_append, List.mem_singleton]
                rcases hy with hy | rfl
                · exact .inl (hdn.out y hy h1 hd2 h2)
                · rw [hhd'.out] at h2
                  exact .inr (by omega))
              have hS6 := Lib.hid (by
                have h5 := hS.out.rowsetAt 0 rfl hd (.bool true)
                rw [boolV_set, metL_set] at h5
                exact h5)
              have hgr := Lib.hid (show ∀ (a1 : Option Addr) (c1 : Nat) (w6 : World), w6.ownsRow 0 3 1 (.slice a1 (m + 1) c1) (m + 1) (i64s (ints O) ++ [.int .i64 (hd : Int)]) → Mod (Value.slice a m c).ownBlock.toList (wr.setCell ⟨g, hd, none⟩ (.bool true)) w6 → ((Value.slice a1 (m + 1) c1).ownBlock = (Value.slice a m c).ownBlock ∨ ∃ b, (Value.slice a1 (m + 1) c1).ownBlock = some b ∧ (wr.setCell ⟨g, hd, none⟩ (.bool true)).heap.size ≤ b) →
                  Sep w w6 [Row 4 1 n (.slice (some ⟨g, 0, none⟩) n n) (boolV (metL n (O ++ [hd]))), Row 3 1 (m + 1) (.slice a1 (m + 1) c1) (i64s (ints (O ++ [hd]))), Row 3 1 K (.slice (some ⟨ga, 0, none⟩) K c2) (i64s (ints (ofS n L u)))] by
                intro a1 c1 w6 h1 h2 h3
                rw [← ints_snoc] at h1
                exact hS6.out.growAt 1 rfl h1 h2 h3)
              clear hmt hmet hiO
              generalize leftE L f x = z at *
              go_wp2_with (first
                | (go_at_call 39; refine chd.out.mono ?_; rintro e w1 ⟨rfl, hw1⟩; subst w1)
                | (at_builtin; refine app_own rfl (.tmp 75) (.tmp 77) 51 3 _ 1 8 rfl Tryz.underlying51 infoI5 rfl (by omega) (by omega) (.slice a m c) m 1 (i64s (ints O)) [.int .i64 (hd : Int)] rfl rfl (by simp [World.setCell]) rfl (by simp [Value.oneCell']) (hS6.out.rowAt 1 rfl) (by omega) ?_; intro a1 c1 w6 ho6 hm6 hb6; have hS7 := Lib.hid (hgr.out a1 c1 w6 ho6 hm6 hb6); clear ho6 hm6 hb6))
              go_roundw
              case rel => exact ⟨O ++ [hd], m + 1, j + 1, a1, c1, hlen2, hmore, hui2, hnew, by omega, by omega, hmn2, rfl, by go_num, hS7⟩
              case measure => simp [intOf]; omega
          · have hnew := Lib.hid (show ∀ y ∈ (ofS n L u).take (j + 1), 0 < leftE L f y → ∀ hd : Nat, headE L y = (hd : Int) → hd ∈ O by
              intro y hy h1 hd2 h2
              rw [htk'.out, List.mem_append, List.mem_singleton] at hy
              rcases hy with hy | rfl
              · exact hdn.out y hy h1 hd2 h2
              · exact absurd h1 hle)
            generalize leftE L f x = z at *
            go_wp2_with (go_at_call 39; refine chd.out.mono ?_; rintro e w1 ⟨rfl, hw1⟩; subst w1)
            go_roundw
            case rel => exact ⟨O, m, j + 1, a, c, hOm, hRs, hui, hnew, by omega, him, hmn, rfl, by go_num, hS⟩
            case measure => simp [intOf]; omega
        · have hjk : j = K := by omega
          have hiO : i < O.length := by rw [hOm.out]; exact him
          have hnx := Lib.hid (hRs.out.next hiO (fun a' h' h1 h2 h3 h4 => by
            have hu2 := hui.out
            rw [List.getElem?_eq_getElem hiO] at hu2
            injection hu2 with hu2
            rw [hu2] at h2
            refine hdn.out a' ?_ h3 h' h4
            rw [hjk, ← hK'.out, List.take_length, mem_ofS hG'.out]
            exact ⟨h1, h2⟩))
          have hS9 := Lib.hid (hS.out.dropAt 2 (by simp))
          clear hS hdn hjk hiO
          go_wp2_with fail
          go_roundw
          case rel => exact ⟨O, m, i + 1, a, c, hOm, hnx, by omega, hmn, rfl, by go_num, hS9⟩
          case measure => simp [intOf]; omega
    · have hiO : i = O.length := by have := hOm.out; omega
      have hRs2 := hRs.out
      rw [hiO] at hRs2
      obtain ⟨l, hl1, hl2, hl3⟩ := reach_sort hRs2
      have hlm : l.length = m := hl2.trans hOm.out
      have hsort := Lib.hid (by
        have h5 := hS.out.rowAt 1 rfl
        have h6 := sortI_any (xs := ints O) (a := a) (c := c) (w := wr) (by rw [ints_len, hOm.out]; exact h5) (by rw [ints_len, hOm.out]; omega)
        rw [ints_len, hOm.out, hl3] at h6
        exact h6)
      have hl1' := Lib.hid hl1
      have hlm' := Lib.hid hlm
      clear hl1 hl2 hl3 hlm hRs2 hiO hRs
      go_wp2_with fail
      refine hsort.out.mono ?_
      rintro e w9 ⟨rfl, ho9, hm9⟩
      have hS9 := Lib.hid (hS.out.growAt 1 rfl ho9 hm9 (.inl rfl))
      clear ho9 hm9
      try dsimp only
      go_wp2_with fail
      go_ret
      refine ⟨l, a, c, hl1'.out, by rw [hlm'.out]; rfl, ?_⟩
      rw [hlm'.out]
      exact hS9.out.swap.toMade
end
end Edge
end Go.Proofs.YtjpfmkfikidgkaaGreat

set_option linter.unusedVariables false
set_option linter.unusedSimpArgs false
namespace Go.Proofs.YtjpfmkfikidgkaaGreat
open Go.RowKit
namespace Edge
theorem xroom09 {n : Nat} (hn : n ≤ 4096) (w : World) : Calls Tryz.prog 236 #[.int .i64 n] w fun e w' => e = .returned (.int .i64 n) ∧ w' = w := by
  have e : max (0 : Int) (min (n : Int) 4096) = n := by omega
  go_enter Tryz.func236, Tryz.ntmps236
  go_wp2_with fail
  go_ret
  refine ⟨?_, rfl⟩
  congr 2
set_option maxRecDepth 100000 in
set_option maxHeartbeats 2000000 in
theorem xset09 {n : Nat} (hn : n ≤ 4096) (w : World) : Calls Tryz.prog 181 #[.int .i64 n] w fun e w' => ∃ g, e = .returned (.agg #[.int .i64 n, .slice (some ⟨g, 0, none⟩) n n]) ∧ Made w w' 4 1 (some ⟨g, 0, none⟩) n n (boolV (List.replicate n false)) := by
  have hr := Lib.hid (fun W => xroom09 hn W)
  have hmk := make_run (P := Tryz.prog) 211 4 (.bool false) 1 Tryz.underlying211 infoB5 rfl (by omega) n (by omega)
  have hS : Hid (Sep w ((w.alloc (.cells #[.int .i64 n, .slice (some ⟨w.heap.size + 1, 0, none⟩) n n] 253)).alloc (.cells (madeCells #[.bool false] n) 4)) [Row 4 1 n (.slice (some ⟨w.heap.size + 1, 0, none⟩) n n) (boolV (List.replicate n false)), Blk w.heap.size [.int .i64 n, .slice (some ⟨w.heap.size + 1, 0, none⟩) n n] 253]) := Lib.hid (by
    have h5 := ((Sep.empty w).box [.int .i64 n, .slice (some ⟨w.heap.size + 1, 0, none⟩) n n] 253).made (made_made _ 4 (.bool false) n (by omega))
    simp only [World.size_alloc] at h5
    rw [boolV_none]
    exact h5)
  have hfin := Lib.hid hS.out.toMade
  have s0' := Lib.hid ((hS.out.blkAt 1 rfl).cell 0 rfl)
  have s1' := Lib.hid ((hS.out.blkAt 1 rfl).cell 1 rfl)
  clear hS
  go_enter Tryz.func181, Tryz.ntmps181
  go_wp2_with (go_at_call 236; refine (hr.out _).mono ?_; rintro e w1 ⟨rfl, hw1⟩; subst w1)
  have s0 := s0'.out
  have s1 := s1'.out
  clear s0' s1'
  generalize (w.alloc (.cells #[.int .i64 n, .slice (some ⟨w.heap.size + 1, 0, none⟩) n n] 253)).alloc (.cells (madeCells #[.bool false] n) 4) = wf at *
  refine bodyPost_ret (v := .agg #[.int .i64 n, .slice (some ⟨w.heap.size + 1, 0, none⟩) n n]) ?_ rfl ⟨_, rfl, hfin.out⟩
  simp [results, Tryz.results181, go_sem, s0, s1]
/-- Who is in it, among the first k. -/
def listK (B : List Bool) (k : Nat) : List Nat := (List.range k).filter fun x => hasB B x
theorem listK_succ (B : List Bool) (k : Nat) : listK B (k + 1) = listK B k ++ if hasB B k = true then [k] else [] := by
  unfold listK
  rw [List.range_succ, List.filter_append]
  by_cases h : hasB B k = true
  · simp [h]
  · simp [h]
theorem listK_len (B : List Bool) (k : Nat) : (listK B k).length ≤ k := by
  unfold listK
  refine Nat.le_trans (List.length_filter_le _ _) ?_
  simp
theorem boolB_cell {B : List Bool} {k : Nat} (hk : k < B.length) : (boolV B)[k]? = some (.bool (hasB B k)) := by
  refine boolV_got ?_
  unfold hasB
  rw [List.getD_eq_getElem?_getD, List.getElem?_eq_getElem hk]; rfl
set_option maxRecDepth 100000 in
set_option maxHeartbeats 2000000 in
theorem xlist09 {n : Nat} (hn : n ≤ 4096) {B : List Bool} (hB : B.length = n) {a : Option Addr} {c : Nat} {w : World} (h : Rd w 1 (.slice a n c) n (boolV B)) :
    Calls Tryz.prog 183 #[.agg #[.int .i64 n, .slice a n c]] w fun e w' => ∃ ao co, e = .returned (.slice ao (listB n B).length co) ∧ Made w w' 3 1 ao (listB n B).length co (i64s (ints (listB n B))) := by
  have h' := Lib.hid h
  have hbx := Has.new w [.int .i64 n, .slice a n c] 253
  have b0 := hbx.cell 0 rfl
  have b1 := hbx.cell 1 rfl
  have bl := hbx.lt
  have hS0 : Hid (Sep w (w.alloc (.cells #[.int .i64 n, .slice a n c] 253)) [Row 3 1 0 (.slice none 0 0) (i64s (ints (listK B 0))), Blk w.heap.size [.int .i64 n, .slice a n c] 253]) := Lib.hid (by
    have h5 := (Sep.empty w).box [.int .i64 n, .slice a n c] 253
    exact h5.made ⟨World.ownsRow_nil _ _ _ _, Mod.refl _ _, by simp [Value.ownBlock]⟩)
  have hB' := Lib.hid hB
  clear h hbx
  go_enter Tryz.func183, Tryz.ntmps183
  go_wp2_with fail
  generalize w.alloc (.cells #[.int .i64 n, .slice a n c] 253) = w1 at *
  generalize w.heap.size = bx at *
  clear b0 b1 bl
  go_loopw [3, 4] (fun s3 i wr => ∃ (k m : Nat) (ao : Option Addr) (co : Nat), k ≤ n ∧ i = .int .i64 k ∧ s3 = .slice ao m co ∧ m ≤ k ∧ Hid (m = (listK B k).length) ∧ Hid (Sep w wr [Row 3 1 m (.slice ao m co) (i64s (ints (listK B k))), Blk bx [.int .i64 n, .slice a n c] 253])) (fun _ i _ => n - (intOf i).toNat)
  case atStart => exact ⟨0, 0, none, 0, Nat.zero_le _, rfl, rfl, Nat.le_refl _, Lib.hid rfl, hS0⟩
  case round =>
    clear hS0
    obtain ⟨k, m, ao, co, hk, rfl, rfl, hmk, hm, hS⟩ := hrel
    have b0 := (hS.out.blkAt 1 rfl).cell 0 rfl
    have b1 := (hS.out.blkAt 1 rfl).cell 1 rfl
    have bl := (hS.out.blkAt 1 rfl).lt
    by_cases hlt : k < n
    · have hlt1 : (k : Int) < n := by omega
      obtain ⟨g, o, rfl, hg, hcell⟩ := rd_cell h'.out hlt
      have q := hcell wr k _ hS.out.mod (boolB_cell (by rw [hB'.out]; exact hlt))
      have hgl : g < wr.heap.size := Nat.lt_of_lt_of_le hg hS.out.mod.size
      have hsc := listK_succ B k
      clear hcell hg
      cases hb : hasB B k with
      | false =>
        rw [hb] at q hsc
        rw [if_neg (by simp), List.append_nil] at hsc
        have hsc' := Lib.hid hsc
        clear hb hsc
        go_wp2_with fail
        go_roundw
        case rel => exact ⟨k + 1, m, ao, co, by omega, by go_num, rfl, by omega, Lib.hid (by rw [hsc'.out]; exact hm.out), by rw [hsc'.out]; exact hS⟩
        case measure => simp [intOf]; omega
      | true =>
        rw [hb] at q hsc
        rw [if_pos rfl] at hsc
        have hsc' := Lib.hid hsc
        clear hb hsc
        go_wp2_with (at_builtin; refine app_own rfl (.tmp 16) (.tmp 18) 51 3 _ 1 8 rfl Tryz.underlying51 infoI5 rfl (by omega) (by omega) (.slice ao m co) m 1 (i64s (ints (listK B k))) [.int .i64 (k : Int)] rfl rfl (by simp) rfl (by simp [Value.oneCell']) (hS.out.rowAt 0 rfl) (by omega) ?_; intro a1 c1 w6 ho6 hm6 hb6; rw [← ints_snoc] at ho6; have hS6 := Lib.hid (hS.out.growAt 0 rfl ho6 hm6 hb6); clear ho6 hm6 hb6)
        go_roundw
        case rel => exact ⟨k + 1, m + 1, a1, c1, by omega, by go_num, rfl, by omega, Lib.hid (by rw [hsc'.out, List.length_append, ← hm.out]; rfl), by rw [hsc'.out]; exact hS6⟩
        case measure => simp [intOf]; omega
    · have hkn : k = n := by omega
      have hfin : Hid (m = (listB n B).length ∧ Made w wr 3 1 ao (listB n B).length co (i64s (ints (listB n B)))) := Lib.hid (by
        have h5 := hm.out
        have h6 := hS.out.toMade
        rw [hkn] at h5 h6
        have e : listK B n = listB n B := rfl
        rw [e] at h5 h6
        rw [h5] at h6
        exact ⟨h5, h6⟩)
      clear hS hm hkn
      go_wp2_with fail
      go_ret
      exact ⟨ao, co, by rw [hfin.out.1]; rfl, hfin.out.2⟩
end Edge
end Go.Proofs.YtjpfmkfikidgkaaGreat

set_option linter.unusedVariables false
set_option linter.unusedSimpArgs false
namespace Go.Proofs.YtjpfmkfikidgkaaGreat
open Go.RowKit
namespace Edge
theorem stepA_yes {L : List Ed} {f : List Int} {B : List Bool} {i t h : Nat} (ht : tailE L i = (t : Int)) (hh : headE L i = (h : Int)) (h1 : hasB B t = true) (h2 : 0 < leftE L f i) : stepA L f B i = B.set h true := by
  unfold stepA
  rw [ht, hh, Int.toNat_natCast, Int.toNat_natCast, if_pos ⟨h1, h2⟩]
theorem stepA_no {L : List Ed} {f : List Int} {B : List Bool} {i t : Nat} (ht : tailE L i = (t : Int)) (h : ¬ (hasB B t = true ∧ 0 < leftE L f i)) : stepA L f B i = B := by
  unfold stepA
  rw [ht, Int.toNat_natCast, if_neg h]
theorem ite_no5 {c : Bool} {A B : Prop} (h : c = false) (hB : B) : if c = true then A else B := by rw [h]; exact hB
set_option maxRecDepth 100000 in
set_option maxHeartbeats 8000000 in
theorem xreach23 {n : Nat} {L : List Ed} {f : List Int} {a : Option Addr} {c : Nat} {fa : Option Addr} {fc : Nat} {w : World} (h : RX w L f a c fa fc) (hG : GOk n L) (hF : FB L f) {v : Nat} (hv : v < n) :
    Calls Tryz.prog 111 #[restV n a L.length c fa fc, .int .i64 (v : Int)] w fun e w' => ∃ l ao co, IsReach L f v l ∧ e = .returned (.slice ao l.length co) ∧ Made w w' 3 1 ao l.length co (i64s (ints l)) := by
  obtain ⟨m, hm⟩ : ∃ m, L.length = m := ⟨_, rfl⟩
  have hlb : m ≤ 1048576 := by have := hG.len; omega
  have hn4 := hG.le
  have hset := Lib.hid (fun W => xset09 hn4 W)
  have htl := Lib.hid (fun W (hM : Mod [] w W) (i : Nat) (hi : i < 2 * m) => show Calls Tryz.prog 112 #[.agg #[.int .i64 n, .slice a m c], .int .i64 (i : Int)] W fun e w' => e = .returned (.int .i64 (tailE L i)) ∧ Mod [] W w' by
    have h1 := rtail_any n (h.l.still hM) hG.len (i : Int) (by omega)
    unfold netV at h1
    rw [hm, show tailI L (i : Int) = tailE L i by unfold tailI; rw [if_neg (by omega), Int.toNat_natCast]] at h1
    exact h1)
  have hhd := Lib.hid (fun W (hM : Mod [] w W) (i : Nat) (hi : i < 2 * m) => show Calls Tryz.prog 182 #[.agg #[.int .i64 n, .slice a m c], .int .i64 (i : Int)] W fun e w' => e = .returned (.int .i64 (headE L i)) ∧ Mod [] W w' by
    have h1 := rhead_any n (h.l.still hM) hG.len (i : Int) (by omega)
    unfold netV at h1
    rw [hm, show headI L (i : Int) = headE L i by unfold headI; rw [if_neg (by omega), Int.toNat_natCast]] at h1
    exact h1)
  have hlf := Lib.hid (fun W (hM : Mod [] w W) (i : Nat) (hi : i < 2 * m) => show Calls Tryz.prog 109 #[.agg #[.int .i64 n, .slice a m c, .slice fa m fc], .int .i64 (i : Int)] W fun e w' => e = .returned (.int .i64 (leftE L f i)) ∧ Mod [] W w' by
    have h1 := xleft23 (h.still hM) hG hF (i : Int) (by omega)
    unfold restV at h1
    rw [hm, show leftI L f (i : Int) = leftE L f i by unfold leftI; rw [if_pos (by omega), Int.toNat_natCast]] at h1
    exact h1)
  unfold restV
  rw [hm]
  have hm' := Lib.hid hm
  have hG' := Lib.hid hG
  have hS0 := Lib.hid ((Sep.empty w).box [.int .i64 n, .slice a m c, .slice fa m fc] 35)
  have b0 := (hS0.out.blkAt 0 rfl).cell 0 rfl
  have bl := (hS0.out.blkAt 0 rfl).lt
  have hvn : (v : Int) < n := by omega
  have t1 : decide ((n : Int) ≤ (v : Int)) = false := by simp; omega
  have t2 : decide ((v : Int) < 0) = false := by simp
  have t3 : decide (n ≤ v) = false := by simp; omega
  clear h hG hF hm
  go_enter Tryz.func111, Tryz.ntmps111
  go_wp2_with fail
  refine (hset.out _).mono ?_
  rintro e w2 ⟨g, rfl, hmd⟩
  have hS1 := Lib.hid ((hS0.out.made hmd).box [.int .i64 n, .slice (some ⟨g, 0, none⟩) n n] 253)
  clear hmd hS0 b0 bl
  generalize w.heap.size = B at *
  try dsimp only
  go_upto_region 2 with fail
  generalize w2.alloc (.cells #[.int .i64 n, .slice (some ⟨g, 0, none⟩) n n] 253) = w3 at *
  generalize w2.heap.size = C at *
  have c1 := (hS1.out.blkAt 0 rfl).cell 1 rfl
  have cl := (hS1.out.blkAt 0 rfl).lt
  have b0 := (hS1.out.blkAt 2 rfl).cell 0 rfl
  have bl := (hS1.out.blkAt 2 rfl).lt
  have gz := (hS1.out.rowAt 1 rfl).frozenAt v
  have ggl : g < w3.heap.size := own_lt (hS1.out.rowAt 1 rfl) (g := g) rfl
  obtain ⟨u0, gc⟩ : ∃ u, w3.cell? ⟨g, v, none⟩ = some u := by
    have h1 := (hS1.out.rowAt 1 rfl).cellAt v (by omega)
    have h2 := (hS1.out.rowAt 1 rfl).1
    rw [List.getElem?_eq_getElem (by omega)] at h1
    exact ⟨_, h1⟩
  have hS2 : Hid (Sep w (w3.setCell ⟨g, v, none⟩ (.bool true)) [Blk C [.int .i64 n, .slice (some ⟨g, 0, none⟩) n n] 253, Row 4 1 n (.slice (some ⟨g, 0, none⟩) n n) (boolV (oneB n v)), Blk B [.int .i64 n, .slice a m c, .slice fa m fc] 35]) := Lib.hid (by
    have h5 := hS1.out.rowsetAt 1 rfl v (.bool true)
    rw [boolV_set] at h5
    exact h5)
  clear hS1
  go_upto_region 5 with fail
  clear c1 cl b0 bl gz ggl gc t1 t2 t3 hset
  generalize w3.setCell ⟨g, v, none⟩ (.bool true) = w4 at *
  go_wp2_with fail
  go_loopw [6] (fun s6 wr => ∃ j : Nat, j ≤ n ∧ s6 = .int .i64 j ∧ Hid (Sep w wr [Blk C [.int .i64 n, .slice (some ⟨g, 0, none⟩) n n] 253, Row 4 1 n (.slice (some ⟨g, 0, none⟩) n n) (boolV (roundsA L f (oneB n v) j)), Blk B [.int .i64 n, .slice a m c, .slice fa m fc] 35])) (fun s6 _ => n - (intOf s6).toNat)
  case atStart => exact ⟨0, Nat.zero_le _, rfl, hS2⟩
  case round =>
    clear hS2
    obtain ⟨j, hj, rfl, hS⟩ := hrel
    have b0 := (hS.out.blkAt 2 rfl).cell 0 rfl
    have bl := (hS.out.blkAt 2 rfl).lt
    by_cases hlt : j < n
    · have hlt1 : (j : Int) < n := by omega
      have hS3 : Hid (Sep w wr [Blk C [.int .i64 n, .slice (some ⟨g, 0, none⟩) n n] 253, Row 4 1 n (.slice (some ⟨g, 0, none⟩) n n) (boolV (roundA L f (roundsA L f (oneB n v) j) 0)), Blk B [.int .i64 n, .slice a m c, .slice fa m fc] 35]) := hS
      clear hS
      go_wp2_with fail
      clear b0 bl
      have hBl := Lib.hid (show (roundsA L f (oneB n v) j).length = n by rw [roundsA_len, oneB_len])
      have hrs : roundsA L f (oneB n v) (j + 1) = roundA L f (roundsA L f (oneB n v) j) (2 * L.length) := rfl
      have hrs' := Lib.hid hrs
      clear hrs
      generalize roundsA L f (oneB n v) j = BJ at *
      go_loopw [7] (fun s7 wq => ∃ i : Nat, i ≤ 2 * m ∧ s7 = .int .i64 i ∧ Hid (Sep w wq [Blk C [.int .i64 n, .slice (some ⟨g, 0, none⟩) n n] 253, Row 4 1 n (.slice (some ⟨g, 0, none⟩) n n) (boolV (roundA L f BJ i)), Blk B [.int .i64 n, .slice a m c, .slice fa m fc] 35])) (fun s7 _ => 2 * m - (intOf s7).toNat)
      case atStart => exact ⟨0, Nat.zero_le _, rfl, hS3⟩
      case round =>
        clear hS3
        obtain ⟨i, hi, rfl, hS⟩ := hrel
        have b2 := (hS.out.blkAt 2 rfl).cell 2 rfl
        have bl := (hS.out.blkAt 2 rfl).lt
        by_cases hli : i < 2 * m
        · have hli1 : (i : Int) < 2 * (m : Int) := by omega
          have hiL : i < 2 * L.length := by rw [hm'.out]; exact hli
          obtain ⟨t, ht⟩ := Int.eq_ofNat_of_zero_le (tail_in hG'.out hiL).1
          obtain ⟨hd, hh⟩ := Int.eq_ofNat_of_zero_le (head_in hG'.out hiL).1
          have htn : t < n := by have := (tail_in hG'.out hiL).2; omega
          have hhn : hd < n := by have := (head_in hG'.out hiL).2; omega
          have hsucc : roundA L f BJ (i + 1) = stepA L f (roundA L f BJ i) i := rfl
          have hlen : (roundA L f BJ i).length = n := by rw [roundA_len, hBl.out]
          have cT := Lib.hid (htl.out wr.drew hS.out.mod.drew i hli)
          rw [ht] at cT
          have cL := Lib.hid (fun W (hM : Mod [] wr.drew W) => hlf.out W (hS.out.mod.trans ((Mod.refl [] _).drew.trans hM (by simp)) (by simp)) i hli)
          have hyes := fun h1 h2 => stepA_yes (f := f) (B := roundA L f BJ i) ht hh h1 h2
          have hnot := fun h1 => stepA_no (f := f) (B := roundA L f BJ i) ht h1
          rw [← hsucc] at hyes hnot
          have hyes' := Lib.hid hyes
          have hnot' := Lib.hid hnot
          have hht := Lib.hid hh
          clear hyes hnot ht hh hsucc
          generalize roundA L f BJ i = BI at *
          have hSd := Lib.hid (hS.out.still (Mod.refl [] wr).drew)
          have f1 : ∀ m' : Fut (Mod []) wr.drew, m'.v.cell? ⟨C, 1, none⟩ = some (.slice (some ⟨g, 0, none⟩) n n) := fun m' => ((hSd.out.still m'.of).blkAt 0 rfl).cell 1 rfl
          have f2 : ∀ m' : Fut (Mod []) wr.drew, m'.v.cell? ⟨B, 0, none⟩ = some (.int .i64 n) := fun m' => ((hSd.out.still m'.of).blkAt 2 rfl).cell 0 rfl
          have f3 : ∀ m' : Fut (Mod []) wr.drew, m'.v.cell? ⟨B, 1, none⟩ = some (.slice a m c) := fun m' => ((hSd.out.still m'.of).blkAt 2 rfl).cell 1 rfl
          have k1 := f1 ⟨_, Mod.refl _ _⟩
          have k2 := f2 ⟨_, Mod.refl _ _⟩
          have k3 := f3 ⟨_, Mod.refl _ _⟩
          go_upto_region 11 with fail
          refine region_sched (G := Mod []) [([0,1,2,3,4],5), ([6,7,8,9,10],11)] [12,13] (by kernel_rfl) (by kernel_rfl) (by kernel_rfl) rfl (Mod.refl []) (fun _ _ _ h1 h2 => h1.trans h2 (by simp)) ?_
          simp only [stages, pickO, nthO, headO, List.append_eq, List.cons_append, List.nil_append]
          refine sched_step ?_
          repeat (go_big_quiet_step (fail))
          refine wpQuiet_nil ?_
          intro K hK
          rw [if_pos (by rfl)]
          go_simp
          refine cT.out.mono ?_
          rintro e w5 ⟨rfl, hm5⟩
          try dsimp only
          refine hK.out _ _ hm5 ?_
          have hS5 := Lib.hid (hSd.out.still hm5)
          have cL5 := Lib.hid (fun W (hM : Mod [] w5 W) => cL.out W (hm5.trans hM (by simp)))
          clear hK K hSd f1 f2 f3 k1 k2 k3 cT cL hm5
          have q1 : ∀ m' : Fut (Mod []) w5, m'.v.cell? ⟨g, t, none⟩ = some (.bool (hasB BI t)) := fun m' => by
            have h1 := ((hS5.out.still m'.of).rowAt 1 rfl).cellAt t (by omega)
            rw [boolB_cell (by omega)] at h1
            exact h1
          have q2 : ∀ m' : Fut (Mod []) w5, m'.v.cell? ⟨B, 0, none⟩ = some (.int .i64 n) := fun m' => ((hS5.out.still m'.of).blkAt 2 rfl).cell 0 rfl
          have q3 : ∀ m' : Fut (Mod []) w5, m'.v.cell? ⟨B, 1, none⟩ = some (.slice a m c) := fun m' => ((hS5.out.still m'.of).blkAt 2 rfl).cell 1 rfl
          have q4 : ∀ m' : Fut (Mod []) w5, m'.v.cell? ⟨B, 2, none⟩ = some (.slice fa m fc) := fun m' => ((hS5.out.still m'.of).blkAt 2 rfl).cell 2 rfl
          have k1 := q1 ⟨_, Mod.refl _ _⟩
          have k2 := q2 ⟨_, Mod.refl _ _⟩
          have k3 := q3 ⟨_, Mod.refl _ _⟩
          have k4 := q4 ⟨_, Mod.refl _ _⟩
          have htn1 : (t : Int) < n := by omega
          cases hb : hasB BI t with
          | false =>
            have hno := Lib.hid (hnot'.out (fun h => by rw [hb] at h; exact absurd h.1 (by simp)))
            rw [hb] at q1 k1
            clear hb
            refine sched_step ?_
            repeat (go_big_quiet_step (fail))
            refine wpQuiet_nil ?_
            intro K hK
            refine ite_no5 (by rfl) ?_
            go_simp
            generalize hA : Act.mk _ _ = AA
            have hK2 := hK.out AA _ (Mod.refl [] _)
            clear hK
            apply hK2
            clear hK2 K
            subst hA
            refine sched_last ?_
            repeat (go_big_quiet_step (fail))
            refine wpQuiet_nil ?_
            clear q1 q2 q3 q4 k1 k2 k3 k4
            go_wp2_with fail
            have hSn : Hid (Sep w w5 [Blk C [.int .i64 n, .slice (some ⟨g, 0, none⟩) n n] 253, Row 4 1 n (.slice (some ⟨g, 0, none⟩) n n) (boolV (roundA L f BJ (i + 1))), Blk B [.int .i64 n, .slice a m c, .slice fa m fc] 35]) := Lib.hid (by rw [hno.out]; exact hS5.out)
            clear hS5 hno
            go_roundw
            case rel => exact ⟨i + 1, by omega, by go_num, hSn⟩
            case measure => simp [intOf]; omega
          | true =>
            rw [hb] at q1 k1
            refine sched_step ?_
            repeat (go_big_quiet_step (fail))
            refine wpQuiet_nil ?_
            intro K hK
            rw [if_pos (by rfl)]
            go_simp
            refine (cL5.out _ (Mod.refl _ _)).mono ?_
            rintro e w6 ⟨rfl, hm6⟩
            have hS6 := Lib.hid (hS5.out.still hm6)
            try dsimp only
            refine hK.out _ _ hm6 ?_
            clear hK K cL5 hS5 hm6 q1 q2 q3 q4 k1 k2 k3 k4
            by_cases hl : 0 < leftE L f i
            · have hye := Lib.hid (hyes'.out hb hl)
              generalize leftE L f i = z at *
              clear hb
              refine sched_last ?_
              repeat (go_big_quiet_step (fail))
              refine wpQuiet_nil ?_
              go_upto_region 12 with fail
              have hSd := Lib.hid (hS6.out.still (Mod.refl [] w6).drew)
              have cH := Lib.hid (hhd.out _ hSd.out.mod i hli)
              rw [hht.out] at cH
              have hhn1 : (hd : Int) < n := by omega
              have k1 := KC.one (w := w6.drew) (L := [(⟨C, 1, none⟩, .slice (some ⟨g, 0, none⟩) n n), (⟨B, 0, none⟩, .int .i64 n), (⟨B, 1, none⟩, .slice a m c)]) ((hSd.out.blkAt 0 rfl).cell 1 rfl) (by simp)
              have k2 := KC.one (w := w6.drew) (L := [(⟨C, 1, none⟩, .slice (some ⟨g, 0, none⟩) n n), (⟨B, 0, none⟩, .int .i64 n), (⟨B, 1, none⟩, .slice a m c)]) ((hSd.out.blkAt 2 rfl).cell 0 rfl) (by simp)
              have k3 := KC.one (w := w6.drew) (L := [(⟨C, 1, none⟩, .slice (some ⟨g, 0, none⟩) n n), (⟨B, 0, none⟩, .int .i64 n), (⟨B, 1, none⟩, .slice a m c)]) ((hSd.out.blkAt 2 rfl).cell 1 rfl) (by simp)
              have p1 := k1 ⟨_, KC.refl _ _⟩
              have p2 := k2 ⟨_, KC.refl _ _⟩
              have p3 := k3 ⟨_, KC.refl _ _⟩
              refine region_sched (G := KC [(⟨C, 1, none⟩, .slice (some ⟨g, 0, none⟩) n n), (⟨B, 0, none⟩, .int .i64 n), (⟨B, 1, none⟩, .slice a m c)]) [([0,1,2,3,4],5), ([6],7)] [] (by kernel_rfl) (by kernel_rfl) (by kernel_rfl) rfl (KC.refl _) (KC.trans _) ?_
              simp only [stages, pickO, nthO, headO, List.append_eq, List.cons_append, List.nil_append]
              refine sched_step ?_
              repeat (go_big_quiet_step (fail))
              refine wpQuiet_nil ?_
              intro K hK
              rw [if_pos (by rfl)]
              go_simp
              refine cH.out.mono ?_
              rintro e w7 ⟨rfl, hm7⟩
              have hS7 := Lib.hid (hSd.out.still hm7)
              try dsimp only
              refine hK.out _ _ (fun p hp _ => by
                simp only [List.mem_cons, List.mem_nil_iff, or_false] at hp
                rcases hp with rfl | rfl | rfl
                · exact (hS7.out.blkAt 0 rfl).cell 1 rfl
                · exact (hS7.out.blkAt 2 rfl).cell 0 rfl
                · exact (hS7.out.blkAt 2 rfl).cell 1 rfl) ?_
              clear hK K cH hm7 hSd hS6 k1 k2 k3 p1 p2 p3
              have gz := (hS7.out.rowAt 1 rfl).frozenAt hd
              have ggl : g < w7.heap.size := own_lt (hS7.out.rowAt 1 rfl) (g := g) rfl
              have gc : w7.cell? ⟨g, hd, none⟩ = some (.bool (hasB BI hd)) := by
                have h1 := (hS7.out.rowAt 1 rfl).cellAt hd (by omega)
                rw [boolB_cell (by omega)] at h1
                exact h1
              have hS8 : Hid (Sep w (w7.setCell ⟨g, hd, none⟩ (.bool true)) [Blk C [.int .i64 n, .slice (some ⟨g, 0, none⟩) n n] 253, Row 4 1 n (.slice (some ⟨g, 0, none⟩) n n) (boolV (BI.set hd true)), Blk B [.int .i64 n, .slice a m c, .slice fa m fc] 35]) := Lib.hid (by
                have h5 := hS7.out.rowsetAt 1 rfl hd (.bool true)
                rw [boolV_set] at h5
                exact h5)
              clear hS7
              refine sched_step ?_
              repeat (go_big_quiet_step (fail))
              refine wpQuiet_nil ?_
              intro K hK
              rw [if_pos (by rfl)]
              go_simp
              refine hK.out _ _ (fun p hp _ => by
                simp only [List.mem_cons, List.mem_nil_iff, or_false] at hp
                rcases hp with rfl | rfl | rfl
                · exact (hS8.out.blkAt 0 rfl).cell 1 rfl
                · exact (hS8.out.blkAt 2 rfl).cell 0 rfl
                · exact (hS8.out.blkAt 2 rfl).cell 1 rfl) ?_
              clear hK K gz ggl gc
              refine sched_last ?_
              refine wpQuiet_nil ?_
              go_wp2_with fail
              go_roundw
              case rel => exact ⟨i + 1, by omega, by go_num, by rw [hye.out]; exact hS8⟩
              case measure => simp [intOf]; omega
            · have hno := Lib.hid (hnot'.out (fun h => hl h.2))
              generalize leftE L f i = z at *
              clear hb
              refine sched_last ?_
              repeat (go_big_quiet_step (fail))
              refine wpQuiet_nil ?_
              go_wp2_with fail
              have hSn : Hid (Sep w w6 [Blk C [.int .i64 n, .slice (some ⟨g, 0, none⟩) n n] 253, Row 4 1 n (.slice (some ⟨g, 0, none⟩) n n) (boolV (roundA L f BJ (i + 1))), Blk B [.int .i64 n, .slice a m c, .slice fa m fc] 35]) := Lib.hid (by rw [hno.out]; exact hS6.out)
              clear hS6 hno
              go_roundw
              case rel => exact ⟨i + 1, by omega, by go_num, hSn⟩
              case measure => simp [intOf]; omega
        · have him : i = 2 * m := by omega
          have hS9 : Hid (Sep w wr [Blk C [.int .i64 n, .slice (some ⟨g, 0, none⟩) n n] 253, Row 4 1 n (.slice (some ⟨g, 0, none⟩) n n) (boolV (roundsA L f (oneB n v) (j + 1))), Blk B [.int .i64 n, .slice a m c, .slice fa m fc] 35]) := Lib.hid (by
            rw [hrs'.out, hm'.out, ← him]
            exact hS.out)
          clear hS him
          go_wp2_with fail
          go_roundw
          case rel => exact ⟨j + 1, by omega, by go_num, hS9⟩
          case measure => simp [intOf]; omega
    · have hjn : j = n := by omega
      have hR := Lib.hid (rounds_all (f := f) hG'.out hv)
      have hBl : (roundsA L f (oneB n v) n).length = n := by rw [roundsA_len, oneB_len]
      have c0 := (hS.out.blkAt 0 rfl).cell 0 rfl
      have c1 := (hS.out.blkAt 0 rfl).cell 1 rfl
      have cl := (hS.out.blkAt 0 rfl).lt
      have hls := Lib.hid (by
        have h5 := hS.out.rowAt 1 rfl
        rw [hjn] at h5
        exact xlist09 hn4 hBl (Rd.own h5))
      have hmod := Lib.hid hS.out.mod
      generalize listB n (roundsA L f (oneB n v) n) = l at *
      clear hS hBl hjn
      go_wp2_with fail
      refine hls.out.mono ?_
      rintro e w9 ⟨ao, co, rfl, hmd⟩
      have hmd' := Lib.hid (hmd.before hmod.out)
      clear hmd
      try dsimp only
      go_wp2_with fail
      go_ret
      exact ⟨l, ao, co, hR.out, rfl, hmd'.out⟩
end Edge
end Go.Proofs.YtjpfmkfikidgkaaGreat

set_option linter.unusedVariables false
set_option linter.unusedSimpArgs false
namespace Go.Proofs.YtjpfmkfikidgkaaGreat
open Go.RowKit
namespace Edge
set_option maxRecDepth 100000 in
set_option maxHeartbeats 2000000 in
theorem xsame04 {f : List Int} {m : Nat} {a b : Option Addr} {ca cb : Nat} {w : World} (ha : Rd w 1 (.slice a m ca) m (i64s f)) (hb : Rd w 1 (.slice b m cb) m (i64s f)) (hm : m ≤ 1048576) :
    Calls Tryz.prog 31 #[.slice a m ca, .slice b m cb] w fun e w' => e = .returned (.bool true) ∧ Mod [] w w' := by
  have ha' := Lib.hid ha
  have hb' := Lib.hid hb
  have hlen : f.length = m := by have := ha.1; rw [i64s_len] at this; omega
  have hlen' := Lib.hid hlen
  clear ha hb hlen
  go_enter Tryz.func31, Tryz.ntmps31
  go_wp2_with fail
  go_loopw [5] (fun i wr => ∃ k : Nat, k ≤ m ∧ i = .int .i64 k ∧ Hid (Mod [] w wr)) (fun i _ => m - (intOf i).toNat)
  case atStart => exact ⟨0, Nat.zero_le _, rfl, Lib.hid (Mod.refl _ _)⟩
  case round =>
    obtain ⟨k, hk, rfl, hM⟩ := hrel
    by_cases hlt : k < m
    · have hlt1 : (k : Int) < m := by omega
      obtain ⟨g1, o1, rfl, hg1, hc1⟩ := rd_cell ha'.out hlt
      obtain ⟨g2, o2, rfl, hg2, hc2⟩ := rd_cell hb'.out hlt
      obtain ⟨y, hy⟩ : ∃ y, f[k]? = some y := ⟨_, List.getElem?_eq_getElem (by rw [hlen'.out]; exact hlt)⟩
      have q1 := hc1 wr k _ hM.out (i64s_got hy)
      have q2 := hc2 wr k _ hM.out (i64s_got hy)
      have l1 : g1 < wr.heap.size := Nat.lt_of_lt_of_le hg1 hM.out.size
      have l2 : g2 < wr.heap.size := Nat.lt_of_lt_of_le hg2 hM.out.size
      clear hc1 hc2 hy
      go_upto_region 6 with fail
      go_quiet (fail)
      have hM2 := Lib.hid (hM.out.trans ((Mod.refl [] wr).drewN nq) (by simp))
      go_wp2_with fail
      go_roundw
      case rel => exact ⟨k + 1, by omega, by go_num, hM2⟩
      case measure => simp [intOf]; omega
    · have hkm : k = m := by omega
      clear hkm
      go_wp2_with fail
      go_ret
      exact ⟨rfl, hM.out⟩
theorem rreach_out {w : World} {r ba n : Nat} {L : List Ed} {f : List Int} {F F2 : List Nat} (h : RestP r ba n L f w F) (hA : ArcP ba n L w F2) (hG : GOk n L) {v : Nat} (hv : n ≤ v) :
    Calls Tryz.prog 110 #[.pointer (some ⟨r, 0, none⟩), .int .i64 (v : Int)] w fun e w' => e = .returned (.slice none 0 0) ∧ w' = w := by
  have ca := Lib.hid (rarcs_p h)
  have cn := Lib.hid (an_p hA hG)
  have hn4 : n ≤ 4096 := hG.le
  have t1 : decide ((n : Int) ≤ (v : Int)) = true := by simp; omega
  have t2 : decide ((v : Int) < 0) = false := by simp
  have t3 : decide (n ≤ v) = true := by simp; omega
  clear h hA hG
  go_enter Tryz.func110, Tryz.ntmps110
  go_wp2_with (first
    | (go_at_call 23; refine ca.out.mono ?_; rintro e w1 ⟨rfl, hw1⟩; subst w1)
    | (go_at_call 105; refine cn.out.mono ?_; rintro e w1 ⟨rfl, hw1⟩; subst w1))
  go_ret
  exact ⟨rfl, rfl⟩
set_option maxRecDepth 100000 in
set_option maxHeartbeats 2000000 in
theorem xreach_out {n m c fc : Nat} {a fa : Option Addr} (w : World) (hn4 : n ≤ 4096) {v : Nat} (hv : n ≤ v) :
    Calls Tryz.prog 111 #[.agg #[.int .i64 n, .slice a m c, .slice fa m fc], .int .i64 (v : Int)] w fun e w' => e = .returned (.slice none 0 0) ∧ Mod [] w w' := by
  have hset := Lib.hid (fun W => xset09 hn4 W)
  have hS0 := Lib.hid ((Sep.empty w).box [.int .i64 n, .slice a m c, .slice fa m fc] 35)
  have b0 := (hS0.out.blkAt 0 rfl).cell 0 rfl
  have bl := (hS0.out.blkAt 0 rfl).lt
  have t1 : decide ((n : Int) ≤ (v : Int)) = true := by simp; omega
  have t2 : decide ((v : Int) < 0) = false := by simp
  have t3 : decide (n ≤ v) = true := by simp; omega
  go_enter Tryz.func111, Tryz.ntmps111
  go_wp2_with fail
  refine (hset.out _).mono ?_
  rintro e w2 ⟨g, rfl, hmd⟩
  have hS1 := Lib.hid ((hS0.out.made hmd).box [.int .i64 n, .slice (some ⟨g, 0, none⟩) n n] 253)
  clear hmd hS0 b0 bl
  generalize w.heap.size = B at *
  try dsimp only
  go_upto_region 2 with fail
  generalize w2.alloc (.cells #[.int .i64 n, .slice (some ⟨g, 0, none⟩) n n] 253) = w3 at *
  have b0 := (hS1.out.blkAt 2 rfl).cell 0 rfl
  have bl := (hS1.out.blkAt 2 rfl).lt
  have hmod := Lib.hid hS1.out.mod
  clear hS1
  go_wp2_with fail
  go_ret
  exact ⟨rfl, hmod.out⟩
end Edge
end Go.Proofs.YtjpfmkfikidgkaaGreat

set_option linter.unusedVariables false
set_option linter.unusedSimpArgs false
namespace Go.Proofs.YtjpfmkfikidgkaaGreat
open Go.RowKit
namespace Edge
/-- copy onto an own row, from a row as long. -/
theorem own_copy {w : World} {t e g n cg gs cs : Nat} {xs ys : List Value} (hu : Tryz.prog.underlying t = some (.slice e)) (hs : (Tryz.prog.info? e).map (·.size) = some 1)
    (hd : w.ownsRow 0 e 1 (.slice (some ⟨g, 0, none⟩) n cg) n xs) (hy : w.ownsRow 0 e 1 (.slice (some ⟨gs, 0, none⟩) n cs) n ys) (h1 : ∀ v ∈ ys, v.oneCell' = true) :
    ∃ w1, (∀ ty, (Builtin.copy_ #[t, t] ty #[.slice (some ⟨g, 0, none⟩) n cg, .slice (some ⟨gs, 0, none⟩) n cs]).run Tryz.prog w = .ok (goInt n) w1) ∧ w1.ownsRow 0 e 1 (.slice (some ⟨g, 0, none⟩) n cg) n ys ∧ Mod [g] w w1 := by
  rcases hd.2 with ⟨he, _⟩ | ⟨g', cap, cur, he, hb, hg, hc1, hc2, hc3, hc4⟩
  · cases he
  injection he with e1 e2 e3
  injection e1 with e1
  injection e1 with e1
  subst e1
  subst e3
  have hly : ys.length = n := by have := hy.1; omega
  have hlx : xs.length = n := by have := hd.1; omega
  refine ⟨w.setRow g (cur.toList.take 0 ++ ys ++ cur.toList.drop (0 + ys.length)).toArray, fun ty => ?_, ?_, ?_⟩
  · have := run_copy_row (P := Tryz.prog) w t t ty e g 0 n cg ⟨gs, 0, none⟩ n cs cur e ys hu hs hg (by rw [hly]; exact (Nat.min_self n).symm) (fun j v hv => by
      have hj := (List.getElem?_eq_some_iff.1 hv).1
      have h5 := hy.cellAt j (by omega)
      rw [hv] at h5
      have e5 : (⟨gs, 0, none⟩ : Addr).add j = ⟨gs, j, none⟩ := by unfold Addr.add; split <;> simp_all
      rw [e5]
      exact h5) (by omega) h1
    rw [this, hly]
  · refine ⟨by omega, .inr ⟨g, cg, _, rfl, hb, setRow_heap w g cur _ e _ hg, hc1, hc2, ?_, ?_⟩⟩
    · simp; omega
    · simp [hly]
  · refine ⟨rfl, rfl, rfl, by simp [World.setRow], fun k hk hn => setRow_other w g k _ (by simpa using hn)⟩
/-- Two of them, side by side. -/
theorem Sep.rest_two {w0 w : World} {r ba n : Nat} {L : List Ed} {f : List Int} {R : List Part} {r2 gl go gl2 go2 : Nat} (h : Sep w0 w
  (Blk r2 [.pointer (some ⟨ba, 0, none⟩), .slice (some ⟨gl2, 0, none⟩) (2 * L.length) (2 * L.length), .slice (some ⟨go2, 0, none⟩) n n] 174 ::
   Row 2 1 (2 * L.length) (.slice (some ⟨gl2, 0, none⟩) (2 * L.length) (2 * L.length)) (i64s (leftL L f)) ::
   Row 2 1 n (.slice (some ⟨go2, 0, none⟩) n n) (i64s (overL n L f)) ::
   Blk r [.pointer (some ⟨ba, 0, none⟩), .slice (some ⟨gl, 0, none⟩) (2 * L.length) (2 * L.length), .slice (some ⟨go, 0, none⟩) n n] 174 ::
   Row 2 1 (2 * L.length) (.slice (some ⟨gl, 0, none⟩) (2 * L.length) (2 * L.length)) (i64s (leftL L f)) ::
   Row 2 1 n (.slice (some ⟨go, 0, none⟩) n n) (i64s (overL n L f)) :: R)) : Sep w0 w (RestP r2 ba n L f :: RestP r ba n L f :: R) := by
  have h1 := Sep.mkRest h
  have h2 := Sep.mkRest (h1.perm (List.perm_middle (l₁ := [_, _, _]) (a := RestP r2 ba n L f)).symm)
  exact h2.swap
theorem infoI64s : (Tryz.prog.info? 2).map (·.size) = some 1 := by kernel_rfl
set_option maxRecDepth 100000 in
set_option maxHeartbeats 8000000 in
theorem rtwin_sep {w0 w : World} {r ba n : Nat} {L : List Ed} {f : List Int} {R : List Part} (hG : GOk n L) (h : Sep w0 w (RestP r ba n L f :: R)) :
    Calls Tryz.prog 20 #[.pointer (some ⟨r, 0, none⟩)] w fun e w' => ∃ r2, e = .returned (.pointer (some ⟨r2, 0, none⟩)) ∧ Sep w0 w' (RestP r2 ba n L f :: RestP r ba n L f :: R) := by
  have hn4 := hG.le
  have hl := hG.len
  obtain ⟨m, hm⟩ : ∃ m, 2 * L.length = m := ⟨_, rfl⟩
  have hml : m ≤ 2097152 := by omega
  obtain ⟨gl, go, hS⟩ := Sep.rest h
  rw [hm] at hS
  have hm' := Lib.hid hm
  have hS0 := Lib.hid hS
  have b0 := (hS.blkAt 0 rfl).cell 0 rfl
  have bl := (hS.blkAt 0 rfl).lt
  have hS1 := Lib.hid (hS.still (Mod.refl [] _).drew)
  have f0 : ∀ m : Fut (Mod []) w.drew, m.v.cell? ⟨r, 0, none⟩ = some (.pointer (some ⟨ba, 0, none⟩)) := fun m' => ((hS0.out.still ((Mod.refl [] _).drew.trans m'.of (by simp))).blkAt 0 rfl).cell 0 rfl
  have f1 : ∀ m' : Fut (Mod []) w.drew, m'.v.cell? ⟨r, 1, none⟩ = some (.slice (some ⟨gl, 0, none⟩) m m) := fun m' => ((hS0.out.still ((Mod.refl [] _).drew.trans m'.of (by simp))).blkAt 0 rfl).cell 1 rfl
  have f2 : ∀ m' : Fut (Mod []) w.drew, m'.v.cell? ⟨r, 2, none⟩ = some (.slice (some ⟨go, 0, none⟩) n n) := fun m' => ((hS0.out.still ((Mod.refl [] _).drew.trans m'.of (by simp))).blkAt 0 rfl).cell 2 rfl
  have c0 := f0 ⟨_, Mod.refl _ _⟩
  have c1 := f1 ⟨_, Mod.refl _ _⟩
  have c2 := f2 ⟨_, Mod.refl _ _⟩
  have hmkL := make_run (P := Tryz.prog) 33 2 (.int .i64 0) 8 Tryz.underlying33 infoI64b rfl (by omega) m (by omega)
  have hmkN := make_run (P := Tryz.prog) 33 2 (.int .i64 0) 8 Tryz.underlying33 infoI64b rfl (by omega) n (by omega)
  have hA := Lib.hid (((hS1.out.made (made_made w.drew 2 (.int .i64 0) m (by omega))).made (made_made _ 2 (.int .i64 0) n (by omega))).box [.pointer (some ⟨ba, 0, none⟩), .slice (some ⟨w.heap.size, 0, none⟩) m m, .slice (some ⟨w.heap.size + 1, 0, none⟩) n n] 174)
  have hB := Lib.hid (((hS1.out.made (made_made w.drew 2 (.int .i64 0) n (by omega))).made (made_made _ 2 (.int .i64 0) m (by omega))).box [.pointer (some ⟨ba, 0, none⟩), .slice (some ⟨w.heap.size + 1, 0, none⟩) m m, .slice (some ⟨w.heap.size, 0, none⟩) n n] 174)
  rw [World.size_alloc, World.size_alloc, show w.drew.heap.size = w.heap.size from rfl] at hA
  rw [World.size_alloc, World.size_alloc, show w.drew.heap.size = w.heap.size from rfl] at hB
  clear h hS hm hG hS0
  go_enter Tryz.func20, Tryz.ntmps20
  go_upto_region 3 with fail
  refine region_head (G := Mod []) [0, 1, 2, 3, 4, 5, 6, 7, 8, 10, 11, 12, 13, 14] #[true, true, true, true, true, true, true, true, true, false, true, true, true, true, true, false, false, false, false] 5 (by kernel_rfl) (by kernel_rfl) (by kernel_rfl) rfl (Mod.refl []) ?_
  simp only [pickO, nthO, List.cons_append, List.nil_append]
  repeat (go_big_quiet_step (fail))
  refine wpQuiet_nil ?_
  clear f0 f1 f2 c0 c1 c2 b0 bl
  refine tail_two 9 15 (by kernel_rfl) rfl rfl ?_ ?_
  case' refine_1 =>
    intro K hK
    rw [if_pos (by rfl)]
    go_simp
    refine hK.out _ _ ((Mod.refl _ _).alloc _) ?_
    clear hK K
    refine tail_one 15 (by kernel_rfl) rfl ?_
    intro K hK
    rw [if_pos (by rfl)]
    go_simp
    refine hK.out _ _ (((Mod.refl _ _).alloc _).alloc _) ?_
    clear hK K
    refine tail_one 16 (by kernel_rfl) rfl ?_
    intro K hK
    rw [if_pos (by rfl)]
    go_simp
    refine hK.out _ _ (((Mod.refl _ _).alloc _).alloc _) ?_
    clear hK K
    refine tail_one 17 (by kernel_rfl) rfl ?_
    intro K hK
    rw [if_pos (by rfl)]
    go_simp
    refine hK.out _ _ ((((Mod.refl _ _).alloc _).alloc _).alloc _) ?_
    clear hK K hmkL hmkN hB hS1
    refine sep_wrap2 (goalP := fun W => wpAnyH _ _ _ _ _ _ _ _ W) (V := w.drew) hA.out ((((Mod.refl _ _).alloc _).alloc _).alloc _) ?_
    intro Wg hSg hmg
    clear hA
    have hSg2 := Lib.hid (hSg.perm (List.Perm.cons _ (List.Perm.swap _ _ _)))
    clear hSg
    generalize w.heap.size + 1 + 1 = r2 at *
    generalize w.heap.size + 1 = go2 at *
    generalize w.heap.size = gl2 at *
  case' refine_2 =>
    intro K hK
    rw [if_pos (by rfl)]
    go_simp
    refine hK.out _ _ ((Mod.refl _ _).alloc _) ?_
    clear hK K
    refine tail_one 9 (by kernel_rfl) rfl ?_
    intro K hK
    rw [if_pos (by rfl)]
    go_simp
    refine hK.out _ _ (((Mod.refl _ _).alloc _).alloc _) ?_
    clear hK K
    refine tail_one 16 (by kernel_rfl) rfl ?_
    intro K hK
    rw [if_pos (by rfl)]
    go_simp
    refine hK.out _ _ (((Mod.refl _ _).alloc _).alloc _) ?_
    clear hK K
    refine tail_one 17 (by kernel_rfl) rfl ?_
    intro K hK
    rw [if_pos (by rfl)]
    go_simp
    refine hK.out _ _ ((((Mod.refl _ _).alloc _).alloc _).alloc _) ?_
    clear hK K hmkL hmkN hA hS1
    refine sep_wrap2 (goalP := fun W => wpAnyH _ _ _ _ _ _ _ _ W) (V := w.drew) hB.out ((((Mod.refl _ _).alloc _).alloc _).alloc _) ?_
    intro Wg hSg hmg
    clear hB
    have hSg2 := Lib.hid hSg
    clear hSg
    generalize w.heap.size + 1 + 1 = r2 at *
    generalize w.heap.size + 1 = gl2 at *
    generalize w.heap.size = go2 at *
  all_goals
    have hS3 := Lib.hid (show Sep w0 Wg (Blk r2 [.pointer (some ⟨ba, 0, none⟩), .slice (some ⟨gl2, 0, none⟩) m m, .slice (some ⟨go2, 0, none⟩) n n] 174 :: Row 2 1 m (.slice (some ⟨gl2, 0, none⟩) m m) (List.replicate m (.int .i64 0)) :: Row 2 1 n (.slice (some ⟨go2, 0, none⟩) n n) (List.replicate n (.int .i64 0)) :: Blk r [.pointer (some ⟨ba, 0, none⟩), .slice (some ⟨gl, 0, none⟩) m m, .slice (some ⟨go, 0, none⟩) n n] 174 :: Row 2 1 m (.slice (some ⟨gl, 0, none⟩) m m) (i64s (leftL L f)) :: Row 2 1 n (.slice (some ⟨go, 0, none⟩) n n) (i64s (overL n L f)) :: R) from hSg2.out)
    clear hSg2
    refine tail_one 18 (by kernel_rfl) rfl ?_
    intro K hK
    rw [if_pos (by rfl)]
    go_simp
    refine hK.out _ _ hmg ?_
    clear hK K hmg
    refine tail_done (by kernel_rfl) ?_
    clear hn4 hl hml
    go_upto_region 4 with fail
    have S4 := Lib.hid (hS3.out.still (Mod.refl [] _).drew)
    obtain ⟨w5, hrun, ho, hmo⟩ := own_copy (t := 33) Tryz.underlying33 infoI64s (S4.out.rowAt 1 rfl) (S4.out.rowAt 4 rfl) (i64s_one _)
    have hS5 := Lib.hid (S4.out.growAt 1 rfl ho (by simpa [Value.ownBlock] using hmo) (.inl rfl))
    have p1 := (S4.out.blkAt 0 rfl).cell 1 rfl
    have p2 := (S4.out.blkAt 3 rfl).cell 1 rfl
    have k1 := KC.one (L := [(⟨r2, 1, none⟩, .slice (some ⟨gl2, 0, none⟩) m m), (⟨r, 1, none⟩, .slice (some ⟨gl, 0, none⟩) m m)]) p1 (by simp)
    have k2 := KC.one (L := [(⟨r2, 1, none⟩, .slice (some ⟨gl2, 0, none⟩) m m), (⟨r, 1, none⟩, .slice (some ⟨gl, 0, none⟩) m m)]) p2 (by simp)
    clear ho hmo hS3
    refine region_sched (G := KC [(⟨r2, 1, none⟩, .slice (some ⟨gl2, 0, none⟩) m m), (⟨r, 1, none⟩, .slice (some ⟨gl, 0, none⟩) m m)]) [([0,1,2,3,4,5,6,7],8)] [] (by kernel_rfl) (by kernel_rfl) (by kernel_rfl) rfl (KC.refl _) (KC.trans _) ?_
    simp only [stages, pickO, nthO, headO, List.append_eq, List.cons_append, List.nil_append]
    refine sched_step ?_
    repeat (go_big_quiet_step (fail))
    refine wpQuiet_nil ?_
    intro K hK
    rw [if_pos (by rfl)]
    go_simp
    refine hK.out _ _ (fun p hp _ => by
      simp only [List.mem_cons, List.mem_nil_iff, or_false] at hp
      rcases hp with rfl | rfl
      · exact (hS5.out.blkAt 0 rfl).cell 1 rfl
      · exact (hS5.out.blkAt 3 rfl).cell 1 rfl) ?_
    clear hK K hrun k1 k2 p1 p2
    refine sched_last ?_
    refine wpQuiet_nil ?_
    go_upto_region 5 with fail
    have S5 := Lib.hid (hS5.out.still (Mod.refl [] _).drew)
    obtain ⟨w6, hrun, ho, hmo⟩ := own_copy (t := 33) Tryz.underlying33 infoI64s (S5.out.rowAt 2 rfl) (S5.out.rowAt 5 rfl) (i64s_one _)
    have hS6 := Lib.hid (S5.out.growAt 2 rfl ho (by simpa [Value.ownBlock] using hmo) (.inl rfl))
    have p1 := (S5.out.blkAt 0 rfl).cell 2 rfl
    have p2 := (S5.out.blkAt 3 rfl).cell 2 rfl
    have k1 := KC.one (L := [(⟨r2, 2, none⟩, .slice (some ⟨go2, 0, none⟩) n n), (⟨r, 2, none⟩, .slice (some ⟨go, 0, none⟩) n n)]) p1 (by simp)
    have k2 := KC.one (L := [(⟨r2, 2, none⟩, .slice (some ⟨go2, 0, none⟩) n n), (⟨r, 2, none⟩, .slice (some ⟨go, 0, none⟩) n n)]) p2 (by simp)
    clear ho hmo hS5
    refine region_sched (G := KC [(⟨r2, 2, none⟩, .slice (some ⟨go2, 0, none⟩) n n), (⟨r, 2, none⟩, .slice (some ⟨go, 0, none⟩) n n)]) [([0,1,2,3,4,5,6,7],8)] [] (by kernel_rfl) (by kernel_rfl) (by kernel_rfl) rfl (KC.refl _) (KC.trans _) ?_
    simp only [stages, pickO, nthO, headO, List.append_eq, List.cons_append, List.nil_append]
    refine sched_step ?_
    repeat (go_big_quiet_step (fail))
    refine wpQuiet_nil ?_
    intro K hK
    rw [if_pos (by rfl)]
    go_simp
    refine hK.out _ _ (fun p hp _ => by
      simp only [List.mem_cons, List.mem_nil_iff, or_false] at hp
      rcases hp with rfl | rfl
      · exact (hS6.out.blkAt 0 rfl).cell 2 rfl
      · exact (hS6.out.blkAt 3 rfl).cell 2 rfl) ?_
    clear hK K hrun k1 k2 p1 p2
    refine sched_last ?_
    refine wpQuiet_nil ?_
    have hfin := Lib.hid (show Sep w0 w6 (RestP r2 ba n L f :: RestP r ba n L f :: R) by
      have h5 := hS6.out
      rw [← hm'.out] at h5
      exact Sep.rest_two h5)
    clear hS6 S4 S5
    go_wp2_with fail
    go_ret
    exact ⟨r2, rfl, hfin.out⟩
theorem i64s_one5 (l : List Int) : ∀ v ∈ i64s l, v.oneCell' = true := i64s_one l
end Edge
end Go.Proofs.YtjpfmkfikidgkaaGreat

set_option linter.unusedVariables false
set_option linter.unusedSimpArgs false
namespace Go.Proofs.YtjpfmkfikidgkaaGreat
open Go.RowKit
namespace Edge
theorem reach_both {w : World} {r ba n m c fc : Nat} {L : List Ed} {f : List Int} {F F2 : List Nat} {a fa : Option Addr} (h : RestP r ba n L f w F) (hA : ArcP ba n L w F2) (hX : RX w L f a c fa fc) (hG : GOk n L) (hF : FB L f) (hm : L.length = m) (v : Nat) :
    ∃ l : List Nat, (∀ W, Mod [] w W → Calls Tryz.prog 110 #[.pointer (some ⟨r, 0, none⟩), .int .i64 (v : Int)] W fun e w' => ∃ a c, e = .returned (.slice a l.length c) ∧ Made W w' 3 1 a l.length c (i64s (ints l))) ∧
      (∀ W, Mod [] w W → Calls Tryz.prog 111 #[.agg #[.int .i64 n, .slice a m c, .slice fa m fc], .int .i64 (v : Int)] W fun e w' => ∃ a c, e = .returned (.slice a l.length c) ∧ Made W w' 3 1 a l.length c (i64s (ints l))) := by
  by_cases hv : v < n
  · have hR := rounds_all (f := f) hG hv
    refine ⟨listB n (roundsA L f (oneB n v) n), fun W hM => ?_, fun W hM => ?_⟩
    · refine (rreach_p (Good.keep h hM (by simp)) (Good.keep hA hM (by simp)) hG hv).mono ?_
      rintro e w1 ⟨l, a1, c1, hl, he, hmd⟩
      have := reach_one hl hR
      subst this
      exact ⟨a1, c1, he, hmd⟩
    · have h1 := xreach23 (hX.still hM) hG hF hv
      unfold restV at h1
      rw [hm] at h1
      refine h1.mono ?_
      rintro e w1 ⟨l, a1, c1, hl, he, hmd⟩
      have := reach_one hl hR
      subst this
      exact ⟨a1, c1, he, hmd⟩
  · refine ⟨[], fun W hM => ?_, fun W hM => ?_⟩
    · refine (rreach_out (Good.keep h hM (by simp)) (Good.keep hA hM (by simp)) hG (by omega)).mono ?_
      rintro e w1 ⟨he, hw⟩
      subst hw
      exact ⟨none, 0, he, World.ownsRow_nil _ _ _ _, Mod.refl _ _, by simp [Value.ownBlock]⟩
    · refine (xreach_out W hG.le (by omega)).mono ?_
      rintro e w1 ⟨he, hM1⟩
      exact ⟨none, 0, he, World.ownsRow_nil _ _ _ _, hM1, by simp [Value.ownBlock]⟩
set_option maxRecDepth 100000 in
set_option maxHeartbeats 8000000 in
theorem same23 {w : World} {r ba n c fc : Nat} {L : List Ed} {f : List Int} {F F2 : List Nat} {a fa : Option Addr} (h : RestP r ba n L f w F) (hA : ArcP ba n L w F2) (hX : RX w L f a c fa fc) (hG : GOk n L) (hF : FB L f) (v : Nat) :
    Calls Tryz.prog 19 #[.pointer (some ⟨r, 0, none⟩), restV n a L.length c fa fc, .int .i64 (v : Int)] w fun e w' => e = .returned (.bool true) ∧ Mod [] w w' := by
  obtain ⟨m, hm⟩ : ∃ m, L.length = m := ⟨_, rfl⟩
  have hlb : m ≤ 1048576 := by have := hG.len; omega
  have hn4 := hG.le
  obtain ⟨l, hr1, hr2⟩ := reach_both h hA hX hG hF hm v
  have hr1' := Lib.hid hr1
  have hr2' := Lib.hid hr2
  have hL1 := Lib.hid (fun W (hM : Mod [] w W) (i : Int) => rleft_p (Good.keep h hM (by simp)) (Good.keep hA hM (by simp)) hG i)
  have hL2 := Lib.hid (fun W (hM : Mod [] w W) (i : Int) (hi : i ≤ 9223372036854775807) => xleft23 (hX.still hM) hG hF i hi)
  have hE1 := Lib.hid (fun W (hM : Mod [] w W) (i : Int) => rexc_p (Good.keep h hM (by simp)) (Good.keep hA hM (by simp)) hG i)
  have hE2 := Lib.hid (fun W (hM : Mod [] w W) (i : Int) => xexc23 (hX.still hM) hG hF i)
  have hfl : f.length = m := by rw [hX.len, hm]
  have hF1 := Lib.hid (fun W (hM : Mod [] w W) => rflows_p (Good.keep h hM (by simp)) (Good.keep hA hM (by simp)) hG hF)
  rw [hfl] at hF1
  have hXf := Lib.hid (fun W (hM : Mod [] w W) => (hX.still hM).f)
  unfold restV at hL2 hE2 ⊢
  rw [hm] at hL2 hE2 hXf ⊢
  have hS0 := Lib.hid ((Sep.empty w).box [.int .i64 n, .slice a m c, .slice fa m fc] 35)
  have hex : Hid (∀ i : Int, -9223372036854775808 ≤ exc L f i ∧ exc L f i ≤ 9223372036854775807) := Lib.hid (fun i => by
    have h1 := exc_in hF (fun e he => by have := hG.ends e he; omega) i
    have h2 := hG.tot
    omega)
  clear h hA hX hG hF hr1 hr2 hfl hm
  go_enter Tryz.func19, Tryz.ntmps19
  go_wp2_with fail
  generalize w.alloc (.cells #[.int .i64 n, .slice a m c, .slice fa m fc] 35) = w1 at *
  generalize w.heap.size = B at *
  go_loopw [7] (fun s7 wr => ∃ i : Int, -1 ≤ i ∧ i ≤ 2 * m + 1 ∧ s7 = .int .i64 i ∧ Hid (Sep w wr [Blk B [.int .i64 n, .slice a m c, .slice fa m fc] 35])) (fun s7 _ => (2 * (m : Int) + 1 - intOf s7).toNat)
  case atStart => exact ⟨-1, by omega, by omega, rfl, hS0⟩
  case round =>
    clear hS0
    obtain ⟨i, hi1, hi2, rfl, hS⟩ := hrel
    have b2 := (hS.out.blkAt 0 rfl).cell 2 rfl
    have bl := (hS.out.blkAt 0 rfl).lt
    by_cases hle : i ≤ 2 * (m : Int)
    · have f0 : ∀ m' : Fut (Mod []) wr.drew, m'.v.cell? ⟨B, 0, none⟩ = some (.int .i64 n) := fun m' => ((hS.out.still ((Mod.refl [] wr).drew.trans m'.of (by simp))).blkAt 0 rfl).cell 0 rfl
      have f1 : ∀ m' : Fut (Mod []) wr.drew, m'.v.cell? ⟨B, 1, none⟩ = some (.slice a m c) := fun m' => ((hS.out.still ((Mod.refl [] wr).drew.trans m'.of (by simp))).blkAt 0 rfl).cell 1 rfl
      have f2 : ∀ m' : Fut (Mod []) wr.drew, m'.v.cell? ⟨B, 2, none⟩ = some (.slice fa m fc) := fun m' => ((hS.out.still ((Mod.refl [] wr).drew.trans m'.of (by simp))).blkAt 0 rfl).cell 2 rfl
      have k0 := f0 ⟨_, Mod.refl _ _⟩
      have k1 := f1 ⟨_, Mod.refl _ _⟩
      have k2 := f2 ⟨_, Mod.refl _ _⟩
      have cc1 := Lib.hid (hL1.out _ hS.out.mod.drew i)
      have cc2 := Lib.hid (hL2.out _ hS.out.mod.drew i (by omega))
      generalize leftI L f i = z at *
      go_upto_region 4 with fail
      refine region_sched (G := Mod []) [([0,1,3,4],2), ([],5)] [6] (by kernel_rfl) (by kernel_rfl) (by kernel_rfl) rfl (Mod.refl []) (fun _ _ _ h1 h2 => h1.trans h2 (by simp)) ?_
      simp only [stages, pickO, nthO, headO, List.append_eq, List.cons_append, List.nil_append]
      refine sched_step ?_
      repeat (go_big_quiet_step (fail))
      refine wpQuiet_nil ?_
      intro K hK
      rw [if_pos (by rfl)]
      go_simp
      refine cc1.out.mono ?_
      rintro e w5 ⟨rfl, hw5⟩
      subst w5
      try dsimp only
      refine hK.out _ _ (Mod.refl _ _) ?_
      clear hK K f0 f1 f2 k0 k1 k2 cc1 b2 bl
      refine sched_step ?_
      refine wpQuiet_nil ?_
      intro K hK
      rw [if_pos (by rfl)]
      go_simp
      refine cc2.out.mono ?_
      rintro e w6 ⟨rfl, hm6⟩
      have hS6 := Lib.hid (hS.out.still ((Mod.refl [] wr).drew.trans hm6 (by simp)))
      try dsimp only
      refine hK.out _ _ hm6 ?_
      clear hK K cc2 hm6 hS
      refine sched_last ?_
      repeat (go_big_quiet_step (fail))
      refine wpQuiet_nil ?_
      go_wp2_with fail
      go_roundw
      case rel => exact ⟨i + 1, by omega, by omega, by go_num, hS6⟩
      case measure => simp [intOf]; omega
    · go_wp2_with fail
      clear b2 bl hi1 hi2 hle
      go_loopw [8] (fun s8 wr => ∃ i : Int, -1 ≤ i ∧ i ≤ n + 1 ∧ s8 = .int .i64 i ∧ Hid (Sep w wr [Blk B [.int .i64 n, .slice a m c, .slice fa m fc] 35])) (fun s8 _ => ((n : Int) + 1 - intOf s8).toNat)
      case atStart => exact ⟨-1, by omega, by omega, rfl, hS⟩
      case round =>
        clear hS
        obtain ⟨i, hi1, hi2, rfl, hS⟩ := hrel
        have b2 := (hS.out.blkAt 0 rfl).cell 0 rfl
        have bl := (hS.out.blkAt 0 rfl).lt
        by_cases hle : i ≤ (n : Int)
        · have f0 : ∀ m' : Fut (Mod []) wr.drew, m'.v.cell? ⟨B, 0, none⟩ = some (.int .i64 n) := fun m' => ((hS.out.still ((Mod.refl [] wr).drew.trans m'.of (by simp))).blkAt 0 rfl).cell 0 rfl
          have f1 : ∀ m' : Fut (Mod []) wr.drew, m'.v.cell? ⟨B, 1, none⟩ = some (.slice a m c) := fun m' => ((hS.out.still ((Mod.refl [] wr).drew.trans m'.of (by simp))).blkAt 0 rfl).cell 1 rfl
          have f2 : ∀ m' : Fut (Mod []) wr.drew, m'.v.cell? ⟨B, 2, none⟩ = some (.slice fa m fc) := fun m' => ((hS.out.still ((Mod.refl [] wr).drew.trans m'.of (by simp))).blkAt 0 rfl).cell 2 rfl
          have k0 := f0 ⟨_, Mod.refl _ _⟩
          have k1 := f1 ⟨_, Mod.refl _ _⟩
          have k2 := f2 ⟨_, Mod.refl _ _⟩
          have cc1 := Lib.hid (hE1.out _ hS.out.mod.drew i)
          have cc2 := Lib.hid (hE2.out _ hS.out.mod.drew i)
          generalize exc L f i = z at *
          go_upto_region 9 with fail
          refine region_sched (G := Mod []) [([0,1,3,4],2), ([],5)] [6] (by kernel_rfl) (by kernel_rfl) (by kernel_rfl) rfl (Mod.refl []) (fun _ _ _ h1 h2 => h1.trans h2 (by simp)) ?_
          simp only [stages, pickO, nthO, headO, List.append_eq, List.cons_append, List.nil_append]
          refine sched_step ?_
          repeat (go_big_quiet_step (fail))
          refine wpQuiet_nil ?_
          intro K hK
          rw [if_pos (by rfl)]
          go_simp
          refine cc1.out.mono ?_
          rintro e w5 ⟨rfl, hw5⟩
          subst w5
          try dsimp only
          refine hK.out _ _ (Mod.refl _ _) ?_
          clear hK K f0 f1 f2 k0 k1 k2 cc1 b2 bl
          refine sched_step ?_
          refine wpQuiet_nil ?_
          intro K hK
          rw [if_pos (by rfl)]
          go_simp
          refine cc2.out.mono ?_
          rintro e w6 ⟨rfl, hm6⟩
          have hS6 := Lib.hid (hS.out.still ((Mod.refl [] wr).drew.trans hm6 (by simp)))
          try dsimp only
          refine hK.out _ _ hm6 ?_
          clear hK K cc2 hm6 hS
          refine sched_last ?_
          repeat (go_big_quiet_step (fail))
          refine wpQuiet_nil ?_
          go_wp2_with fail
          go_roundw
          case rel => exact ⟨i + 1, by omega, by omega, by go_num, hS6⟩
          case measure => simp [intOf]; omega
        · have hSd := Lib.hid (hS.out.still (Mod.refl [] wr).drew)
          go_upto_region 11 with fail
          clear b2 bl hle
          have f0 : ∀ m' : Fut (Mod []) wr.drew, m'.v.cell? ⟨B, 2, none⟩ = some (.slice fa m fc) := fun m' => ((hSd.out.still m'.of).blkAt 0 rfl).cell 2 rfl
          have k0 := f0 ⟨_, Mod.refl _ _⟩
          have cc1 := Lib.hid (hF1.out _ hSd.out.mod)
          refine region_sched (G := Mod []) [([0,2,3],1), ([],4), ([5,6,7,9,10],8), ([],11), ([],12)] [13,14] (by kernel_rfl) (by kernel_rfl) (by kernel_rfl) rfl (Mod.refl []) (fun _ _ _ h1 h2 => h1.trans h2 (by simp)) ?_
          simp only [stages, pickO, nthO, headO, List.append_eq, List.cons_append, List.nil_append]
          refine sched_step ?_
          repeat (go_big_quiet_step (fail))
          refine wpQuiet_nil ?_
          intro K hK
          rw [if_pos (by rfl)]
          go_simp
          refine cc1.out.mono ?_
          rintro e w5 ⟨a5, c5, rfl, hmd5⟩
          have hS5 := Lib.hid (hSd.out.made hmd5)
          have hm5 := hmd5.mod
          clear hmd5 cc1 hSd hS
          try dsimp only
          refine hK.out _ _ hm5 ?_
          clear hK K f0 k0 hm5
          have cc2 := Lib.hid (xsame04 (Rd.own (hS5.out.rowAt 0 rfl)) (hXf.out _ hS5.out.mod) hlb)
          refine sched_step ?_
          refine wpQuiet_nil ?_
          intro K hK
          rw [if_pos (by rfl)]
          go_simp
          refine cc2.out.mono ?_
          rintro e w6 ⟨rfl, hm6⟩
          have hS6 := Lib.hid (hS5.out.still hm6)
          try dsimp only
          refine hK.out _ _ hm6 ?_
          clear hK K cc2 hm6 hS5
          have f0 : ∀ m' : Fut (Mod []) w6, m'.v.cell? ⟨B, 0, none⟩ = some (.int .i64 n) := fun m' => ((hS6.out.still m'.of).blkAt 1 rfl).cell 0 rfl
          have f1 : ∀ m' : Fut (Mod []) w6, m'.v.cell? ⟨B, 1, none⟩ = some (.slice a m c) := fun m' => ((hS6.out.still m'.of).blkAt 1 rfl).cell 1 rfl
          have f2 : ∀ m' : Fut (Mod []) w6, m'.v.cell? ⟨B, 2, none⟩ = some (.slice fa m fc) := fun m' => ((hS6.out.still m'.of).blkAt 1 rfl).cell 2 rfl
          have k0 := f0 ⟨_, Mod.refl _ _⟩
          have k1 := f1 ⟨_, Mod.refl _ _⟩
          have k2 := f2 ⟨_, Mod.refl _ _⟩
          have cc3 := Lib.hid (hr1'.out _ hS6.out.mod)
          refine sched_step ?_
          repeat (go_big_quiet_step (fail))
          refine wpQuiet_nil ?_
          intro K hK
          rw [if_pos (by rfl)]
          go_simp
          refine cc3.out.mono ?_
          rintro e w7 ⟨a7, c7, rfl, hmd7⟩
          have hS7 := Lib.hid (hS6.out.made hmd7)
          have hm7 := hmd7.mod
          clear hmd7 cc3 hS6
          try dsimp only
          refine hK.out _ _ hm7 ?_
          clear hK K f0 f1 f2 k0 k1 k2 hm7
          have cc4 := Lib.hid (hr2'.out _ hS7.out.mod)
          refine sched_step ?_
          refine wpQuiet_nil ?_
          intro K hK
          rw [if_pos (by rfl)]
          go_simp
          refine cc4.out.mono ?_
          rintro e w8 ⟨a8, c8, rfl, hmd8⟩
          have hS8 := Lib.hid (hS7.out.made hmd8)
          have hm8 := hmd8.mod
          clear hmd8 cc4 hS7
          try dsimp only
          refine hK.out _ _ hm8 ?_
          clear hK K hm8
          have cc5 := Lib.hid (by
            have h1 := Reads.own (hS8.out.rowAt 0 rfl)
            have h2 := Reads.own (hS8.out.rowAt 1 rfl)
            have h5 := ints_any (xs := ints l) (ys := ints l) (by rw [ints_len]; exact h2) (by rw [ints_len]; exact h1)
            rw [show eqI (ints l) (ints l) = true by simp [eqI]] at h5
            exact h5)
          refine sched_step ?_
          refine wpQuiet_nil ?_
          intro K hK
          rw [if_pos (by rfl)]
          go_simp
          refine cc5.out.mono ?_
          rintro e w9 ⟨rfl, hdr9⟩
          have hm9 := hdr9.mod
          have hfin := Lib.hid (hS8.out.still hm9).mod
          try dsimp only
          refine hK.out _ _ hm9 ?_
          clear hK K cc5 hm9 hdr9 hS8
          refine sched_last ?_
          repeat (go_big_quiet_step (fail))
          refine wpQuiet_nil ?_
          go_wp2_with fail
          go_ret
          exact ⟨rfl, hfin.out⟩
end Edge
end Go.Proofs.YtjpfmkfikidgkaaGreat

set_option linter.unusedVariables false
set_option linter.unusedSimpArgs false
namespace Go.Proofs.YtjpfmkfikidgkaaGreat
open Go.RowKit
section
variable {P : Program} {G : World → World → Prop} {Q : Exit → Act → World → Prop} {l : List Oper}
theorem tail_seg {W0 : World} {N : Nat} {listed : Array Bool} {a : Act} {w : World} (is : List Nat) (listed' : Array Bool) (n : Nat) (hs : Region.noSelect l.toArray = true) (hB : segB .any l.toArray is listed = some listed') (hc : N = n + is.length)
    (hG : ∀ w, G w w) (hT : ∀ w1 w2 w3, G w1 w2 → G w2 w3 → G w1 w3) (h0 : G W0 w)
    (h : wpQuiet P l.toArray (fun w' => ∃ m : Fut G w, w' = m.v) (fun a' => wpAnyH P .any l.toArray (NoPanic Q) (G w) n listed' a' w) (pickO l is) a) : wpAnyH P .any l.toArray (NoPanic Q) (G W0) N listed a w := by
  refine held_mono (fun w' hw' => hT _ _ _ h0 hw') _ _ _ _ ?_
  rw [pickO_eq] at h
  rw [hc]
  exact seg_take (P := P) (md := .any) (G := G) (Q := NoPanic Q) (w := w) hs (fun _ _ _ _ _ h => h) hG is listed listed' n a hB h (fun a' h => h)
end
end Go.Proofs.YtjpfmkfikidgkaaGreat

set_option linter.unusedVariables false
set_option linter.unusedSimpArgs false
namespace Go.Proofs.YtjpfmkfikidgkaaGreat
open Go.RowKit
namespace Edge
/-- What the reference's New gives: no graph, and no row; or a graph, and its row. -/
def RN (n : Int) (l : List Ed) (m : Int) (a : Option Addr) (k c : Nat) (q p : Int) (R : List Part) : Prop :=
  (newE n l ≠ (0, 0) ∧ m = 0 ∧ a = none ∧ k = 0 ∧ c = 0 ∧ q = (newE n l).1 ∧ p = (newE n l).2 ∧ R = []) ∨
    (newE n l = (0, 0) ∧ m = n ∧ k = (merged l).length ∧ q = 0 ∧ p = 0 ∧ R = [Row 146 3 (merged l).length (.slice a (merged l).length c) (flat encEd (merged l))])
theorem rnew_sep (n : Int) {l : List Ed} {v : Value} {w0 w : World} {L : List Part} (h : Rd w 3 v l.length (flat encEd l)) (hS : Sep w0 w L) :
    Calls Tryz.prog 18 #[.int .i64 n, v] w fun e w' => ∃ m a k c q p R, e = .returned (.agg #[.int .i64 m, .slice a k c, .int .i64 q, .int .i64 p]) ∧ RN n l m a k c q p R ∧ Mod [] w w' ∧ Sep w0 w' (R ++ L) := by
  refine (rnew_any n h).mono ?_
  rintro e w' hR
  rcases hR.out with ⟨hne, rfl, hm⟩ | ⟨he, a, c, rfl, hm⟩
  · exact ⟨_, _, _, _, _, _, [], rfl, .inl ⟨hne, rfl, rfl, rfl, rfl, rfl, rfl, rfl⟩, hm, hS.still hm⟩
  · exact ⟨_, _, _, _, _, _, _, rfl, .inr ⟨he, rfl, rfl, rfl, rfl, rfl⟩, hm.mod, hS.made hm⟩
/-- Four cells of a block set. -/
theorem sep_set4 {w0 w : World} {b : Nat} {y0 y1 y2 y3 : Value} {t : TypeId} {L : List Part} (h : Sep w0 w (Blk b [y0, y1, y2, y3] t :: L)) (x0 x1 x2 x3 : Value) :
    Sep w0 ((((w.setCell ⟨b, 0, none⟩ x0).setCell ⟨b, 1, none⟩ x1).setCell ⟨b, 2, none⟩ x2).setCell ⟨b, 3, none⟩ x3) (Blk b [x0, x1, x2, x3] t :: L) :=
  (((h.set 0 x0).set 1 x1).set 2 x2).set 3 x3
end Edge
end Go.Proofs.YtjpfmkfikidgkaaGreat

set_option linter.unusedVariables false
set_option linter.unusedSimpArgs false
namespace Go.Proofs.YtjpfmkfikidgkaaGreat
open Go.RowKit
namespace Edge
/-- An arc of which something is left leads from u to x. -/
def Arc (L : List Ed) (f : List Int) (u x : Nat) : Prop := ∃ i, i < 2 * L.length ∧ tailE L i = (u : Int) ∧ headE L i = (x : Int) ∧ 0 < leftE L f i
inductive Wlk (L : List Ed) (f : List Int) : Nat → Nat → Nat → Prop
  | base (u : Nat) : Wlk L f u u 0
  | step {u x v k : Nat} : Arc L f u x → Wlk L f x v k → Wlk L f u v (k + 1)
section
variable {n : Nat} {L : List Ed} {f : List Int}
theorem arc_lt (hG : GOk n L) {u x : Nat} (h : Arc L f u x) : u < n ∧ x < n := by
  obtain ⟨i, hi, ht, hh, _⟩ := h
  have h1 := hG.ends _ (List.getElem_mem (l := L) (n := i / 2) (by omega))
  rw [tailE_get hi] at ht
  rw [headE_get hi] at hh
  split at ht <;> split at hh <;> omega
theorem Wlk.snoc {u v x k : Nat} (h : Wlk L f u v k) (ha : Arc L f v x) : Wlk L f u x (k + 1) := by
  induction h with
  | base u => exact .step ha (.base _)
  | step h1 _ ih => exact .step h1 (ih ha)
theorem Wlk.last {u x k : Nat} (h : Wlk L f u x (k + 1)) : ∃ v, Wlk L f u v k ∧ Arc L f v x := by
  generalize hm : k + 1 = m at h
  induction h generalizing k with
  | base u => omega
  | @step u y v j h1 h2 ih =>
    cases j with
    | zero =>
      cases h2
      have : k = 0 := by omega
      subst this
      exact ⟨u, .base _, h1⟩
    | succ j =>
      obtain ⟨z, h3, h4⟩ := ih (k := j) rfl
      have : k = j + 1 := by omega
      subst this
      exact ⟨z, .step h1 h3, h4⟩
theorem Wlk.lt (hG : GOk n L) {u v k : Nat} (h : Wlk L f u v k) (hv : v < n) : u < n := by
  cases h with
  | base => exact hv
  | step h1 _ => exact (arc_lt hG h1).1
/-- d is how far it is from u to v; -1: there is no way. -/
def IsD (L : List Ed) (f : List Int) (u v : Nat) (d : Int) : Prop := (d = -1 ∧ ∀ k, ¬ Wlk L f u v k) ∨ ∃ k : Nat, d = k ∧ Wlk L f u v k ∧ ∀ j, j < k → ¬ Wlk L f u v j
theorem IsD.one {u v : Nat} {d e : Int} (h1 : IsD L f u v d) (h2 : IsD L f u v e) : d = e := by
  rcases h1 with ⟨rfl, h1⟩ | ⟨k, rfl, h1, h3⟩ <;> rcases h2 with ⟨rfl, h2⟩ | ⟨j, rfl, h2, h4⟩
  · rfl
  · exact absurd h2 (h1 j)
  · exact absurd h1 (h2 k)
  · have a1 := Nat.lt_or_ge k j
    have a2 := Nat.lt_or_ge j k
    rcases a1 with a1 | a1
    · exact absurd h1 (h4 k a1)
    · rcases a2 with a2 | a2
      · exact absurd h2 (h3 j a2)
      · omega
theorem IsD.ge {u v : Nat} {d : Int} (h : IsD L f u v d) : -1 ≤ d := by
  rcases h with ⟨rfl, _⟩ | ⟨k, rfl, _⟩ <;> omega
theorem IsD.self (u : Nat) : IsD L f u u 0 := .inr ⟨0, rfl, .base _, fun j hj => by omega⟩
/-- The levels towards t. -/
def LevTo (n : Nat) (L : List Ed) (f : List Int) (t : Nat) (D : List Int) : Prop := D.length = n ∧ ∀ u, u < n → IsD L f u t (D.getD u 0)
theorem LevTo.one {t : Nat} {D E : List Int} (h1 : LevTo n L f t D) (h2 : LevTo n L f t E) : D = E := by
  refine List.ext_getElem (by rw [h1.1, h2.1]) (fun i a1 a2 => ?_)
  have h := (h1.2 i (by rw [← h1.1]; exact a1)).one (h2.2 i (by rw [← h1.1]; exact a1))
  rw [List.getD_eq_getElem?_getD, List.getD_eq_getElem?_getD, List.getElem?_eq_getElem a1, List.getElem?_eq_getElem a2] at h
  exact h
/-- Along an arc it falls by one at most. -/
theorem IsD.arc {u x t : Nat} {d e : Int} (ha : Arc L f u x) (h1 : IsD L f u t d) (h2 : IsD L f x t e) (he : 0 ≤ e) : 0 ≤ d ∧ d ≤ e + 1 := by
  rcases h2 with ⟨rfl, _⟩ | ⟨k, rfl, h3, h4⟩
  · omega
  · rcases h1 with ⟨rfl, h1⟩ | ⟨j, rfl, h5, h6⟩
    · exact absurd (Wlk.step ha h3) (h1 _)
    · have : j ≤ k + 1 := by
        rcases Nat.lt_or_ge (k + 1) j with h | h
        · exact absurd (Wlk.step ha h3) (h6 _ h)
        · exact h
      omega
/-- Where it is far, an arc leads nearer. -/
theorem IsD.next {u t : Nat} {d : Int} (h1 : IsD L f u t d) (hd : 0 < d) : ∃ x, Arc L f u x ∧ IsD L f x t (d - 1) := by
  rcases h1 with ⟨rfl, _⟩ | ⟨k, rfl, h3, h4⟩
  · omega
  · cases h3 with
    | base => omega
    | @step _ x _ j ha h5 =>
      refine ⟨x, ha, .inr ⟨j, by omega, h5, fun i hi hw => h4 (i + 1) (by omega) (.step ha hw)⟩⟩
theorem IsD.zero {u t : Nat} (h : IsD L f u t 0) : u = t := by
  rcases h with ⟨h, _⟩ | ⟨k, hk, h3, _⟩
  · omega
  · have : k = 0 := by omega
    subst this
    cases h3; rfl
/-- It is never as far as there are vertices. -/
theorem IsD.few (hG : GOk n L) {t : Nat} (ht : t < n) : ∀ (k : Nat) (u : Nat), IsD L f u t (k : Int) → ∃ l : List Nat, l.length = k + 1 ∧ l.Nodup ∧ ∀ x ∈ l, x < n ∧ ∃ j : Nat, j ≤ k ∧ IsD L f x t (j : Int)
  | 0, u, h => ⟨[u], rfl, by simp, fun x hx => by
      rw [List.mem_singleton] at hx
      subst hx
      refine ⟨?_, 0, Nat.le_refl _, h⟩
      have := IsD.zero h
      omega⟩
  | k + 1, u, h => by
    obtain ⟨x, ha, hx⟩ := h.next (by omega)
    have e : ((k + 1 : Nat) : Int) - 1 = (k : Int) := by omega
    rw [e] at hx
    obtain ⟨l, h1, h2, h3⟩ := IsD.few hG ht k x hx
    refine ⟨u :: l, by simp [h1], List.nodup_cons.2 ⟨fun hu => ?_, h2⟩, fun y hy => ?_⟩
    · obtain ⟨_, j, hj, hd⟩ := h3 u hu
      have := hd.one h
      omega
    · rcases List.mem_cons.1 hy with rfl | hy
      · exact ⟨(arc_lt hG ha).1, k + 1, Nat.le_refl _, h⟩
      · obtain ⟨a, j, hj, hd⟩ := h3 y hy
        exact ⟨a, j, by omega, hd⟩
theorem IsD.lt (hG : GOk n L) {t u : Nat} (ht : t < n) {d : Int} (h : IsD L f u t d) : d < n := by
  have hge := h.ge
  rcases Int.lt_or_le (-1) d with h0 | h0
  · obtain ⟨k, rfl⟩ : ∃ k : Nat, d = k := ⟨d.toNat, by omega⟩
    obtain ⟨l, h1, h2, h3⟩ := IsD.few hG ht k u h
    have := nodup_le n l h2 (fun x hx => (h3 x hx).1)
    omega
  · omega
/-- The search towards t, in the round d: now (of which i are done) are the vertices that are d - 1 far, next those that are known to be d far. -/
structure BSt (n : Nat) (L : List Ed) (f : List Int) (t : Nat) (O : List Int) (d : Nat) (now : List Nat) (i : Nat) (next : List Nat) : Prop where
  len : O.length = n
  val : ∀ u, u < n → O.getD u 0 = -1 ∨ (IsD L f u t (O.getD u 0) ∧ 0 ≤ O.getD u 0 ∧ O.getD u 0 ≤ d)
  all : ∀ u k, k + 1 ≤ d → Wlk L f u t k → O.getD u 0 ≠ -1
  nowI : ∀ u, u < n → (O.getD u 0 + 1 = d ↔ u ∈ now)
  nowl : ∀ u ∈ now, u < n
  nextI : ∀ u, u < n → (O.getD u 0 = d ↔ u ∈ next)
  nextl : ∀ u ∈ next, u < n
  nd : next.Nodup
  seenI : ∀ j (hj : j < now.length), j < i → ∀ u, Arc L f u now[j] → O.getD u 0 ≠ -1
theorem getD_set5 (O : List Int) (u : Nat) (x : Int) (hu : u < O.length) (v : Nat) : (O.set u x).getD v 0 = if v = u then x else O.getD v 0 := by
  simp only [List.getD_eq_getElem?_getD, List.getElem?_set]
  by_cases h : v = u
  · subst h; simp [hu]
  · rw [if_neg (fun e => h e.symm), if_neg h]
/-- A vertex is found. -/
theorem BSt.see {t : Nat} {O : List Int} {d i u : Nat} {now next : List Nat} (h : BSt n L f t O d now i next) (hd : 1 ≤ d) (hi : i < now.length) (ha : Arc L f u now[i]) (hu : u < n) (h0 : O.getD u 0 = -1) : BSt n L f t (O.set u (d : Int)) d now i (next ++ [u]) := by
  have hul : u < O.length := by rw [h.len]; exact hu
  have hx := h.nowl _ (List.getElem_mem hi)
  have hv := (h.nowI _ hx).2 (List.getElem_mem hi)
  have hdx : IsD L f now[i] t (O.getD now[i] 0) := by
    rcases h.val _ hx with h1 | h1
    · omega
    · exact h1.1
  have hdu : IsD L f u t (d : Int) := by
    rcases hdx with ⟨h1, _⟩ | ⟨k, hk, h1, _⟩
    · omega
    · refine .inr ⟨d, rfl, ?_, fun j hj hw => h.all u j (by omega) hw h0⟩
      have : d = k + 1 := by omega
      rw [this]
      exact .step ha h1
  refine ⟨by simp [h.len], fun v hv => ?_, fun v k hk hw => ?_, fun v hv => ?_, h.nowl, fun v hv => ?_, fun v hv => ?_, ?_, fun j hj hji v hav => ?_⟩
  · rw [getD_set5 O u _ hul]
    by_cases e : v = u
    · rw [if_pos e]; subst e; exact .inr ⟨hdu, by omega, Int.le_refl _⟩
    · rw [if_neg e]; exact h.val v hv
  · rw [getD_set5 O u _ hul]
    split
    · omega
    · exact h.all v k hk hw
  · rw [getD_set5 O u _ hul]
    by_cases e : v = u
    · rw [if_pos e]; subst e
      have := (h.nowI v hv)
      constructor
      · intro c; omega
      · intro c; have := this.2 c; omega
    · rw [if_neg e]; exact h.nowI v hv
  · rw [getD_set5 O u _ hul, List.mem_append, List.mem_singleton]
    by_cases e : v = u
    · rw [if_pos e]; exact ⟨fun _ => .inr e, fun _ => rfl⟩
    · rw [if_neg e]; exact ⟨fun c => .inl ((h.nextI v hv).1 c), fun c => c.elim (fun c => (h.nextI v hv).2 c) (fun c => absurd c e)⟩
  · rcases List.mem_append.1 hv with hv | hv
    · exact h.nextl v hv
    · rw [List.mem_singleton] at hv; omega
  · rw [List.nodup_append]
    refine ⟨h.nd, by simp, fun y hy b hb => ?_⟩
    rw [List.mem_singleton] at hb
    intro e
    have := (h.nextI _ hu).2 (hb ▸ e ▸ hy)
    omega
  · rw [getD_set5 O u _ hul]
    split
    · omega
    · exact h.seenI j hj hji v hav
/-- All that leads to a vertex is seen. -/
theorem BSt.seen {t : Nat} {O : List Int} {d i : Nat} {now next : List Nat} (h : BSt n L f t O d now i next) (hi : i < now.length) (ha : ∀ u, Arc L f u now[i] → O.getD u 0 ≠ -1) : BSt n L f t O d now (i + 1) next :=
  { h with
    seenI := fun j hj hji u hu => by
      rcases Nat.lt_or_ge j i with c | c
      · exact h.seenI j hj c u hu
      · have : j = i := by omega
        subst this
        exact ha u hu }
/-- The next round. -/
theorem BSt.turn {t : Nat} {O : List Int} {d : Nat} {now next : List Nat} (hG : GOk n L) (ht : t < n) (h : BSt n L f t O d now now.length next) (hd : 1 ≤ d) : BSt n L f t O (d + 1) next 0 [] := by
  refine ⟨h.len, fun u hu => ?_, fun u k hk hw => ?_, fun u hu => ?_, h.nextl, fun u hu => ?_, by simp, by simp, fun j hj hji => by omega⟩
  · rcases h.val u hu with h1 | ⟨h1, h2, h3⟩
    · exact .inl h1
    · exact .inr ⟨h1, h2, by omega⟩
  · rcases Nat.lt_or_ge k d with c | c
    · exact h.all u k (by omega) hw
    · have e : k = d := by omega
      subst e
      cases hw with
      | base => exact h.all _ 0 (by omega) (.base _)
      | @step _ x _ j ha hw =>
        have hx := (arc_lt hG ha).2
        have h1 := h.all x j (by omega) hw
        rcases h.val x hx with h2 | ⟨h2, h3, h4⟩
        · exact absurd h2 h1
        · by_cases e : O.getD x 0 + 1 = (j + 1 : Nat)
          · obtain ⟨q, hq, hqe⟩ := List.getElem_of_mem ((h.nowI x hx).1 e)
            exact h.seenI q hq hq u (by rw [hqe]; exact ha)
          · rcases h2 with ⟨h2, _⟩ | ⟨q, hq, h5, h6⟩
            · exact absurd h2 h1
            · have : q ≤ j := by
                rcases Nat.lt_or_ge j q with c | c
                · exact absurd hw (h6 j c)
                · exact c
              exact h.all u (q + 1) (by omega) (.step ha h5)
  · rw [← h.nextI u hu]; omega
  · constructor
    · intro c
      rcases h.val u hu with h1 | ⟨h1, h2, h3⟩ <;> omega
    · simp
/-- There is nothing more. -/
theorem BSt.over {t : Nat} {O : List Int} {d : Nat} (hG : GOk n L) (ht : t < n) (h : BSt n L f t O d [] 0 []) (hd : 1 ≤ d) : LevTo n L f t O := by
  refine ⟨h.len, fun u hu => ?_⟩
  rcases h.val u hu with h1 | h1
  · refine .inl ⟨h1, fun k hw => ?_⟩
    have : ∀ (k u : Nat), Wlk L f u t k → O.getD u 0 ≠ -1 := by
      intro k
      induction k with
      | zero => intro u hw; exact h.all u 0 (by omega) hw
      | succ k ih =>
        intro u hw
        cases hw with
        | @step _ x _ _ ha hw =>
          have hx := (arc_lt hG ha).2
          have h2 := ih x hw
          rcases h.val x hx with h3 | ⟨h3, h4, h5⟩
          · exact absurd h3 h2
          · have n1 : ¬ (O.getD x 0 + 1 = d) := fun c => by have := (h.nowI x hx).1 c; simp at this
            have n2 : ¬ (O.getD x 0 = d) := fun c => by have := (h.nextI x hx).1 c; simp at this
            rcases h3 with ⟨h3, _⟩ | ⟨q, hq, h6, _⟩
            · exact absurd h3 h2
            · exact h.all u (q + 1) (by omega) (.step ha h6)
    exact this k u hw h1
  · exact h1.1
/-- At first. -/
theorem BSt.start {t : Nat} (ht : t < n) : BSt n L f t ((List.replicate n (-1)).set t 0) 1 [t] 0 [] := by
  have hr : ∀ v, v < n → (List.replicate n (-1 : Int)).getD v 0 = -1 := fun v hv => by
    rw [List.getD_eq_getElem?_getD, List.getElem?_replicate, if_pos hv]; rfl
  have hg : ∀ v, v < n → ((List.replicate n (-1 : Int)).set t 0).getD v 0 = if v = t then 0 else -1 := fun v hv => by
    rw [getD_set5 _ _ _ (by simpa using ht), hr v hv]
  refine ⟨by simp, fun u hu => ?_, fun u k hk hw => ?_, fun u hu => ?_, fun u hu => ?_, fun u hu => ?_, by simp, by simp, fun j hj hji => by omega⟩
  · rw [hg u hu]
    by_cases e : u = t
    · rw [if_pos e]; subst e; exact .inr ⟨IsD.self _, by omega, by omega⟩
    · rw [if_neg e]; exact .inl rfl
  · have : k = 0 := by omega
    subst this
    cases hw
    rw [hg _ ht, if_pos rfl]; omega
  · rw [hg u hu, List.mem_singleton]
    by_cases e : u = t
    · rw [if_pos e]; simp [e]
    · rw [if_neg e]; constructor
      · intro c; simp at c
      · intro c; exact absurd c e
  · rw [List.mem_singleton] at hu; omega
  · rw [hg u hu]
    constructor
    · intro c; split at c <;> omega
    · simp
theorem BSt.dle (hG : GOk n L) {t : Nat} (ht : t < n) {O : List Int} {d i : Nat} {now next : List Nat} (h : BSt n L f t O d now i next) (hne : now ≠ []) : d ≤ n := by
  obtain ⟨x, hx⟩ := List.exists_mem_of_ne_nil _ hne
  have hl := h.nowl x hx
  have h1 := (h.nowI x hl).2 hx
  rcases h.val x hl with h2 | ⟨h2, _⟩
  · have : (0 : Int) ≤ n := by omega
    omega
  · have := h2.lt hG ht
    omega
end
end Edge
end Go.Proofs.YtjpfmkfikidgkaaGreat

set_option linter.unusedVariables false
set_option linter.unusedSimpArgs false
namespace Go.Proofs.YtjpfmkfikidgkaaGreat
open Go.RowKit
namespace Edge
/-- What the search holds: the levels, the round's number, who is next. -/
def SpL (Bo g Bd Bn n : Nat) (O : List Int) (d : Nat) (m : Nat) (a : Option Addr) (c : Nat) (next : List Nat) (R : List Part) : List Part :=
  Blk Bo [.slice (some ⟨g, 0, none⟩) n n] 51 :: Row 3 1 n (.slice (some ⟨g, 0, none⟩) n n) (i64s O) :: Blk Bd [.int .i64 d] 3 :: Blk Bn [.slice a m c] 51 :: Row 3 1 m (.slice a m c) (i64s (ints next)) :: R
theorem i64s_getD {O : List Int} {u : Nat} (hu : u < O.length) : (i64s O)[u]? = some (.int .i64 (O.getD u 0)) := by
  rw [List.getD_eq_getElem?_getD, List.getElem?_eq_getElem hu]
  exact i64s_get hu
set_option maxRecDepth 100000 in
set_option maxHeartbeats 4000000 in
theorem see_sep {W0 w : World} {Bo g Bd Bn n d u m : Nat} {O : List Int} {next : List Nat} {a : Option Addr} {c : Nat} {R : List Part} (hS : Sep W0 w (SpL Bo g Bd Bn n O d m a c next R)) (hO : O.length = n) (hu : u < n) (hm : m ≤ 4096) :
    Calls Tryz.prog 189 #[.int .i64 (u : Int), .pointer (some ⟨Bo, 0, none⟩), .pointer (some ⟨Bd, 0, none⟩), .pointer (some ⟨Bn, 0, none⟩)] w fun e w' => e = .returned (.tuple #[]) ∧
      ((0 ≤ O.getD u 0 ∧ w' = w) ∨ (O.getD u 0 < 0 ∧ ∃ a1 c1, Sep W0 w' (SpL Bo g Bd Bn n (O.set u (d : Int)) d (m + 1) a1 c1 (next ++ [u]) R))) := by
  have c0 := (hS.blkAt 0 rfl).cell 0 rfl
  have l0 := (hS.blkAt 0 rfl).lt
  have cg : w.cell? ⟨g, u, none⟩ = some (.int .i64 (O.getD u 0)) := by
    have h1 := (hS.rowAt 1 rfl).cellAt u (by omega)
    rw [i64s_getD (by omega)] at h1
    exact h1
  have fg := (hS.rowAt 1 rfl).frozenAt u
  have lg : g < w.heap.size := own_lt (hS.rowAt 1 rfl) (g := g) rfl
  have cd := (hS.blkAt 2 rfl).cell 0 rfl
  have ld := (hS.blkAt 2 rfl).lt
  have cn := (hS.blkAt 3 rfl).cell 0 rfl
  have ln := (hS.blkAt 3 rfl).lt
  have hul : (u : Int) < n := by omega
  by_cases h0 : O.getD u 0 < 0
  · have t0 : decide (O.getD u 0 < 0) = true := by simpa using h0
    have hS2 := Lib.hid (by
      have h5 := hS.rowsetAt 1 rfl u (.int .i64 d)
      rw [i64s_set] at h5
      exact h5)
    have cn2 := (hS2.out.blkAt 3 rfl).cell 0 rfl
    have hgr := Lib.hid (show ∀ (a1 : Option Addr) (c1 : Nat) (w6 : World), w6.ownsRow 0 3 1 (.slice a1 (m + 1) c1) (m + 1) (i64s (ints next) ++ [.int .i64 (u : Int)]) → Mod (Value.slice a m c).ownBlock.toList (w.setCell ⟨g, u, none⟩ (.int .i64 d)) w6 → ((Value.slice a1 (m + 1) c1).ownBlock = (Value.slice a m c).ownBlock ∨ ∃ b, (Value.slice a1 (m + 1) c1).ownBlock = some b ∧ (w.setCell ⟨g, u, none⟩ (.int .i64 d)).heap.size ≤ b) →
        Sep W0 w6 (Blk Bo [.slice (some ⟨g, 0, none⟩) n n] 51 :: Row 3 1 n (.slice (some ⟨g, 0, none⟩) n n) (i64s (O.set u (d : Int))) :: Blk Bd [.int .i64 d] 3 :: Blk Bn [.slice a m c] 51 :: Row 3 1 (m + 1) (.slice a1 (m + 1) c1) (i64s (ints (next ++ [u]))) :: R) by
      intro a1 c1 w6 h1 h2 h3
      rw [← ints_snoc] at h1
      exact hS2.out.growAt 4 rfl h1 h2 h3)
    have h0' := Lib.hid h0
    clear hS h0
    generalize O.getD u 0 = z at *
    go_enter Tryz.func189, Tryz.ntmps189
    go_wp2_with (at_builtin; refine app_own rfl (.tmp 14) (.tmp 16) 51 3 _ 1 8 rfl Tryz.underlying51 infoI5 rfl (by omega) (by omega) (.slice a m c) m 1 (i64s (ints next)) [.int .i64 (u : Int)] rfl rfl (by simp [World.setCell]) rfl (by simp [Value.oneCell']) (hS2.out.rowAt 4 rfl) (by omega) ?_; intro a1 c1 w6 ho6 hm6 hb6; have hS7 := Lib.hid (hgr.out a1 c1 w6 ho6 hm6 hb6); clear ho6 hm6 hb6; have cn7 := (hS7.out.blkAt 3 rfl).cell 0 rfl; have fn7 := (hS7.out.blkAt 3 rfl).free 0; have ln7 := (hS7.out.blkAt 3 rfl).lt)
    exact bodyPost_end (v := .tuple #[]) (by simp [results, Tryz.results189, go_sem]) rfl ⟨rfl, .inr ⟨h0'.out, a1, c1, hS7.out.setAt 3 rfl 0 (.slice a1 (m + 1) c1)⟩⟩
  · have t0 : decide (O.getD u 0 < 0) = false := by simpa using h0
    have h0' := Lib.hid (show 0 ≤ O.getD u 0 by omega)
    clear hS h0
    generalize O.getD u 0 = z at *
    go_enter Tryz.func189, Tryz.ntmps189
    go_wp2_with fail
    exact bodyPost_end (v := .tuple #[]) (by simp [results, Tryz.results189, go_sem]) rfl ⟨rfl, .inl ⟨h0'.out, rfl⟩⟩
end Edge
end Go.Proofs.YtjpfmkfikidgkaaGreat

set_option linter.unusedVariables false
set_option linter.unusedSimpArgs false
namespace Go.Proofs.YtjpfmkfikidgkaaGreat
open Go.RowKit
theorem Sep.partAt {W0 w : World} {P : Part} {L : List Part} (h : Sep W0 w L) (i : Nat) (hi : L[i]? = some P) : ∃ F, P w F := by
  obtain ⟨F, h1, _⟩ := (h.get i hi).first
  exact ⟨F, h1⟩
namespace Edge
/-- .. seen, in the search. -/
theorem see_bst {W0 w : World} {Bo g Bd Bn n d u m t i : Nat} {L : List Ed} {f O : List Int} {now next : List Nat} {a : Option Addr} {c : Nat} {R : List Part} (hS : Sep W0 w (SpL Bo g Bd Bn n O d m a c next R)) (hG : GOk n L) (hB : BSt n L f t O d now i next) (hm : next.length = m) (hd : 1 ≤ d) (hi : i < now.length) (ha : Arc L f u now[i]) :
    Calls Tryz.prog 189 #[.int .i64 (u : Int), .pointer (some ⟨Bo, 0, none⟩), .pointer (some ⟨Bd, 0, none⟩), .pointer (some ⟨Bn, 0, none⟩)] w fun e w' => e = .returned (.tuple #[]) ∧
      ∃ O' next' m' a1 c1, next'.length = m' ∧ m' ≤ n ∧ BSt n L f t O' d now i next' ∧ (∀ y, O.getD y 0 ≠ -1 → O'.getD y 0 ≠ -1) ∧ O'.getD u 0 ≠ -1 ∧ Sep W0 w' (SpL Bo g Bd Bn n O' d m' a1 c1 next' R) := by
  have hu := (arc_lt hG ha).1
  have hm1 : m ≤ n := by rw [← hm]; exact nodup_le n next hB.nd hB.nextl
  have hn4 := hG.le
  refine (see_sep hS hB.len hu (by omega)).mono ?_
  rintro e w' ⟨rfl, ⟨h0, rfl⟩ | ⟨h0, a1, c1, hS2⟩⟩
  · exact ⟨rfl, O, next, m, a, c, hm, hm1, hB, fun y h => h, by omega, hS⟩
  · have h0' : O.getD u 0 = -1 := by rcases hB.val u hu with h | h <;> omega
    have hB2 := hB.see hd hi ha hu h0'
    have hm2 : (next ++ [u]).length = m + 1 := by rw [List.length_append, hm]; rfl
    refine ⟨rfl, O.set u d, next ++ [u], m + 1, a1, c1, hm2, ?_, hB2, fun y h => ?_, ?_, hS2⟩
    · rw [← hm2]; exact nodup_le n _ hB2.nd hB2.nextl
    · rw [getD_set5 O u _ (by rw [hB.len]; exact hu)]
      split
      · omega
      · exact h
    · rw [getD_set5 O u _ (by rw [hB.len]; exact hu), if_pos rfl]; omega
set_option maxRecDepth 100000 in
set_option maxHeartbeats 8000000 in
theorem to1_bst {W0 w : World} {Bo g Bd Bn Ba Br r ba n d m t i v : Nat} {L : List Ed} {f O : List Int} {now next : List Nat} {a : Option Addr} {c : Nat} {R : List Part}
    (hS : Sep W0 w (SpL Bo g Bd Bn n O d m a c next (Blk Ba [.pointer (some ⟨ba, 0, none⟩)] 47 :: Blk Br [.pointer (some ⟨r, 0, none⟩)] 29 :: RestP r ba n L f :: ArcP ba n L :: R)))
    (hG : GOk n L) (hB : BSt n L f t O d now i next) (hm : next.length = m) (hd : 1 ≤ d) (hi : i < now.length) (hv : now[i] = v) (hvn : v < n) :
    Calls Tryz.prog 132 #[.int .i64 (v : Int), .func (.func 189) #[] #[.pointer (some ⟨Bo, 0, none⟩), .pointer (some ⟨Bd, 0, none⟩), .pointer (some ⟨Bn, 0, none⟩)], .pointer (some ⟨Ba, 0, none⟩), .pointer (some ⟨Br, 0, none⟩)] w fun e w' => e = .returned (.tuple #[]) ∧
      ∃ O' next' m' a1 c1, next'.length = m' ∧ m' ≤ n ∧ BSt n L f t O' d now (i + 1) next' ∧ Sep W0 w' (SpL Bo g Bd Bn n O' d m' a1 c1 next' (Blk Ba [.pointer (some ⟨ba, 0, none⟩)] 47 :: Blk Br [.pointer (some ⟨r, 0, none⟩)] 29 :: RestP r ba n L f :: ArcP ba n L :: R)) := by
  have hm1 : m ≤ n := by rw [← hm]; exact nodup_le n next hB.nd hB.nextl
  have hn4 := hG.le
  have ca := (hS.blkAt 5 rfl).cell 0 rfl
  have la := (hS.blkAt 5 rfl).lt
  obtain ⟨FA, hA⟩ := hS.partAt 8 rfl
  have cc := Lib.hid (show Calls Tryz.prog 75 #[.pointer (some ⟨ba, 0, none⟩), .int .i64 (v : Int)] w fun e w' => ∃ a c, e = .returned (.slice a (ofS n L v).length c) ∧ Made w w' 3 1 a (ofS n L v).length c (i64s (ints (ofS n L v))) by
    have h1 := aout_p hA hG (v : Int)
    have e : outI n L (v : Int) = ints (ofS n L v) := by unfold outI; rw [if_pos (by omega), Int.toNat_natCast]
    rw [e, ints_len] at h1
    exact h1)
  obtain ⟨K, hK⟩ : ∃ K, (ofS n L v).length = K := ⟨_, rfl⟩
  rw [hK] at cc
  have hK' := Lib.hid hK
  have hKb : K ≤ 2097152 := by
    have h5 := ofU_le L (2 * L.length) v
    have h6 := ofS_len hG v
    have h7 := hG.len
    unfold cntE at h6
    omega
  have hS' := Lib.hid hS
  have hB' := Lib.hid hB
  have hm' := Lib.hid hm
  have hG' := Lib.hid hG
  have hv' := Lib.hid hv
  have hlen : L.length ≤ 1048576 := hG.len
  clear hS hB hm hG hK hA hv
  go_enter Tryz.func132, Tryz.ntmps132
  go_wp2_with fail
  refine cc.out.mono ?_
  rintro e w2 ⟨a2, c2, rfl, hmd⟩
  have hS2 := Lib.hid (hS'.out.made hmd)
  clear hmd hS' cc ca la
  try dsimp only
  go_wp2_with fail
  go_loopw [12] (fun s12 wr => ∃ (O : List Int) (next : List Nat) (m j : Nat) (a : Option Addr) (c : Nat), Hid (BSt n L f t O d now i next) ∧ Hid (next.length = m) ∧ m ≤ n ∧ Hid (∀ x ∈ (ofS n L v).take j, 0 < leftE L f (back x) → ∀ u : Nat, headE L x = (u : Int) → O.getD u 0 ≠ -1) ∧ j ≤ K ∧ s12 = .int .i64 j ∧
    Hid (Sep W0 wr (Row 3 1 K (.slice a2 K c2) (i64s (ints (ofS n L v))) :: SpL Bo g Bd Bn n O d m a c next (Blk Ba [.pointer (some ⟨ba, 0, none⟩)] 47 :: Blk Br [.pointer (some ⟨r, 0, none⟩)] 29 :: RestP r ba n L f :: ArcP ba n L :: R)))) (fun s12 _ => K - (intOf s12).toNat)
  case atStart => exact ⟨O, next, m, 0, a, c, hB', hm', hm1, Lib.hid (by simp), by omega, rfl, hS2⟩
  case round =>
    clear hS2 hB' hm' hm1
    obtain ⟨O, next, m, j, a, c, hB, hm, hm1, hdn, hjK, rfl, hS⟩ := hrel
    by_cases hlj : j < K
    · have hlj1 : (j : Int) < K := by omega
      obtain ⟨x, hx⟩ : ∃ x, (ofS n L v)[j]? = some x := ⟨_, List.getElem?_eq_getElem (by rw [hK'.out]; exact hlj)⟩
      have hxm := (mem_ofS hG'.out (v := v)).1 (List.mem_of_getElem? hx)
      have hbk : back x < 2 * L.length := back_lt.2 hxm.1
      obtain ⟨hd1, hhd⟩ := Int.eq_ofNat_of_zero_le (head_in hG'.out hxm.1).1
      obtain ⟨ga, rfl, hga, _, hcell⟩ := row_form (hS.out.rowAt 0 rfl) (by omega)
      have cX := hcell j (.int .i64 (x : Int)) (by
        have : (ints (ofS n L v))[j]? = some (x : Int) := by unfold ints; rw [List.getElem?_map, hx]; rfl
        exact i64s_got this)
      have ca := (hS.out.blkAt 6 rfl).cell 0 rfl
      have la := (hS.out.blkAt 6 rfl).lt
      have cr := (hS.out.blkAt 7 rfl).cell 0 rfl
      have lr := (hS.out.blkAt 7 rfl).lt
      have chd := Lib.hid (show Calls Tryz.prog 39 #[.pointer (some ⟨ba, 0, none⟩), .int .i64 (x : Int)] wr fun e w' => e = .returned (.int .i64 (hd1 : Int)) ∧ w' = wr by
        obtain ⟨FA, hA⟩ := hS.out.partAt 9 rfl
        have h1 := ahead_p hA hG'.out (x : Int)
        have e : headI L (x : Int) = headE L x := by unfold headI; rw [if_neg (by omega), Int.toNat_natCast]
        rw [e, hhd] at h1
        exact h1)
      have clf := Lib.hid (show Calls Tryz.prog 40 #[.pointer (some ⟨r, 0, none⟩), .int .i64 ((back x : Nat) : Int)] wr fun e w' => e = .returned (.int .i64 (leftE L f (back x))) ∧ w' = wr by
        obtain ⟨FA, hA⟩ := hS.out.partAt 9 rfl
        obtain ⟨FR, hR⟩ := hS.out.partAt 8 rfl
        have h1 := rleft_p hR hA hG'.out ((back x : Nat) : Int)
        have e : leftI L f ((back x : Nat) : Int) = leftE L f (back x) := by unfold leftI; rw [if_pos (by omega), Int.toNat_natCast]
        rw [e] at h1
        exact h1)
      have hxb := bits_back x (by omega)
      have htk := Lib.hid (show (ofS n L v).take (j + 1) = (ofS n L v).take j ++ [x] by rw [List.take_add_one, hx]; rfl)
      have hhd' := Lib.hid hhd
      have hxm' := Lib.hid hxm
      have harc : 0 < leftE L f (back x) → Arc L f hd1 v := fun hle => ⟨back x, hbk, by rw [tail_back, hhd], by rw [head_back, hxm.2], hle⟩
      by_cases hle : 0 < leftE L f (back x)
      · have csee := Lib.hid (see_bst (hS.out.tail) hG'.out hB.out hm.out hd hi (show Arc L f hd1 now[i] by rw [hv'.out]; exact harc hle))
        have csee2 := Lib.hid (show Calls Tryz.prog 189 #[.int .i64 (hd1 : Int), .pointer (some ⟨Bo, 0, none⟩), .pointer (some ⟨Bd, 0, none⟩), .pointer (some ⟨Bn, 0, none⟩)] wr fun e w' => e = .returned (.tuple #[]) ∧
      ∃ O' next' m' a1 c1, next'.length = m' ∧ m' ≤ n ∧ BSt n L f t O' d now i next' ∧ (∀ y, O.getD y 0 ≠ -1 → O'.getD y 0 ≠ -1) ∧ O'.getD hd1 0 ≠ -1 ∧ Sep W0 w' (Row 3 1 K (.slice (some ⟨ga, 0, none⟩) K c2) (i64s (ints (ofS n L v))) :: SpL Bo g Bd Bn n O' d m' a1 c1 next' (Blk Ba [.pointer (some ⟨ba, 0, none⟩)] 47 :: Blk Br [.pointer (some ⟨r, 0, none⟩)] 29 :: RestP r ba n L f :: ArcP ba n L :: R)) by
          have h1 := see_bst (R := Blk Ba [.pointer (some ⟨ba, 0, none⟩)] 47 :: Blk Br [.pointer (some ⟨r, 0, none⟩)] 29 :: RestP r ba n L f :: ArcP ba n L :: R ++ [Row 3 1 K (.slice (some ⟨ga, 0, none⟩) K c2) (i64s (ints (ofS n L v)))]) (by have h2 := hS.out.rot; simpa [SpL] using h2) hG'.out hB.out hm.out hd hi (show Arc L f hd1 now[i] by rw [hv'.out]; exact harc hle)
          refine h1.mono ?_
          rintro e w' ⟨rfl, O', next', m', a1, c1, k1, k2, k3, k4, k5, k6⟩
          refine ⟨rfl, O', next', m', a1, c1, k1, k2, k3, k4, k5, ?_⟩
          refine k6.perm ?_
          have := List.perm_append_singleton (Row 3 1 K (.slice (some ⟨ga, 0, none⟩) K c2) (i64s (ints (ofS n L v)))) (SpL Bo g Bd Bn n O' d m' a1 c1 next' (Blk Ba [.pointer (some ⟨ba, 0, none⟩)] 47 :: Blk Br [.pointer (some ⟨r, 0, none⟩)] 29 :: RestP r ba n L f :: ArcP ba n L :: R))
          simpa [SpL] using this)
        clear csee hx hxm hhd hcell harc hS
        have hkeep := Lib.hid (show ∀ O' : List Int, (∀ y, O.getD y 0 ≠ -1 → O'.getD y 0 ≠ -1) → O'.getD hd1 0 ≠ -1 → ∀ y ∈ (ofS n L v).take (j + 1), 0 < leftE L f (back y) → ∀ u : Nat, headE L y = (u : Int) → O'.getD u 0 ≠ -1 by
          intro O' k1 k2 y hy h1 u h2
          rw [htk.out, List.mem_append, List.mem_singleton] at hy
          rcases hy with hy | rfl
          · exact k1 _ (hdn.out y hy h1 u h2)
          · rw [hhd'.out] at h2
            have : hd1 = u := by omega
            subst this
            exact k2)
        clear hdn htk hhd' hxm' hB hm
        generalize leftE L f (back x) = z at *
        generalize ((back x : Nat) : Int) = bx at *
        clear hbk
        go_wp2_with (first
          | (go_at_call 39; refine chd.out.mono ?_; rintro e w1 ⟨rfl, hw1⟩; subst w1)
          | (go_at_call 40; refine clf.out.mono ?_; rintro e w1 ⟨rfl, hw1⟩; subst w1))
        refine csee2.out.mono ?_
        rintro e w3 ⟨rfl, O', next', m', a1, c1, k1, k2, k3, k4, k5, k6⟩
        have k1' := Lib.hid k1
        have k3' := Lib.hid k3
        have k6' := Lib.hid k6
        have hk' := Lib.hid (hkeep.out O' k4 k5)
        clear k1 k3 k4 k5 k6 csee2 chd clf hkeep
        try dsimp only
        go_wp2_with fail
        go_roundw
        case rel => exact ⟨O', next', m', j + 1, a1, c1, k3', k1', k2, hk', by omega, by go_num, k6'⟩
        case measure => simp [intOf]; omega
      · have hnew := Lib.hid (show ∀ y ∈ (ofS n L v).take (j + 1), 0 < leftE L f (back y) → ∀ u : Nat, headE L y = (u : Int) → O.getD u 0 ≠ -1 by
          intro y hy h1 hd2 h2
          rw [htk.out, List.mem_append, List.mem_singleton] at hy
          rcases hy with hy | rfl
          · exact hdn.out y hy h1 hd2 h2
          · exact absurd h1 hle)
        clear hx hxm hhd hcell harc hdn
        generalize leftE L f (back x) = z at *
        generalize ((back x : Nat) : Int) = bx at *
        clear hbk
        go_wp2_with (go_at_call 40; refine clf.out.mono ?_; rintro e w1 ⟨rfl, hw1⟩; subst w1)
        go_roundw
        case rel => exact ⟨O, next, m, j + 1, a, c, hB, hm, hm1, hnew, by omega, by go_num, hS⟩
        case measure => simp [intOf]; omega
    · have hjk : j = K := by omega
      have hall : ∀ u, Arc L f u now[i] → O.getD u 0 ≠ -1 := by
        rintro u ⟨y, h1, h2, h3, h4⟩
        refine hdn.out (back y) ?_ (by rw [back_back]; exact h4) u (by rw [head_back, h2])
        rw [hjk, ← hK'.out, List.take_length, mem_ofS hG'.out]
        exact ⟨back_lt.2 h1, by rw [tail_back, h3, hv'.out]⟩
      have hB2 := Lib.hid (hB.out.seen hi hall)
      have hS9 := Lib.hid hS.out.tail
      clear hS hdn hjk hall
      go_wp2_with fail
      exact bodyPost_end (v := .tuple #[]) (by simp [results, Tryz.results132, go_sem]) rfl ⟨rfl, O, next, m, a, c, hm.out, hm1, hB2.out, hS9.out⟩
end Edge
end Go.Proofs.YtjpfmkfikidgkaaGreat

set_option linter.unusedVariables false
set_option linter.unusedSimpArgs false
namespace Go.Proofs.YtjpfmkfikidgkaaGreat
open Go.RowKit
namespace Edge
theorem leaf_wrap5 {goalP : World → Prop} {W0 Wx : World} {L : List Part} (h : Sep W0 Wx L) (hp : ∀ Wg, Sep W0 Wg L → goalP Wg) : goalP Wx := hp Wx h
theorem sep_set3 {w0 w : World} {b : Nat} {y0 y1 y2 : Value} {t : TypeId} {L : List Part} (h : Sep w0 w (Blk b [y0, y1, y2] t :: L)) (x0 x1 x2 : Value) :
    Sep w0 (((w.setCell ⟨b, 0, none⟩ x0).setCell ⟨b, 1, none⟩ x1).setCell ⟨b, 2, none⟩ x2) (Blk b [x0, x1, x2] t :: L) := ((h.set 0 x0).set 1 x1).set 2 x2
theorem swap23 {w0 w : World} {A B P Q : Part} {L : List Part} (h : Sep w0 w (A :: B :: P :: Q :: L)) : Sep w0 w (A :: B :: Q :: P :: L) := h.perm (((List.Perm.swap _ _ _).cons _).cons _)
/-- Among these objects lie the edges and the flow f. -/
def Xin (R : List Part) (L : List Ed) (f : List Int) (a : Option Addr) (c : Nat) (fa : Option Addr) (fc : Nat) : Prop := ∀ w0 w, Sep w0 w R → RX w L f a c fa fc
theorem Xin.start (L : List Ed) (f : List Int) (a fa : Option Addr) (c fc : Nat) (R : List Part) : Xin (Row 2 1 L.length (.slice fa L.length fc) (i64s f) :: Row 146 3 L.length (.slice a L.length c) (flat encEd L) :: R) L f a c fa fc := fun w0 w h => ⟨Rd.own (h.rowAt 1 rfl), Rd.own (h.rowAt 0 rfl)⟩
theorem Xin.add {R : List Part} {L : List Ed} {f : List Int} {a fa : Option Addr} {c fc : Nat} (h : Xin R L f a c fa fc) (P : Part) : Xin (P :: R) L f a c fa fc := fun w0 w hs => h w0 w hs.tail
theorem Xin.new {R : List Part} {L : List Ed} {f g : List Int} {a fa fb : Option Addr} {c fc d : Nat} (h : Xin R L f a c fa fc) : Xin (Row 2 1 L.length (.slice fb L.length d) (i64s g) :: R) L g a c fb d := fun w0 w hs => ⟨(h w0 w hs.tail).l, Rd.own (hs.rowAt 0 rfl)⟩
theorem Sep.after {w0 w : World} : ∀ {T R : List Part}, Sep w0 w (T ++ R) → Sep w0 w R
  | [], _, h => h
  | _ :: T, _, h => Sep.after (T := T) (Go.Proofs.YtjpfmkfikidgkaaGreat.Sep.tail h)
theorem xpush_sep {w0 w : World} {n c fc : Nat} {L : List Ed} {f : List Int} {a fa : Option Addr} {R : List Part} (T : List Part) (hS : Sep w0 w (T ++ R)) (hX : Xin R L f a c fa fc) (hG : GOk n L) (hF : FB L f) (i : Int) (hi : i ≤ 9223372036854775807) (x : Int) (hx : -9223372036854775808 ≤ x ∧ x ≤ 9223372036854775807) :
    Calls Tryz.prog 21 #[restV n a L.length c fa fc, .int .i64 i, .int .i64 x] w fun e w' => ∃ fa2 fc2 R2, Xin R2 L (pushI L f i x) a c fa2 fc2 ∧ Xin R2 L f a c fa fc ∧ e = .returned (.tuple #[restV n a L.length c fa2 fc2, .bool (mayP L f i x)]) ∧ Sep w0 w' (T ++ R2) := by
  refine (xpush23 (hX _ _ (Sep.after hS)) hG hF i hi x hx).mono ?_
  rintro e w' (⟨h1, rfl, hm⟩ | ⟨h1, fa2, fc2, rfl, hm⟩)
  · have e2 : pushI L f i x = f := by unfold pushI; rw [h1]; rfl
    rw [e2, h1]
    exact ⟨fa, fc, R, hX, hX, rfl, hS.still hm⟩
  · rw [h1]
    exact ⟨fa2, fc2, _, hX.new, hX.add _, rfl, (hS.made hm).perm List.perm_middle.symm⟩
theorem same_sep {w0 w : World} {r ba n c fc : Nat} {L : List Ed} {f : List Int} {a fa : Option Addr} {R : List Part} (h : Sep w0 w (RestP r ba n L f :: ArcP ba n L :: R)) (hX : RX w L f a c fa fc) (hG : GOk n L) (hF : FB L f) (v : Nat) :
    Calls Tryz.prog 19 #[.pointer (some ⟨r, 0, none⟩), restV n a L.length c fa fc, .int .i64 (v : Int)] w fun e w' => e = .returned (.bool true) ∧ Mod [] w w' := by
  obtain ⟨F, h1, _⟩ := h.first
  obtain ⟨F2, h2, _⟩ := h.tail.first
  exact same23 h1 h2 hX hG hF v
set_option maxRecDepth 100000 in
set_option maxHeartbeats 16000000 in
theorem plays23_any (n : Nat) (hn : n ≤ 255) {l : List Ed} {ops : List (Int × Int)} {vs vo : Value} {w : World} (h : Rd w 3 vs l.length (flat encEd l)) (ho : Rd w 2 vo ops.length (flat encPu ops))
    (hob : ∀ o ∈ ops, o.1 ≤ 9223372036854775807 ∧ -9223372036854775808 ≤ o.2 ∧ o.2 ≤ 9223372036854775807) :
    Calls Tryz.prog 3 #[.int .u8 n, vs, vo] w fun e w' => e = .returned (.bool true) ∧ Mod [] w w' := by
  obtain ⟨a, c, rfl⟩ := h.val
  obtain ⟨ao, co, rfl⟩ := ho.val
  have hle := h.le
  have hleo := ho.le
  have haw := Lib.hid (fun w => awake23 w)
  have hnw := Lib.hid (fun W (m : Mod [] w W) => new_net (n : Int) (h.still m))
  have ho' := Lib.hid ho
  have h' := Lib.hid h
  have hob' := Lib.hid hob
  clear h ho hob
  go_enter Tryz.func3, Tryz.ntmps3
  by_cases hbig : 40 < l.length
  · have hbig1 : (40 : Int) < l.length := by omega
    go_wp2_with fail
    refine (haw.out _).mono ?_
    rintro e w2 ⟨rfl, hm⟩
    try dsimp only
    go_wp2_with fail
    go_ret
    exact ⟨rfl, hm⟩
  have hbig1 : ¬ (40 : Int) < l.length := by omega
  by_cases hbig2 : 40 < ops.length
  · have hbig3 : (40 : Int) < ops.length := by omega
    go_wp2_with fail
    refine (haw.out _).mono ?_
    rintro e w2 ⟨rfl, hm⟩
    try dsimp only
    go_wp2_with fail
    go_ret
    exact ⟨rfl, hm⟩
  have hbig3 : ¬ (40 : Int) < ops.length := by omega
  by_cases hbig4 : 40 < n
  · have hbig5 : (40 : Int) < n := by omega
    go_wp2_with fail
    refine (haw.out _).mono ?_
    rintro e w2 ⟨rfl, hm⟩
    try dsimp only
    go_wp2_with fail
    go_ret
    exact ⟨rfl, hm⟩
  have hbig5 : ¬ (40 : Int) < n := by omega
  go_wp2_with fail
  refine (hnw.out _ (Mod.refl [] _)).mono ?_
  rintro e w2 hN
  rcases hN.out with ⟨hne, rfl, hm⟩ | ⟨he, b, rfl, hS⟩
  · have hz := newE_bad3 hne
    generalize (newE n l).1 = q at *
    generalize (newE n l).2 = q2 at *
    have hm2 := Lib.hid hm
    try dsimp only
    clear hN hne hnw hm
    have hz1 : (q == 0) = false := by simpa using hz
    have hz2 : (q != 0) = true := by simpa using hz
    clear hz
    go_wp2_with fail
    refine (haw.out _).mono ?_
    rintro e w6 ⟨rfl, hm6⟩
    try dsimp only
    go_wp2_with fail
    go_ret
    exact ⟨rfl, hm2.out.trans hm6 (by simp)⟩
  have hG := Lib.hid (new_ok he)
  rw [Int.toNat_natCast] at hG hS
  have hS1 := Lib.hid hS
  have he' := Lib.hid he
  try dsimp only
  clear hN he hS hnw
  obtain ⟨L, hL⟩ : ∃ L, merged l = L := ⟨_, rfl⟩
  rw [hL] at hG hS1
  have hL' := Lib.hid hL
  clear hL
  have hl := hG.out.len
  have hn4 := hG.out.le
  go_wp2_with fail
  refine (rnew_res hG.out (csr_net hS1.out hG.out)).mono ?_
  rintro e w3 ⟨r, ba, rfl, hA⟩
  have cR := Lib.hid (rnew_sep (n : Int) (h'.out.still hA.mod) hA)
  clear hA hS1
  try dsimp only
  go_wp2_with fail
  refine cR.out.mono ?_
  rintro e w4 ⟨m1, a1, k1, c1, q1, p1, R1, rfl, hRN, hm4, hS4⟩
  rcases hRN with ⟨hne, _⟩ | ⟨_, rfl, rfl, rfl, rfl, rfl⟩
  · exact absurd he'.out hne
  rw [hL'.out] at hS4 ⊢
  have cX := Lib.hid (xnew23 n (L := L) (a := a1) (c := c1) w4 hl)
  have hS5 := Lib.hid hS4
  clear hm4 hS4 cR
  unfold netV restV at cX
  try dsimp only
  go_wp2_with fail
  refine cX.out.mono ?_
  rintro e w5 ⟨fa, fc, rfl, hmd⟩
  have hS6 := Lib.hid (show Sep w (w5.alloc (.cells #[.int .i64 n, .slice a1 L.length c1, .slice fa L.length fc] 35)) (Blk w5.heap.size [.int .i64 n, .slice a1 L.length c1, .slice fa L.length fc] 35 :: RestP r ba n L (noF L) :: ArcP ba n L :: [Row 2 1 L.length (.slice fa L.length fc) (i64s (noF L)), Row 146 3 L.length (.slice a1 L.length c1) (flat encEd L), NetP b n L]) from
    ((hS5.out.made hmd).box [.int .i64 n, .slice a1 L.length c1, .slice fa L.length fc] 35).perm (by
      refine List.Perm.cons _ ?_
      exact (List.perm_append_comm (l₁ := [Row 2 1 L.length (.slice fa L.length fc) (i64s (noF L)), Row 146 3 L.length (.slice a1 L.length c1) (flat encEd L)]) (l₂ := [RestP r ba n L (noF L), ArcP ba n L])).append_right [NetP b n L]))
  have hX0 := Lib.hid (Xin.start L (noF L) a1 fa c1 fc [NetP b n L])
  clear hmd cX hS5
  try dsimp only
  have cB0 := (hS6.out.blkAt 0 rfl).cell 0 rfl
  have cB1 := (hS6.out.blkAt 0 rfl).cell 1 rfl
  have cB2 := (hS6.out.blkAt 0 rfl).cell 2 rfl
  have cBl := (hS6.out.blkAt 0 rfl).lt
  have cs := Lib.hid (same_sep hS6.out.tail (hX0.out _ _ hS6.out.tail.tail.tail) hG.out (fb_new hG.out) 0)
  unfold restV at cs
  rw [show ((0 : Nat) : Int) = 0 from rfl] at cs
  go_upto_region 7 with fail
  generalize w5.alloc (.cells #[.int .i64 n, .slice a1 L.length c1, .slice fa L.length fc] 35) = W5 at *
  generalize w5.heap.size = Bx at *
  go_wp2_with fail
  refine cs.out.mono ?_
  rintro e w6 ⟨rfl, hm6⟩
  have hrs := Lib.hid (fun k (hk : k < ops.length) => runF_step L hk)
  have hro := Lib.hid (runF_ok hG.out ops)
  have hS7 := Lib.hid (show Sep w w6 (Blk Bx [.int .i64 n, .slice a1 L.length c1, .slice fa L.length fc] 35 :: RestP r ba n L (runF L ops 0) :: ArcP ba n L :: [Row 2 1 L.length (.slice fa L.length fc) (i64s (noF L)), Row 146 3 L.length (.slice a1 L.length c1) (flat encEd L), NetP b n L]) from hS6.out.still hm6)
  have hX7 : Hid (Xin [Row 2 1 L.length (.slice fa L.length fc) (i64s (noF L)), Row 146 3 L.length (.slice a1 L.length c1) (flat encEd L), NetP b n L] L (runF L ops 0) a1 c1 fa fc) := hX0
  clear hm6 cs hS6 cB0 cB1 cB2 cBl hX0
  try dsimp only
  go_wp2_with fail
  generalize [Row 2 1 L.length (.slice fa L.length fc) (i64s (noF L)), Row 146 3 L.length (.slice a1 L.length c1) (flat encEd L), NetP b n L] = R0 at *
  go_loopw [12] (fun s12 wr => ∃ (k : Nat) (fa : Option Addr) (fc : Nat) (R : List Part), k ≤ ops.length ∧ s12 = .int .i64 k ∧ Hid (Xin R L (runF L ops k) a1 c1 fa fc) ∧ Hid (Sep w wr (Blk Bx [.int .i64 n, .slice a1 L.length c1, .slice fa L.length fc] 35 :: RestP r ba n L (runF L ops k) :: ArcP ba n L :: R))) (fun s12 _ => ops.length - (intOf s12).toNat)
  case atStart => exact ⟨0, fa, fc, R0, Nat.zero_le _, rfl, hX7, hS7⟩
  case round =>
    clear hS7 hX7
    obtain ⟨k, fa, fc, R, hk, rfl, hX, hS⟩ := hrel
    by_cases hlt : k < ops.length
    · have hlt1 : (k : Int) < ops.length := by omega
      obtain ⟨g, o, rfl, hgl0, hcell⟩ := pu_cells ho'.out hlt
      have hcell' := Lib.hid hcell
      have hst := Lib.hid (hrs.out k hlt)
      have hF := Lib.hid (hro.out k)
      have hF2 := Lib.hid (hro.out (k + 1))
      obtain ⟨hb1, hb2⟩ := hob'.out _ (List.getElem_mem hlt)
      have hX' := Lib.hid hX.out
      generalize ops[k] = op at *
      obtain ⟨oi, ox⟩ := op
      simp only at hst hb1 hb2 hcell'
      generalize runF L ops k = f at *
      generalize hf2 : runF L ops (k + 1) = f2 at *
      have hf2' := Lib.hid hf2
      clear hf2 hcell
      have hSd := Lib.hid (hS.out.still (Mod.refl [] wr).drew)
      have hbx := fun W0 W (h : Has W Bx [.int .i64 n, .slice a1 L.length c1, .slice fa L.length fc] 35) => show (KC [(⟨Bx, 0, none⟩, .int .i64 n), (⟨Bx, 1, none⟩, .slice a1 L.length c1), (⟨Bx, 2, none⟩, .slice fa L.length fc)]) W0 W from fun p hp _ => by
        simp only [List.mem_cons, List.mem_nil_iff, or_false] at hp
        rcases hp with rfl | rfl | rfl
        · exact h.cell 0 rfl
        · exact h.cell 1 rfl
        · exact h.cell 2 rfl
      have hbx' := Lib.hid hbx
      have k0 := KC.one (w := wr.drew) (L := [(⟨Bx, 0, none⟩, .int .i64 n), (⟨Bx, 1, none⟩, .slice a1 L.length c1), (⟨Bx, 2, none⟩, .slice fa L.length fc)]) ((hSd.out.blkAt 0 rfl).cell 0 rfl) (by simp)
      have k1 := KC.one (w := wr.drew) (L := [(⟨Bx, 0, none⟩, .int .i64 n), (⟨Bx, 1, none⟩, .slice a1 L.length c1), (⟨Bx, 2, none⟩, .slice fa L.length fc)]) ((hSd.out.blkAt 0 rfl).cell 1 rfl) (by simp)
      have k2 := KC.one (w := wr.drew) (L := [(⟨Bx, 0, none⟩, .int .i64 n), (⟨Bx, 1, none⟩, .slice a1 L.length c1), (⟨Bx, 2, none⟩, .slice fa L.length fc)]) ((hSd.out.blkAt 0 rfl).cell 2 rfl) (by simp)
      clear hbx hS hX
      go_upto_region 12 with fail
      go_cut [13, 14] (fun s13 s14 wc => ∃ (r2 B2 : Nat), s13 = .pointer (some ⟨r2, 0, none⟩) ∧ s14 = .pointer (some ⟨B2, 0, none⟩) ∧ Hid (Sep w wc (Blk B2 [.int .i64 n, .slice a1 L.length c1, .slice fa L.length fc] 35 :: RestP r2 ba n L f :: Blk Bx [.int .i64 n, .slice a1 L.length c1, .slice fa L.length fc] 35 :: RestP r ba n L f :: ArcP ba n L :: R)))
      case first =>
        refine region_head (G := (KC [(⟨Bx, 0, none⟩, .int .i64 n), (⟨Bx, 1, none⟩, .slice a1 L.length c1), (⟨Bx, 2, none⟩, .slice fa L.length fc)])) [0, 2] #[true, false, true, false, false, false] 4 (by kernel_rfl) (by kernel_rfl) (by kernel_rfl) rfl (KC.refl _) ?_
        simp only [pickO, nthO, List.cons_append, List.nil_append]
        repeat (go_big_quiet_step (fail))
        refine wpQuiet_nil ?_
        clear k0 k1 k2
        refine tail_two 1 3 (by kernel_rfl) rfl rfl ?_ ?_
        · intro K hK
          rw [if_pos (by rfl)]
          go_simp
          refine (rtwin_sep hG.out (hSd.out.get 1 rfl)).mono ?_
          rintro e w7 ⟨r2, rfl, hS7⟩
          have hS7' := Lib.hid hS7
          try dsimp only
          refine hK.out _ _ (hbx'.out _ _ (hS7.blkAt 2 rfl)) ?_
          clear hK K hS7
          refine tail_one 3 (by kernel_rfl) rfl ?_
          intro K hK
          rw [if_pos (by rfl)]
          go_simp
          have hS8 := Lib.hid (hS7'.out.box [.int .i64 0, .slice none 0 0, .slice none 0 0] 35)
          refine hK.out _ _ (hbx'.out _ _ (hS8.out.blkAt 3 rfl)) ?_
          clear hK K hS7'
          refine tail_seg [4] #[true, true, true, true, true, false] 1 (by kernel_rfl) (by kernel_rfl) rfl (KC.refl _) (KC.trans _) (hbx'.out _ _ (hS8.out.blkAt 3 rfl)) ?_
          simp only [pickO, nthO, List.cons_append, List.nil_append]
          repeat (go_big_quiet_step (fail))
          refine wpQuiet_nil ?_
          refine leaf_wrap5 (goalP := fun W => wpAnyH _ _ _ _ _ _ _ _ W) hS8.out ?_
          intro Wg hSg
          clear hS8
          have hb := hSg.blk
          have z0 := hb.cell 0 rfl
          have z1 := hb.cell 1 rfl
          have z2 := hb.cell 2 rfl
          have zf := hb.free
          have zl := hb.lt
          have hSh := Lib.hid (sep_set3 hSg (.int .i64 n) (.slice a1 L.length c1) (.slice fa L.length fc))
          clear hb hSg
          refine tail_one 5 (by kernel_rfl) rfl ?_
          intro K hK
          rw [if_pos (by rfl)]
          go_simp
          refine hK.out _ _ (hbx'.out _ _ (hSh.out.blkAt 3 rfl)) ?_
          clear hK K z0 z1 z2 zf zl
          refine leaf_wrap5 (goalP := fun W => wpAnyH _ _ _ _ _ _ _ _ W) hSh.out ?_
          intro Wg2 hSg2
          clear hSh
          refine tail_done (by kernel_rfl) ?_
          go_wp2_with fail
          go_meet
          exact ⟨r2, w7.heap.size, rfl, rfl, Lib.hid (swap23 hSg2)⟩
        · intro K hK
          rw [if_pos (by rfl)]
          go_simp
          have hS8 := Lib.hid (hSd.out.box [.int .i64 0, .slice none 0 0, .slice none 0 0] 35)
          rw [show wr.drew.heap.size = wr.heap.size from rfl] at hS8
          refine hK.out _ _ (hbx'.out _ _ (hS8.out.blkAt 1 rfl)) ?_
          clear hK K
          refine leaf_wrap5 (goalP := fun W => wpAnyH _ _ _ _ _ _ _ _ W) hS8.out ?_
          intro Wg hSg
          clear hS8
          refine tail_one 1 (by kernel_rfl) rfl ?_
          intro K hK
          rw [if_pos (by rfl)]
          go_simp
          refine (rtwin_sep hG.out (hSg.get 2 rfl)).mono ?_
          rintro e w7 ⟨r2, rfl, hS7⟩
          have hS7' := Lib.hid (hS7.get 2 rfl)
          clear hSg
          try dsimp only
          refine hK.out _ _ (hbx'.out _ _ (hS7.blkAt 3 rfl)) ?_
          clear hK K hS7
          refine tail_seg [4] #[true, true, true, true, true, false] 1 (by kernel_rfl) (by kernel_rfl) rfl (KC.refl _) (KC.trans _) (hbx'.out _ _ (hS7'.out.blkAt 3 rfl)) ?_
          simp only [pickO, nthO, List.cons_append, List.nil_append]
          repeat (go_big_quiet_step (fail))
          refine wpQuiet_nil ?_
          refine leaf_wrap5 (goalP := fun W => wpAnyH _ _ _ _ _ _ _ _ W) hS7'.out ?_
          intro Wg hSg
          clear hS7'
          have hb := hSg.blk
          have z0 := hb.cell 0 rfl
          have z1 := hb.cell 1 rfl
          have z2 := hb.cell 2 rfl
          have zf := hb.free
          have zl := hb.lt
          have hSh := Lib.hid (sep_set3 hSg (.int .i64 n) (.slice a1 L.length c1) (.slice fa L.length fc))
          clear hb hSg
          refine tail_one 5 (by kernel_rfl) rfl ?_
          intro K hK
          rw [if_pos (by rfl)]
          go_simp
          refine hK.out _ _ (hbx'.out _ _ (hSh.out.blkAt 3 rfl)) ?_
          clear hK K z0 z1 z2 zf zl
          refine leaf_wrap5 (goalP := fun W => wpAnyH _ _ _ _ _ _ _ _ W) hSh.out ?_
          intro Wg2 hSg2
          clear hSh
          refine tail_done (by kernel_rfl) ?_
          go_wp2_with fail
          go_meet
          exact ⟨r2, wr.heap.size, rfl, rfl, Lib.hid (swap23 hSg2)⟩
      case rest =>
        clear hbx' k0 k1 k2 hSd
        obtain ⟨r2, B2, rfl, rfl, hS2⟩ := hcut
        have hSd := Lib.hid (hS2.out.still (Mod.refl [] wc).drew)
        have hbx := fun W0 W (h : Has W Bx [.int .i64 n, .slice a1 L.length c1, .slice fa L.length fc] 35) (hM : Mod [] w W) => show KC [(⟨Bx, 0, none⟩, .int .i64 n), (⟨Bx, 1, none⟩, .slice a1 L.length c1), (⟨Bx, 2, none⟩, .slice fa L.length fc), (⟨g, o + k * 2, none⟩, .int .i64 oi), (⟨g, o + k * 2 + 1, none⟩, .int .i64 ox)] W0 W from fun p hp _ => by
          simp only [List.mem_cons, List.mem_nil_iff, or_false] at hp
          rcases hp with rfl | rfl | rfl | rfl | rfl
          · exact h.cell 0 rfl
          · exact h.cell 1 rfl
          · exact h.cell 2 rfl
          · exact (hcell'.out _ hM).1
          · exact (hcell'.out _ hM).2
        have hbx' := Lib.hid hbx
        have k0 := KC.one (w := wc.drew) (L := [(⟨Bx, 0, none⟩, .int .i64 n), (⟨Bx, 1, none⟩, .slice a1 L.length c1), (⟨Bx, 2, none⟩, .slice fa L.length fc), (⟨g, o + k * 2, none⟩, .int .i64 oi), (⟨g, o + k * 2 + 1, none⟩, .int .i64 ox)]) ((hSd.out.blkAt 2 rfl).cell 0 rfl) (by simp)
        have k1 := KC.one (w := wc.drew) (L := [(⟨Bx, 0, none⟩, .int .i64 n), (⟨Bx, 1, none⟩, .slice a1 L.length c1), (⟨Bx, 2, none⟩, .slice fa L.length fc), (⟨g, o + k * 2, none⟩, .int .i64 oi), (⟨g, o + k * 2 + 1, none⟩, .int .i64 ox)]) ((hSd.out.blkAt 2 rfl).cell 1 rfl) (by simp)
        have k2 := KC.one (w := wc.drew) (L := [(⟨Bx, 0, none⟩, .int .i64 n), (⟨Bx, 1, none⟩, .slice a1 L.length c1), (⟨Bx, 2, none⟩, .slice fa L.length fc), (⟨g, o + k * 2, none⟩, .int .i64 oi), (⟨g, o + k * 2 + 1, none⟩, .int .i64 ox)]) ((hSd.out.blkAt 2 rfl).cell 2 rfl) (by simp)
        have k3 := KC.one (w := wc.drew) (L := [(⟨Bx, 0, none⟩, .int .i64 n), (⟨Bx, 1, none⟩, .slice a1 L.length c1), (⟨Bx, 2, none⟩, .slice fa L.length fc), (⟨g, o + k * 2, none⟩, .int .i64 oi), (⟨g, o + k * 2 + 1, none⟩, .int .i64 ox)]) ((hcell'.out _ hSd.out.mod).1) (by simp)
        have k4 := KC.one (w := wc.drew) (L := [(⟨Bx, 0, none⟩, .int .i64 n), (⟨Bx, 1, none⟩, .slice a1 L.length c1), (⟨Bx, 2, none⟩, .slice fa L.length fc), (⟨g, o + k * 2, none⟩, .int .i64 oi), (⟨g, o + k * 2 + 1, none⟩, .int .i64 ox)]) ((hcell'.out _ hSd.out.mod).2) (by simp)
        clear hbx hS2
        have hgl : g < wc.heap.size := Nat.lt_of_lt_of_le hgl0 hSd.out.mod.size
        go_upto_region 13 with fail
        go_cut [15, 16] (fun s15 s16 wc => ∃ (B15 : Nat) (fa2 : Option Addr) (fc2 : Nat) (R2 : List Part), s15 = .pointer (some ⟨B15, 0, none⟩) ∧ s16 = .bool (mayP L f oi ox) ∧ Hid (Xin R2 L f2 a1 c1 fa2 fc2) ∧ Hid (Xin R2 L f a1 c1 fa fc) ∧ Hid (Sep w wc (Blk B15 [.int .i64 n, .slice a1 L.length c1, .slice fa2 L.length fc2] 35 :: Blk B2 [.int .i64 n, .slice a1 L.length c1, .slice fa L.length fc] 35 :: RestP r2 ba n L f :: Blk Bx [.int .i64 n, .slice a1 L.length c1, .slice fa L.length fc] 35 :: RestP r ba n L f :: ArcP ba n L :: R2)))
        case first =>
          refine region_head (G := KC [(⟨Bx, 0, none⟩, .int .i64 n), (⟨Bx, 1, none⟩, .slice a1 L.length c1), (⟨Bx, 2, none⟩, .slice fa L.length fc), (⟨g, o + k * 2, none⟩, .int .i64 oi), (⟨g, o + k * 2 + 1, none⟩, .int .i64 ox)]) [0, 1, 2, 3, 4, 5, 6, 7, 8, 9, 10] #[true, true, true, true, true, true, true, true, true, true, true, false, false, false, false, false, false, false] 7 (by kernel_rfl) (by kernel_rfl) (by kernel_rfl) rfl (KC.refl _) ?_
          simp only [pickO, nthO, List.cons_append, List.nil_append]
          repeat (go_big_quiet_step (fail))
          refine wpQuiet_nil ?_
          clear k0 k1 k2 k3 k4
          refine tail_two 11 15 (by kernel_rfl) rfl rfl ?_ ?_
          · skip
            intro K hK
            rw [if_pos (by rfl)]
            go_simp
            have cp := xpush_sep (n := n) ([Blk B2 [.int .i64 n, .slice a1 L.length c1, .slice fa L.length fc] 35, RestP r2 ba n L f, Blk Bx [.int .i64 n, .slice a1 L.length c1, .slice fa L.length fc] 35, RestP r ba n L f, ArcP ba n L]) (by exact hSd.out) hX'.out hG.out hF.out oi hb1 ox hb2
            rw [← hst.out] at cp
            unfold restV at cp
            refine cp.mono ?_
            rintro e w7 ⟨fa2, fc2, R2, hXa, hXb, rfl, hS7⟩
            have hS7' := Lib.hid hS7
            have hXa' := Lib.hid hXa
            have hXb' := Lib.hid hXb
            clear hXa hXb cp
            try dsimp only
            refine hK.out _ _ (hbx'.out _ _ (hS7.blkAt 2 rfl) hS7.mod) ?_
            clear hK K hS7
            refine tail_seg [12, 13, 14] #[true, true, true, true, true, true, true, true, true, true, true, true, true, true, true, false, false, false] 3 (by kernel_rfl) (by kernel_rfl) rfl (KC.refl _) (KC.trans _) (hbx'.out _ _ (hS7'.out.blkAt 2 rfl) hS7'.out.mod) ?_
            simp only [pickO, nthO, List.cons_append, List.nil_append]
            repeat (go_big_quiet_step (fail))
            refine wpQuiet_nil ?_
            refine tail_one 15 (by kernel_rfl) rfl ?_
            intro K hK
            rw [if_pos (by rfl)]
            go_simp
            have hS8 := Lib.hid (hS7'.out.box [.int .i64 0, .slice none 0 0, .slice none 0 0] 35)
            refine hK.out _ _ (hbx'.out _ _ (hS8.out.blkAt 3 rfl) hS8.out.mod) ?_
            clear hK K hS7'
            refine leaf_wrap5 (goalP := fun W => wpAnyH _ _ _ _ _ _ _ _ W) hS8.out ?_
            intro Wg hSg
            clear hS8
            have hb := hSg.blk
            have z0 := hb.cell 0 rfl
            have z1 := hb.cell 1 rfl
            have z2 := hb.cell 2 rfl
            have zf := hb.free
            have zl := hb.lt
            have hSh := Lib.hid (sep_set3 hSg (.int .i64 n) (.slice a1 L.length c1) (.slice fa2 L.length fc2))
            clear hb hSg
            refine tail_one 16 (by kernel_rfl) rfl ?_
            intro K hK
            rw [if_pos (by rfl)]
            go_simp
            refine hK.out _ _ (hbx'.out _ _ (hSh.out.blkAt 3 rfl) hSh.out.mod) ?_
            clear hK K z0 z1 z2 zf zl
            refine leaf_wrap5 (goalP := fun W => wpAnyH _ _ _ _ _ _ _ _ W) hSh.out ?_
            intro Wg2 hSg2
            clear hSh
            refine tail_seg [17] #[true, true, true, true, true, true, true, true, true, true, true, true, true, true, true, true, true, true] 0 (by kernel_rfl) (by kernel_rfl) rfl (KC.refl _) (KC.trans _) (hbx'.out _ _ (hSg2.blkAt 3 rfl) hSg2.mod) ?_
            simp only [pickO, nthO, List.cons_append, List.nil_append]
            repeat (go_big_quiet_step (fail))
            refine wpQuiet_nil ?_
            refine tail_done (by kernel_rfl) ?_
            go_wp2_with fail
            go_meet
            exact ⟨w7.heap.size, fa2, fc2, R2, rfl, rfl, hXa', hXb', Lib.hid (hSg2)⟩
          · intro K hK
            rw [if_pos (by rfl)]
            go_simp
            have hS8 := Lib.hid (hSd.out.box [.int .i64 0, .slice none 0 0, .slice none 0 0] 35)
            rw [show wc.drew.heap.size = wc.heap.size from rfl] at hS8
            refine hK.out _ _ (hbx'.out _ _ (hS8.out.blkAt 3 rfl) hS8.out.mod) ?_
            clear hK K
            refine leaf_wrap5 (goalP := fun W => wpAnyH _ _ _ _ _ _ _ _ W) hS8.out ?_
            intro Wg hSg
            clear hS8
            refine tail_one 11 (by kernel_rfl) rfl ?_
            intro K hK
            rw [if_pos (by rfl)]
            go_simp
            have cp := xpush_sep (n := n) (Blk wc.heap.size [.int .i64 0, .slice none 0 0, .slice none 0 0] 35 :: [Blk B2 [.int .i64 n, .slice a1 L.length c1, .slice fa L.length fc] 35, RestP r2 ba n L f, Blk Bx [.int .i64 n, .slice a1 L.length c1, .slice fa L.length fc] 35, RestP r ba n L f, ArcP ba n L]) (by exact hSg) hX'.out hG.out hF.out oi hb1 ox hb2
            rw [← hst.out] at cp
            unfold restV at cp
            refine cp.mono ?_
            rintro e w7 ⟨fa2, fc2, R2, hXa, hXb, rfl, hS7⟩
            have hS7' := Lib.hid hS7
            have hXa' := Lib.hid hXa
            have hXb' := Lib.hid hXb
            clear hXa hXb cp
            try dsimp only
            refine hK.out _ _ (hbx'.out _ _ (hS7.blkAt 3 rfl) hS7.mod) ?_
            clear hK K hS7
            clear hSg
            refine tail_seg [12, 13, 14] #[true, true, true, true, true, true, true, true, true, true, true, true, true, true, true, true, false, false] 2 (by kernel_rfl) (by kernel_rfl) rfl (KC.refl _) (KC.trans _) (hbx'.out _ _ (hS7'.out.blkAt 3 rfl) hS7'.out.mod) ?_
            simp only [pickO, nthO, List.cons_append, List.nil_append]
            repeat (go_big_quiet_step (fail))
            refine wpQuiet_nil ?_
            refine leaf_wrap5 (goalP := fun W => wpAnyH _ _ _ _ _ _ _ _ W) hS7'.out ?_
            intro Wg hSg
            clear hS7'
            have hb := hSg.blk
            have z0 := hb.cell 0 rfl
            have z1 := hb.cell 1 rfl
            have z2 := hb.cell 2 rfl
            have zf := hb.free
            have zl := hb.lt
            have hSh := Lib.hid (sep_set3 hSg (.int .i64 n) (.slice a1 L.length c1) (.slice fa2 L.length fc2))
            clear hb hSg
            refine tail_one 16 (by kernel_rfl) rfl ?_
            intro K hK
            rw [if_pos (by rfl)]
            go_simp
            refine hK.out _ _ (hbx'.out _ _ (hSh.out.blkAt 3 rfl) hSh.out.mod) ?_
            clear hK K z0 z1 z2 zf zl
            refine leaf_wrap5 (goalP := fun W => wpAnyH _ _ _ _ _ _ _ _ W) hSh.out ?_
            intro Wg2 hSg2
            clear hSh
            refine tail_seg [17] #[true, true, true, true, true, true, true, true, true, true, true, true, true, true, true, true, true, true] 0 (by kernel_rfl) (by kernel_rfl) rfl (KC.refl _) (KC.trans _) (hbx'.out _ _ (hSg2.blkAt 3 rfl) hSg2.mod) ?_
            simp only [pickO, nthO, List.cons_append, List.nil_append]
            repeat (go_big_quiet_step (fail))
            refine wpQuiet_nil ?_
            refine tail_done (by kernel_rfl) ?_
            go_wp2_with fail
            go_meet
            exact ⟨wc.heap.size, fa2, fc2, R2, rfl, rfl, hXa', hXb', Lib.hid (hSg2)⟩
        case rest =>
          clear hbx' k0 k1 k2 k3 k4 hSd
          obtain ⟨B15, fa2, fc2, R2, rfl, rfl, hXa, hXb, hS3⟩ := hcut
          have y0 := (hS3.out.blkAt 0 rfl).cell 0 rfl
          have y1 := (hS3.out.blkAt 0 rfl).cell 1 rfl
          have y2 := (hS3.out.blkAt 0 rfl).cell 2 rfl
          have x0 := (hS3.out.blkAt 3 rfl).cell 0 rfl
          have x1 := (hS3.out.blkAt 3 rfl).cell 1 rfl
          have x2 := (hS3.out.blkAt 3 rfl).cell 2 rfl
          have xl := (hS3.out.blkAt 3 rfl).lt
          have xf := (hS3.out.blkAt 3 rfl).free
          have hS4 := Lib.hid (((hS3.out.setAt 3 rfl 0 (.int .i64 n)).setAt 3 rfl 1 (.slice a1 L.length c1)).setAt 3 rfl 2 (.slice fa2 L.length fc2))
          clear hS3
          go_upto_region 15 with fail
          clear y0 y1 y2 x0 x1 x2 xl xf
          generalize ((wc.setCell ⟨Bx, 0, none⟩ (.int .i64 n)).setCell ⟨Bx, 1, none⟩ (.slice a1 L.length c1)).setCell ⟨Bx, 2, none⟩ (.slice fa2 L.length fc2) = wd at *
          have hS5 := Lib.hid (show Sep w wd.drew (Blk B15 [.int .i64 n, .slice a1 L.length c1, .slice fa2 L.length fc2] 35 :: Blk B2 [.int .i64 n, .slice a1 L.length c1, .slice fa L.length fc] 35 :: RestP r2 ba n L f :: Blk Bx [.int .i64 n, .slice a1 L.length c1, .slice fa2 L.length fc2] 35 :: RestP r ba n L f :: ArcP ba n L :: R2) from hS4.out.still (Mod.refl [] wd).drew)
          clear hS4
          have hbx' := Lib.hid (fun W0 W (hx : Has W Bx [.int .i64 n, .slice a1 L.length c1, .slice fa2 L.length fc2] 35) (hb : Has W B2 [.int .i64 n, .slice a1 L.length c1, .slice fa L.length fc] 35) (hM : Mod [] w W) => show KC [(⟨Bx, 0, none⟩, .int .i64 n), (⟨Bx, 1, none⟩, .slice a1 L.length c1), (⟨Bx, 2, none⟩, .slice fa2 L.length fc2), (⟨B2, 0, none⟩, .int .i64 n), (⟨B2, 1, none⟩, .slice a1 L.length c1), (⟨B2, 2, none⟩, .slice fa L.length fc), (⟨g, o + k * 2, none⟩, .int .i64 oi), (⟨g, o + k * 2 + 1, none⟩, .int .i64 ox)] W0 W from fun p hp _ => by
            simp only [List.mem_cons, List.mem_nil_iff, or_false] at hp
            rcases hp with rfl | rfl | rfl | rfl | rfl | rfl | rfl | rfl
            · exact hx.cell 0 rfl
            · exact hx.cell 1 rfl
            · exact hx.cell 2 rfl
            · exact hb.cell 0 rfl
            · exact hb.cell 1 rfl
            · exact hb.cell 2 rfl
            · exact (hcell'.out _ hM).1
            · exact (hcell'.out _ hM).2)
          have k0 := KC.one (w := wd.drew) (L := [(⟨Bx, 0, none⟩, .int .i64 n), (⟨Bx, 1, none⟩, .slice a1 L.length c1), (⟨Bx, 2, none⟩, .slice fa2 L.length fc2), (⟨B2, 0, none⟩, .int .i64 n), (⟨B2, 1, none⟩, .slice a1 L.length c1), (⟨B2, 2, none⟩, .slice fa L.length fc), (⟨g, o + k * 2, none⟩, .int .i64 oi), (⟨g, o + k * 2 + 1, none⟩, .int .i64 ox)]) ((hS5.out.blkAt 3 rfl).cell 0 rfl) (by simp)
          have k1 := KC.one (w := wd.drew) (L := [(⟨Bx, 0, none⟩, .int .i64 n), (⟨Bx, 1, none⟩, .slice a1 L.length c1), (⟨Bx, 2, none⟩, .slice fa2 L.length fc2), (⟨B2, 0, none⟩, .int .i64 n), (⟨B2, 1, none⟩, .slice a1 L.length c1), (⟨B2, 2, none⟩, .slice fa L.length fc), (⟨g, o + k * 2, none⟩, .int .i64 oi), (⟨g, o + k * 2 + 1, none⟩, .int .i64 ox)]) ((hS5.out.blkAt 3 rfl).cell 1 rfl) (by simp)
          have k2 := KC.one (w := wd.drew) (L := [(⟨Bx, 0, none⟩, .int .i64 n), (⟨Bx, 1, none⟩, .slice a1 L.length c1), (⟨Bx, 2, none⟩, .slice fa2 L.length fc2), (⟨B2, 0, none⟩, .int .i64 n), (⟨B2, 1, none⟩, .slice a1 L.length c1), (⟨B2, 2, none⟩, .slice fa L.length fc), (⟨g, o + k * 2, none⟩, .int .i64 oi), (⟨g, o + k * 2 + 1, none⟩, .int .i64 ox)]) ((hS5.out.blkAt 3 rfl).cell 2 rfl) (by simp)
          have k3 := KC.one (w := wd.drew) (L := [(⟨Bx, 0, none⟩, .int .i64 n), (⟨Bx, 1, none⟩, .slice a1 L.length c1), (⟨Bx, 2, none⟩, .slice fa2 L.length fc2), (⟨B2, 0, none⟩, .int .i64 n), (⟨B2, 1, none⟩, .slice a1 L.length c1), (⟨B2, 2, none⟩, .slice fa L.length fc), (⟨g, o + k * 2, none⟩, .int .i64 oi), (⟨g, o + k * 2 + 1, none⟩, .int .i64 ox)]) ((hS5.out.blkAt 1 rfl).cell 0 rfl) (by simp)
          have k4 := KC.one (w := wd.drew) (L := [(⟨Bx, 0, none⟩, .int .i64 n), (⟨Bx, 1, none⟩, .slice a1 L.length c1), (⟨Bx, 2, none⟩, .slice fa2 L.length fc2), (⟨B2, 0, none⟩, .int .i64 n), (⟨B2, 1, none⟩, .slice a1 L.length c1), (⟨B2, 2, none⟩, .slice fa L.length fc), (⟨g, o + k * 2, none⟩, .int .i64 oi), (⟨g, o + k * 2 + 1, none⟩, .int .i64 ox)]) ((hS5.out.blkAt 1 rfl).cell 1 rfl) (by simp)
          have k5 := KC.one (w := wd.drew) (L := [(⟨Bx, 0, none⟩, .int .i64 n), (⟨Bx, 1, none⟩, .slice a1 L.length c1), (⟨Bx, 2, none⟩, .slice fa2 L.length fc2), (⟨B2, 0, none⟩, .int .i64 n), (⟨B2, 1, none⟩, .slice a1 L.length c1), (⟨B2, 2, none⟩, .slice fa L.length fc), (⟨g, o + k * 2, none⟩, .int .i64 oi), (⟨g, o + k * 2 + 1, none⟩, .int .i64 ox)]) ((hS5.out.blkAt 1 rfl).cell 2 rfl) (by simp)
          have k6 := KC.one (w := wd.drew) (L := [(⟨Bx, 0, none⟩, .int .i64 n), (⟨Bx, 1, none⟩, .slice a1 L.length c1), (⟨Bx, 2, none⟩, .slice fa2 L.length fc2), (⟨B2, 0, none⟩, .int .i64 n), (⟨B2, 1, none⟩, .slice a1 L.length c1), (⟨B2, 2, none⟩, .slice fa L.length fc), (⟨g, o + k * 2, none⟩, .int .i64 oi), (⟨g, o + k * 2 + 1, none⟩, .int .i64 ox)]) ((hcell'.out _ hS5.out.mod).1) (by simp)
          have k7 := KC.one (w := wd.drew) (L := [(⟨Bx, 0, none⟩, .int .i64 n), (⟨Bx, 1, none⟩, .slice a1 L.length c1), (⟨Bx, 2, none⟩, .slice fa2 L.length fc2), (⟨B2, 0, none⟩, .int .i64 n), (⟨B2, 1, none⟩, .slice a1 L.length c1), (⟨B2, 2, none⟩, .slice fa L.length fc), (⟨g, o + k * 2, none⟩, .int .i64 oi), (⟨g, o + k * 2 + 1, none⟩, .int .i64 ox)]) ((hcell'.out _ hS5.out.mod).2) (by simp)
          have hgl : g < wd.heap.size := Nat.lt_of_lt_of_le hgl0 hS5.out.mod.size
          have cp := Lib.hid (rpush_sep (by exact (hS5.out.get 5 rfl).get 5 rfl) hG.out hF.out oi ox)
          rw [← hst.out] at cp
          have hmb : (mayP L f oi ox != mayP L f oi ox) = false := by simp
          generalize mayP L f oi ox = mb at *
          obtain ⟨M, hM⟩ : ∃ M : Nat, max 1 n = M := ⟨_, rfl⟩
          have hM' := Lib.hid hM
          have hkm := Lib.hid (show ((k % M : Nat) : Int) = (k : Int) % M from by simp)
          have hMpos : 0 < M := by omega
          have hmx : (if (1 : Int) < n then (n : Int) else 1) = M := by split <;> omega
          clear hM
          refine region_sched (G := KC [(⟨Bx, 0, none⟩, .int .i64 n), (⟨Bx, 1, none⟩, .slice a1 L.length c1), (⟨Bx, 2, none⟩, .slice fa2 L.length fc2), (⟨B2, 0, none⟩, .int .i64 n), (⟨B2, 1, none⟩, .slice a1 L.length c1), (⟨B2, 2, none⟩, .slice fa L.length fc), (⟨g, o + k * 2, none⟩, .int .i64 oi), (⟨g, o + k * 2 + 1, none⟩, .int .i64 ox)]) [([0,1,2,3,4,5,6,7,8,9,10,12],11), ([13,14,15,16,17,18,19],20), ([21],22), ([23,24,25,26,27],28)] [29,30] (by kernel_rfl) (by kernel_rfl) (by kernel_rfl) rfl (KC.refl _) (KC.trans _) ?_
          simp only [stages, pickO, nthO, headO, List.append_eq, List.cons_append, List.nil_append]
          refine sched_step ?_
          repeat (go_big_quiet_step (fail))
          refine wpQuiet_nil ?_
          intro K hK
          rw [if_pos (by rfl)]
          go_simp
          refine cp.out.mono ?_
          rintro e w7 ⟨rfl, hS7⟩
          have hS7' := Lib.hid (show Sep w w7 (RestP r ba n L f2 :: ArcP ba n L :: Blk B15 [.int .i64 n, .slice a1 L.length c1, .slice fa2 L.length fc2] 35 :: Blk B2 [.int .i64 n, .slice a1 L.length c1, .slice fa L.length fc] 35 :: RestP r2 ba n L f :: Blk Bx [.int .i64 n, .slice a1 L.length c1, .slice fa2 L.length fc2] 35 :: R2) from hS7)
          try dsimp only
          refine hK.out _ _ (hbx'.out _ _ (hS7'.out.blkAt 5 rfl) (hS7'.out.blkAt 3 rfl) hS7'.out.mod) ?_
          clear hK K hS7 cp k0 k1 k2 k3 k4 k5 k6 k7 hS5
          have k0 := KC.one (w := w7) (L := [(⟨Bx, 0, none⟩, .int .i64 n), (⟨Bx, 1, none⟩, .slice a1 L.length c1), (⟨Bx, 2, none⟩, .slice fa2 L.length fc2), (⟨B2, 0, none⟩, .int .i64 n), (⟨B2, 1, none⟩, .slice a1 L.length c1), (⟨B2, 2, none⟩, .slice fa L.length fc), (⟨g, o + k * 2, none⟩, .int .i64 oi), (⟨g, o + k * 2 + 1, none⟩, .int .i64 ox)]) ((hS7'.out.blkAt 5 rfl).cell 0 rfl) (by simp)
          have k1 := KC.one (w := w7) (L := [(⟨Bx, 0, none⟩, .int .i64 n), (⟨Bx, 1, none⟩, .slice a1 L.length c1), (⟨Bx, 2, none⟩, .slice fa2 L.length fc2), (⟨B2, 0, none⟩, .int .i64 n), (⟨B2, 1, none⟩, .slice a1 L.length c1), (⟨B2, 2, none⟩, .slice fa L.length fc), (⟨g, o + k * 2, none⟩, .int .i64 oi), (⟨g, o + k * 2 + 1, none⟩, .int .i64 ox)]) ((hS7'.out.blkAt 5 rfl).cell 1 rfl) (by simp)
          have k2 := KC.one (w := w7) (L := [(⟨Bx, 0, none⟩, .int .i64 n), (⟨Bx, 1, none⟩, .slice a1 L.length c1), (⟨Bx, 2, none⟩, .slice fa2 L.length fc2), (⟨B2, 0, none⟩, .int .i64 n), (⟨B2, 1, none⟩, .slice a1 L.length c1), (⟨B2, 2, none⟩, .slice fa L.length fc), (⟨g, o + k * 2, none⟩, .int .i64 oi), (⟨g, o + k * 2 + 1, none⟩, .int .i64 ox)]) ((hS7'.out.blkAt 5 rfl).cell 2 rfl) (by simp)
          have k3 := KC.one (w := w7) (L := [(⟨Bx, 0, none⟩, .int .i64 n), (⟨Bx, 1, none⟩, .slice a1 L.length c1), (⟨Bx, 2, none⟩, .slice fa2 L.length fc2), (⟨B2, 0, none⟩, .int .i64 n), (⟨B2, 1, none⟩, .slice a1 L.length c1), (⟨B2, 2, none⟩, .slice fa L.length fc), (⟨g, o + k * 2, none⟩, .int .i64 oi), (⟨g, o + k * 2 + 1, none⟩, .int .i64 ox)]) ((hS7'.out.blkAt 3 rfl).cell 0 rfl) (by simp)
          have k4 := KC.one (w := w7) (L := [(⟨Bx, 0, none⟩, .int .i64 n), (⟨Bx, 1, none⟩, .slice a1 L.length c1), (⟨Bx, 2, none⟩, .slice fa2 L.length fc2), (⟨B2, 0, none⟩, .int .i64 n), (⟨B2, 1, none⟩, .slice a1 L.length c1), (⟨B2, 2, none⟩, .slice fa L.length fc), (⟨g, o + k * 2, none⟩, .int .i64 oi), (⟨g, o + k * 2 + 1, none⟩, .int .i64 ox)]) ((hS7'.out.blkAt 3 rfl).cell 1 rfl) (by simp)
          have k5 := KC.one (w := w7) (L := [(⟨Bx, 0, none⟩, .int .i64 n), (⟨Bx, 1, none⟩, .slice a1 L.length c1), (⟨Bx, 2, none⟩, .slice fa2 L.length fc2), (⟨B2, 0, none⟩, .int .i64 n), (⟨B2, 1, none⟩, .slice a1 L.length c1), (⟨B2, 2, none⟩, .slice fa L.length fc), (⟨g, o + k * 2, none⟩, .int .i64 oi), (⟨g, o + k * 2 + 1, none⟩, .int .i64 ox)]) ((hS7'.out.blkAt 3 rfl).cell 2 rfl) (by simp)
          have k6 := KC.one (w := w7) (L := [(⟨Bx, 0, none⟩, .int .i64 n), (⟨Bx, 1, none⟩, .slice a1 L.length c1), (⟨Bx, 2, none⟩, .slice fa2 L.length fc2), (⟨B2, 0, none⟩, .int .i64 n), (⟨B2, 1, none⟩, .slice a1 L.length c1), (⟨B2, 2, none⟩, .slice fa L.length fc), (⟨g, o + k * 2, none⟩, .int .i64 oi), (⟨g, o + k * 2 + 1, none⟩, .int .i64 ox)]) ((hcell'.out _ hS7'.out.mod).1) (by simp)
          have k7 := KC.one (w := w7) (L := [(⟨Bx, 0, none⟩, .int .i64 n), (⟨Bx, 1, none⟩, .slice a1 L.length c1), (⟨Bx, 2, none⟩, .slice fa2 L.length fc2), (⟨B2, 0, none⟩, .int .i64 n), (⟨B2, 1, none⟩, .slice a1 L.length c1), (⟨B2, 2, none⟩, .slice fa L.length fc), (⟨g, o + k * 2, none⟩, .int .i64 oi), (⟨g, o + k * 2 + 1, none⟩, .int .i64 ox)]) ((hcell'.out _ hS7'.out.mod).2) (by simp)
          refine sched_step ?_
          repeat (go_big_quiet_step (fail))
          refine wpQuiet_nil ?_
          intro K hK
          rw [if_pos (by rfl)]
          go_simp
          rw [show max (1 : Int) (n : Int) = (M : Int) from by rw [← hM'.out]; omega]
          refine hK.out _ _ (KC.refl _ _) ?_
          clear hK K
          have hM0 : ((M : Int) == 0) = false := by simp; omega
          refine sched_step ?_
          repeat (go_big_quiet_step (fail))
          refine wpQuiet_nil ?_
          intro K hK
          rw [if_pos (by rfl)]
          go_simp
          have cs1 := Lib.hid (same_sep hS7'.out (hXa.out _ _ (Sep.after (T := [RestP r ba n L f2, ArcP ba n L, Blk B15 [.int .i64 n, .slice a1 L.length c1, .slice fa2 L.length fc2] 35, Blk B2 [.int .i64 n, .slice a1 L.length c1, .slice fa L.length fc] 35, RestP r2 ba n L f, Blk Bx [.int .i64 n, .slice a1 L.length c1, .slice fa2 L.length fc2] 35]) hS7'.out)) hG.out hF2.out (k % M))
          unfold restV at cs1
          rw [hkm.out] at cs1
          refine cs1.out.mono ?_
          rintro e w8 ⟨rfl, hm8⟩
          have hS8 := Lib.hid (hS7'.out.still hm8)
          try dsimp only
          refine hK.out _ _ (hbx'.out _ _ (hS8.out.blkAt 5 rfl) (hS8.out.blkAt 3 rfl) hS8.out.mod) ?_
          clear hK K hS7' hm8 cs1 k0 k1 k2 k3 k4 k5 k6 k7
          have k0 := KC.one (w := w8) (L := [(⟨Bx, 0, none⟩, .int .i64 n), (⟨Bx, 1, none⟩, .slice a1 L.length c1), (⟨Bx, 2, none⟩, .slice fa2 L.length fc2), (⟨B2, 0, none⟩, .int .i64 n), (⟨B2, 1, none⟩, .slice a1 L.length c1), (⟨B2, 2, none⟩, .slice fa L.length fc), (⟨g, o + k * 2, none⟩, .int .i64 oi), (⟨g, o + k * 2 + 1, none⟩, .int .i64 ox)]) ((hS8.out.blkAt 5 rfl).cell 0 rfl) (by simp)
          have k1 := KC.one (w := w8) (L := [(⟨Bx, 0, none⟩, .int .i64 n), (⟨Bx, 1, none⟩, .slice a1 L.length c1), (⟨Bx, 2, none⟩, .slice fa2 L.length fc2), (⟨B2, 0, none⟩, .int .i64 n), (⟨B2, 1, none⟩, .slice a1 L.length c1), (⟨B2, 2, none⟩, .slice fa L.length fc), (⟨g, o + k * 2, none⟩, .int .i64 oi), (⟨g, o + k * 2 + 1, none⟩, .int .i64 ox)]) ((hS8.out.blkAt 5 rfl).cell 1 rfl) (by simp)
          have k2 := KC.one (w := w8) (L := [(⟨Bx, 0, none⟩, .int .i64 n), (⟨Bx, 1, none⟩, .slice a1 L.length c1), (⟨Bx, 2, none⟩, .slice fa2 L.length fc2), (⟨B2, 0, none⟩, .int .i64 n), (⟨B2, 1, none⟩, .slice a1 L.length c1), (⟨B2, 2, none⟩, .slice fa L.length fc), (⟨g, o + k * 2, none⟩, .int .i64 oi), (⟨g, o + k * 2 + 1, none⟩, .int .i64 ox)]) ((hS8.out.blkAt 5 rfl).cell 2 rfl) (by simp)
          have k3 := KC.one (w := w8) (L := [(⟨Bx, 0, none⟩, .int .i64 n), (⟨Bx, 1, none⟩, .slice a1 L.length c1), (⟨Bx, 2, none⟩, .slice fa2 L.length fc2), (⟨B2, 0, none⟩, .int .i64 n), (⟨B2, 1, none⟩, .slice a1 L.length c1), (⟨B2, 2, none⟩, .slice fa L.length fc), (⟨g, o + k * 2, none⟩, .int .i64 oi), (⟨g, o + k * 2 + 1, none⟩, .int .i64 ox)]) ((hS8.out.blkAt 3 rfl).cell 0 rfl) (by simp)
          have k4 := KC.one (w := w8) (L := [(⟨Bx, 0, none⟩, .int .i64 n), (⟨Bx, 1, none⟩, .slice a1 L.length c1), (⟨Bx, 2, none⟩, .slice fa2 L.length fc2), (⟨B2, 0, none⟩, .int .i64 n), (⟨B2, 1, none⟩, .slice a1 L.length c1), (⟨B2, 2, none⟩, .slice fa L.length fc), (⟨g, o + k * 2, none⟩, .int .i64 oi), (⟨g, o + k * 2 + 1, none⟩, .int .i64 ox)]) ((hS8.out.blkAt 3 rfl).cell 1 rfl) (by simp)
          have k5 := KC.one (w := w8) (L := [(⟨Bx, 0, none⟩, .int .i64 n), (⟨Bx, 1, none⟩, .slice a1 L.length c1), (⟨Bx, 2, none⟩, .slice fa2 L.length fc2), (⟨B2, 0, none⟩, .int .i64 n), (⟨B2, 1, none⟩, .slice a1 L.length c1), (⟨B2, 2, none⟩, .slice fa L.length fc), (⟨g, o + k * 2, none⟩, .int .i64 oi), (⟨g, o + k * 2 + 1, none⟩, .int .i64 ox)]) ((hS8.out.blkAt 3 rfl).cell 2 rfl) (by simp)
          have k6 := KC.one (w := w8) (L := [(⟨Bx, 0, none⟩, .int .i64 n), (⟨Bx, 1, none⟩, .slice a1 L.length c1), (⟨Bx, 2, none⟩, .slice fa2 L.length fc2), (⟨B2, 0, none⟩, .int .i64 n), (⟨B2, 1, none⟩, .slice a1 L.length c1), (⟨B2, 2, none⟩, .slice fa L.length fc), (⟨g, o + k * 2, none⟩, .int .i64 oi), (⟨g, o + k * 2 + 1, none⟩, .int .i64 ox)]) ((hcell'.out _ hS8.out.mod).1) (by simp)
          have k7 := KC.one (w := w8) (L := [(⟨Bx, 0, none⟩, .int .i64 n), (⟨Bx, 1, none⟩, .slice a1 L.length c1), (⟨Bx, 2, none⟩, .slice fa2 L.length fc2), (⟨B2, 0, none⟩, .int .i64 n), (⟨B2, 1, none⟩, .slice a1 L.length c1), (⟨B2, 2, none⟩, .slice fa L.length fc), (⟨g, o + k * 2, none⟩, .int .i64 oi), (⟨g, o + k * 2 + 1, none⟩, .int .i64 ox)]) ((hcell'.out _ hS8.out.mod).2) (by simp)
          refine sched_step ?_
          repeat (go_big_quiet_step (fail))
          refine wpQuiet_nil ?_
          intro K hK
          rw [if_pos (by rfl)]
          go_simp
          have cs2 := Lib.hid (same_sep (by exact (hS8.out.get 1 rfl).get 4 rfl |>.swap |>.swap) (hXb.out _ _ (Sep.after (T := [RestP r ba n L f2, ArcP ba n L, Blk B15 [.int .i64 n, .slice a1 L.length c1, .slice fa2 L.length fc2] 35, Blk B2 [.int .i64 n, .slice a1 L.length c1, .slice fa L.length fc] 35, RestP r2 ba n L f, Blk Bx [.int .i64 n, .slice a1 L.length c1, .slice fa2 L.length fc2] 35]) hS8.out)) hG.out hF.out 0)
          unfold restV at cs2
          rw [show ((0 : Nat) : Int) = 0 from rfl] at cs2
          refine cs2.out.mono ?_
          rintro e w9 ⟨rfl, hm9⟩
          have hS9 := Lib.hid ((hS8.out.still hm9).get 5 rfl)
          have hX9 := Lib.hid ((((hXa.out.add (RestP r2 ba n L f)).add (Blk B2 [.int .i64 n, .slice a1 L.length c1, .slice fa L.length fc] 35)).add (Blk B15 [.int .i64 n, .slice a1 L.length c1, .slice fa2 L.length fc2] 35)))
          try dsimp only
          refine hK.out _ _ (hbx'.out _ _ (hS9.out.blkAt 0 rfl) (hS9.out.blkAt 4 rfl) hS9.out.mod) ?_
          clear hK K hS8 hm9 cs2 k0 k1 k2 k3 k4 k5 k6 k7
          refine sched_last ?_
          repeat (go_big_quiet_step (fail))
          refine wpQuiet_nil ?_
          go_wp2_with fail
          go_roundw
          case rel => exact ⟨k + 1, fa2, fc2, _, by omega, by go_num, Lib.hid (by rw [hf2'.out]; exact hX9.out), Lib.hid (by rw [hf2'.out]; exact hS9.out)⟩
          case measure => simp [intOf]; omega
    · have hlt1 : ¬ (k : Int) < ops.length := by omega
      go_wp2_with fail
      have hF := Lib.hid (hro.out k)
      generalize runF L ops k = f at *
      have hSd := Lib.hid (hS.out.still (Mod.refl [] wr).drew)
      have x1 : ∀ m' : Fut (Mod []) wr.drew, m'.v.cell? ⟨Bx, 2, none⟩ = some (.slice fa L.length fc) := fun m' => ((hSd.out.still m'.of).blkAt 0 rfl).cell 2 rfl
      have k1 := x1 ⟨_, Mod.refl _ _⟩
      have ca := Lib.hid (rarcs_sep (by exact hSd.out.tail))
      have cl := Lib.hid (by
        obtain ⟨FA, hA⟩ := hSd.out.partAt 2 rfl
        exact alen_p hA)
      have hmod := Lib.hid hSd.out.mod
      obtain ⟨m, hm⟩ : ∃ m, L.length = m := ⟨_, rfl⟩
      rw [hm] at cl hl
      rw [show ((2 * m : Nat) : Int) = 2 * (m : Int) by push_cast; rfl] at cl
      clear hS hX hF hSd
      rw [hm] at x1 k1
      rw [hm]
      go_upto_region 17 with fail
      refine region_sched (G := Mod []) [([0,3,4,5,6],1), ([],2), ([7,8],9)] [10,11] (by kernel_rfl) (by kernel_rfl) (by kernel_rfl) rfl (Mod.refl []) (fun _ _ _ h1 h2 => h1.trans h2 (by simp)) ?_
      simp only [stages, pickO, nthO, headO, List.append_eq, List.cons_append, List.nil_append]
      refine sched_step ?_
      repeat (go_big_quiet_step (fail))
      refine wpQuiet_nil ?_
      intro K hK
      rw [if_pos (by rfl)]
      go_simp
      refine ca.out.mono ?_
      rintro e w5 ⟨rfl, hw5⟩
      subst w5
      try dsimp only
      refine hK.out _ _ (Mod.refl _ _) ?_
      clear hK K
      refine sched_step ?_
      refine wpQuiet_nil ?_
      intro K hK
      rw [if_pos (by rfl)]
      go_simp
      refine cl.out.mono ?_
      rintro e w5 ⟨rfl, hw5⟩
      subst w5
      try dsimp only
      refine hK.out _ _ (Mod.refl _ _) ?_
      clear hK K
      refine sched_step ?_
      repeat (go_big_quiet_step (fail))
      refine wpQuiet_nil ?_
      intro K hK
      rw [if_pos (by rfl)]
      go_simp
      refine (haw.out _).mono ?_
      rintro e w6 ⟨rfl, hm6⟩
      try dsimp only
      refine hK.out _ _ hm6 ?_
      clear hK K
      refine sched_last ?_
      repeat (go_big_quiet_step (fail))
      refine wpQuiet_nil ?_
      go_wp2_with fail
      go_ret
      exact ⟨rfl, hmod.out.trans hm6 (by simp)⟩
end Edge
end Go.Proofs.YtjpfmkfikidgkaaGreat

set_option linter.unusedVariables false
set_option linter.unusedSimpArgs false
namespace Go.Proofs.YtjpfmkfikidgkaaGreat
open Go.ChangeShapes Go.WideShapes Go.ChangeAt Go.RowKit Go.Deep
open Go.ChangeMaps (open_string shut_string)
section
variable {H : Type} {enc : TypeId × Value → H} {w : World} {spare : Nat → Bool} {held : Bool}
theorem elem_ed23b : ∀ n cs (d : DataW H) p, DataW.trod enc Tryz.prog w 0 spare held n 146 cs = some (d, p) → ∃ x : Edge.Ed, cs = Edge.encEd x ∧ True := by
  intro n cs d p h
  obtain ⟨hl, hf⟩ := fields_of Tryz.underlying146 (by kernel_rfl) (by kernel_rfl) h
  obtain ⟨v0, y0, m0, g0, f0⟩ := hf 0 _ rfl
  obtain ⟨v1, y1, m1, g1, f1⟩ := hf 1 _ rfl
  obtain ⟨v2, y2, m2, g2, f2⟩ := hf 2 _ rfl
  obtain ⟨a, rfl⟩ := cell_int Tryz.underlying3 f0
  obtain ⟨b, rfl⟩ := cell_int Tryz.underlying3 f1
  obtain ⟨c, rfl⟩ := cell_int Tryz.underlying2 f2
  exact ⟨(a, b, c), list3 hl g0 g1 g2, trivial⟩
end
section
variable {H : Type} {enc : TypeId × Value → H} {w : World} {spare : Nat → Bool} {held : Bool}
theorem cell_intW23b {k : IntKind} {e : Nat} (ht : Tryz.prog.underlying e = some (.int k)) {n : Nat} {v : Value} {d : DataW H} {p : List MemPlace} (h : DataW.trod enc Tryz.prog w 0 spare held n e [v] = some (d, p)) : ∃ a : Int, v = .int k a ∧ (Lit.int k a).wf = true := by
  obtain ⟨a, ha, _, hw⟩ := DataW.trod_int ht h
  simp only [List.cons.injEq, and_true] at ha
  exact ⟨a, ha, hw⟩
theorem elem_pw23b : ∀ n cs (d : DataW H) p, DataW.trod enc Tryz.prog w 0 spare held n 45 cs = some (d, p) → ∃ x : Int × Int, cs = Edge.encPu x ∧ ((Lit.int .i64 x.1).wf = true ∧ (Lit.int .i64 x.2).wf = true) := by
  intro n cs d p h
  obtain ⟨hl, hf⟩ := fields_of Tryz.underlying45 (by kernel_rfl) (by kernel_rfl) h
  obtain ⟨v0, y0, m0, g0, f0⟩ := hf 0 _ rfl
  obtain ⟨v1, y1, m1, g1, f1⟩ := hf 1 _ rfl
  obtain ⟨a, rfl, wa⟩ := cell_intW23b Tryz.underlying3 f0
  obtain ⟨b, rfl, wb⟩ := cell_intW23b Tryz.underlying2 f1
  exact ⟨(a, b), list2 hl g0 g1, wa, wb⟩
end
namespace ResidPlays
set_option maxRecDepth 100000 in
theorem lifted (os : Os) (started : os.Started) (H : Type) (enc : TypeId × Value → H) :
    ReturnsInHanded {} Tryz.checked os 3 .any (Rows.residPlaysSpec.pre6 enc Tryz.prog Tryz.f3 Rows.residPlaysRow.domain false) (Rows.residPlaysSpec.post enc Tryz.prog Tryz.f3 false true false false) := by
  refine returnsInHanded_of_change (C := Tryz.checked) own started (by kernel_rfl) Tryz.func3
    (ChangeSpec.witness6 (enc := enc) (C := Tryz.checked) false ⟨#[], #[.int .u8 0, .slice none 0 0, .slice none 0 0], []⟩ 8 (by kernel_rfl) (by kernel_rfl) (by kernel_rfl) (by kernel_rfl)) ?_
  intro W base args ds gs before hval0 hW hcnd _
  have hval : ∀ (j : Nat) t v, Tryz.f3.params[j]? = some t → args[j]? = some v → Value.okWide Tryz.prog W .any base t v := hval0
  have hW' := hW
  obtain ⟨p, q, hA0, hV, rfl, hfz, hnd⟩ := hW
  have hA : DataW.TrodAll enc Tryz.prog W 0 (fun _ => true) true Tryz.f3.params.toList args.toList ds p := hA0
  rw [Tryz.params3] at hA hval
  obtain ⟨v0, vs0, d0, ds0, p0, q0, hargs, rfl, rfl, h0, r0⟩ := trodAll_cons hA
  obtain ⟨v1, vs1, d1, ds1, p1, q1, rfl, rfl, rfl, h1, r1⟩ := trodAll_cons r0
  obtain ⟨v2, vs2, d2, ds2, p2, q2, rfl, rfl, rfl, h2, r2⟩ := trodAll_cons r1
  obtain ⟨rfl, rfl, rfl⟩ := trodAll_nil r2
  obtain rfl : args = #[v0, v1, v2] := by cases args; simp_all
  obtain ⟨rfl, rfl⟩ := trodVars_none hV
  have k0 := h0
  have lt0 : ∀ x ∈ p0, x.block < W.heap.size := by obtain ⟨m, hm⟩ := k0; exact DataW.trod_lt m _ _ _ hm
  have k1 := h1
  have lt1 : ∀ x ∈ p1, x.block < W.heap.size := by obtain ⟨m, hm⟩ := k1; exact DataW.trod_lt m _ _ _ hm
  have k2 := h2
  have lt2 : ∀ x ∈ p2, x.block < W.heap.size := by obtain ⟨m, hm⟩ := k2; exact DataW.trod_lt m _ _ _ hm
  obtain ⟨x0, rfl, _, _, hw0⟩ := open_int Tryz.underlying5 (hval 0 5 v0 rfl rfl) h0
  obtain ⟨n0, hn0, rfl⟩ : ∃ n : Nat, n ≤ 255 ∧ x0 = (n : Int) := ⟨x0.toNat, by have := wf8 hw0; omega, by have := wf8 hw0; omega⟩
  obtain ⟨l1, hrd1⟩ : ∃ l : List Edge.Ed, Rd W 3 v1 l.length (flat Edge.encEd l) := by
    obtain ⟨a, len, cap, rfl⟩ := okWide_slice Tryz.underlying22 (hval 1 22 v1 rfl rfl)
    obtain ⟨fuel, hf⟩ := h1
    obtain ⟨l, hl, hr, _⟩ := open_rd Edge.encEd_len (by omega) Tryz.underlying22 (by kernel_rfl) elem_ed23b hf
    subst hl
    exact ⟨l, hr⟩
  obtain ⟨l2, hrd2, hw2⟩ : ∃ l : List (Int × Int), Rd W 2 v2 l.length (flat Edge.encPu l) ∧ ∀ x ∈ l, (Lit.int .i64 x.1).wf = true ∧ (Lit.int .i64 x.2).wf = true := by
    obtain ⟨a, len, cap, rfl⟩ := okWide_slice Tryz.underlying23 (hval 2 23 v2 rfl rfl)
    obtain ⟨fuel, hf⟩ := h2
    obtain ⟨l, hl, hr, hq⟩ := open_rd Edge.encPu_len (by omega) Tryz.underlying23 (by kernel_rfl) elem_pw23b hf
    subst hl
    exact ⟨l, hr, hq⟩
  clear hA0 hval0
  refine (Edge.plays23_any n0 hn0 hrd1 hrd2 (fun o ho => ⟨(wf64 (hw2 o ho).1).2, (wf64 (hw2 o ho).2).1, (wf64 (hw2 o ho).2).2⟩)).mono fun e W' ⟨he, hm⟩ => ?_
  have bel := hm.below
  subst he
  exact ⟨_, rfl, _, _, _, [], _, [], hW', trodAll_mk1 (shut_bool Tryz.underlying4 _), (trodAll_cons_mk (Below.trod laidOut (by kernel_rfl) (of_decide_eq_true (by kernel_rfl)) k0 bel lt0) (trodAll_cons_mk (Below.trod laidOut (by kernel_rfl) (of_decide_eq_true (by kernel_rfl)) k1 bel lt1) (trodAll_cons_mk (Below.trod laidOut (by kernel_rfl) (of_decide_eq_true (by kernel_rfl)) k2 bel lt2) trodAll_mk0))), rfl, bel.frame _, fun h => by cases h⟩
theorem and2 {a b : Bool} (ha : a = true) (hb : b = true) : (a && b) = true := by rw [ha, hb]; rfl
set_option maxHeartbeats 8000000 in
theorem closed : joinedFacts Tryz.checked.prog 3 Tryz.f3 Rows.residPlaysSpec Rows.residPlaysRow = true := by
  unfold joinedFacts
  repeat' (with_reducible apply and2)
  all_goals as_aux_lemma => kernel_rfl
theorem inst : Tryz.f3.isInstance Tryz.checked.prog Rows.residPlaysRow.origin Rows.residPlaysRow.targs := of_decide_eq_true (by kernel_rfl)
theorem wrap : Tryz.f3.isWrapper Tryz.checked.prog Rows.residPlaysRow.wrapper Rows.residPlaysRow.mainSum := by unfold Func.isWrapper; first | (rw [if_pos (by decide +kernel)]; kernel_rfl) | (rw [if_neg (by decide +kernel)]; exact ⟨rfl, rfl⟩)
theorem proved : Rows.ResidPlaysSaid :=
  OpenClaim.holds_of_wide 3 Tryz.f3 rfl rfl rfl rfl rfl rfl rfl ⟨rfl, rfl, rfl, rfl, rfl⟩ rfl rfl rfl rfl rfl (by kernel_rfl) Tryz.func3 closed inst wrap
    (fun os started H enc _ => lifted os started H enc)
end ResidPlays
end Go.Proofs.YtjpfmkfikidgkaaGreat
