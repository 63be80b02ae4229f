/- How far it is: levels, as plain things. -/
import Derived.Test.YtjpfmkfikidgkaaGreatReachLaw
set_option linter.unusedVariables false
set_option linter.unusedSimpArgs false
namespace Go.Proofs.YtjpfmkfikidgkaaGreat
open Go.RowKit
namespace Edge
/-- An arc of which something is left leads from u to x. -/
def Arc (L : List Ed) (f : List Int) (u x : Nat) : Prop := ∃ i, i < 2 * L.length ∧ tailE L i = (u : Int) ∧ headE L i = (x : Int) ∧ 0 < leftE L f i
theorem arc_lt {n : Nat} {L : List Ed} {f : List Int} (hG : GOk n L) {u x : Nat} (h : Arc L f u x) : u < n ∧ x < n := by
  obtain ⟨i, hi, ht, hh, _⟩ := h
  have h1 := hG.ends _ (List.getElem_mem (l := L) (n := i / 2) (by omega))
  rw [tailE_get hi] at ht
  rw [headE_get hi] at hh
  split at ht <;> split at hh <;> omega
inductive Wlk (A : Nat → Nat → Prop) : Nat → Nat → Nat → Prop
  | base (u : Nat) : Wlk A u u 0
  | step {u x v k : Nat} : A u x → Wlk A x v k → Wlk A u v (k + 1)
section
variable {n : Nat} {A : Nat → Nat → Prop}
theorem Wlk.snoc {u v x k : Nat} (h : Wlk A u v k) (ha : A v x) : Wlk A u x (k + 1) := by
  induction h with
  | base u => exact .step ha (.base _)
  | step h1 _ ih => exact .step h1 (ih ha)
theorem Wlk.last {u x k : Nat} (h : Wlk A u x (k + 1)) : ∃ v, Wlk A u v k ∧ A v x := by
  generalize hm : k + 1 = m at h
  induction h generalizing k with
  | base u => omega
  | @step u y v j h1 h2 ih =>
    cases j with
    | zero =>
      cases h2
      have : k = 0 := by omega
      subst this
      exact ⟨u, .base _, h1⟩
    | succ j =>
      obtain ⟨z, h3, h4⟩ := ih (k := j) rfl
      have : k = j + 1 := by omega
      subst this
      exact ⟨z, .step h1 h3, h4⟩
theorem Wlk.lt (hA : ∀ {u x}, A u x → u < n ∧ x < n) {u v k : Nat} (h : Wlk A u v k) (hv : v < n) : u < n := by
  cases h with
  | base => exact hv
  | step h1 _ => exact (hA h1).1
/-- d is how far it is from u to v; -1: there is no way. -/
def IsD (A : Nat → Nat → Prop) (u v : Nat) (d : Int) : Prop := (d = -1 ∧ ∀ k, ¬ Wlk A u v k) ∨ ∃ k : Nat, d = k ∧ Wlk A u v k ∧ ∀ j, j < k → ¬ Wlk A u v j
theorem IsD.one {u v : Nat} {d e : Int} (h1 : IsD A u v d) (h2 : IsD A u v e) : d = e := by
  rcases h1 with ⟨rfl, h1⟩ | ⟨k, rfl, h1, h3⟩ <;> rcases h2 with ⟨rfl, h2⟩ | ⟨j, rfl, h2, h4⟩
  · rfl
  · exact absurd h2 (h1 j)
  · exact absurd h1 (h2 k)
  · have a1 := Nat.lt_or_ge k j
    have a2 := Nat.lt_or_ge j k
    rcases a1 with a1 | a1
    · exact absurd h1 (h4 k a1)
    · rcases a2 with a2 | a2
      · exact absurd h2 (h3 j a2)
      · omega
theorem IsD.ge {u v : Nat} {d : Int} (h : IsD A u v d) : -1 ≤ d := by
  rcases h with ⟨rfl, _⟩ | ⟨k, rfl, _⟩ <;> omega
theorem IsD.self (u : Nat) : IsD A u u 0 := .inr ⟨0, rfl, .base _, fun j hj => by omega⟩
/-- The levels towards t. -/
def LevTo (n : Nat) (A : Nat → Nat → Prop) (t : Nat) (D : List Int) : Prop := D.length = n ∧ ∀ u, u < n → IsD A u t (D.getD u 0)
theorem LevTo.one {t : Nat} {D E : List Int} (h1 : LevTo n A t D) (h2 : LevTo n A t E) : D = E := by
  refine List.ext_getElem (by rw [h1.1, h2.1]) (fun i a1 a2 => ?_)
  have h := (h1.2 i (by rw [← h1.1]; exact a1)).one (h2.2 i (by rw [← h1.1]; exact a1))
  rw [List.getD_eq_getElem?_getD, List.getD_eq_getElem?_getD, List.getElem?_eq_getElem a1, List.getElem?_eq_getElem a2] at h
  exact h
/-- Along an arc it falls by one at most. -/
theorem IsD.arc {u x t : Nat} {d e : Int} (ha : A u x) (h1 : IsD A u t d) (h2 : IsD A x t e) (he : 0 ≤ e) : 0 ≤ d ∧ d ≤ e + 1 := by
  rcases h2 with ⟨rfl, _⟩ | ⟨k, rfl, h3, h4⟩
  · omega
  · rcases h1 with ⟨rfl, h1⟩ | ⟨j, rfl, h5, h6⟩
    · exact absurd (Wlk.step ha h3) (h1 _)
    · have : j ≤ k + 1 := by
        rcases Nat.lt_or_ge (k + 1) j with h | h
        · exact absurd (Wlk.step ha h3) (h6 _ h)
        · exact h
      omega
/-- Where it is far, an arc leads nearer. -/
theorem IsD.next {u t : Nat} {d : Int} (h1 : IsD A u t d) (hd : 0 < d) : ∃ x, A u x ∧ IsD A x t (d - 1) := by
  rcases h1 with ⟨rfl, _⟩ | ⟨k, rfl, h3, h4⟩
  · omega
  · cases h3 with
    | base => omega
    | @step _ x _ j ha h5 =>
      refine ⟨x, ha, .inr ⟨j, by omega, h5, fun i hi hw => h4 (i + 1) (by omega) (.step ha hw)⟩⟩
theorem IsD.zero {u t : Nat} (h : IsD A u t 0) : u = t := by
  rcases h with ⟨h, _⟩ | ⟨k, hk, h3, _⟩
  · omega
  · have : k = 0 := by omega
    subst this
    cases h3; rfl
/-- It is never as far as there are vertices. -/
theorem IsD.few (hA : ∀ {u x}, A u x → u < n ∧ x < n) {t : Nat} (ht : t < n) : ∀ (k : Nat) (u : Nat), IsD A u t (k : Int) → ∃ l : List Nat, l.length = k + 1 ∧ l.Nodup ∧ ∀ x ∈ l, x < n ∧ ∃ j : Nat, j ≤ k ∧ IsD A x t (j : Int)
  | 0, u, h => ⟨[u], rfl, by simp, fun x hx => by
      rw [List.mem_singleton] at hx
      subst hx
      refine ⟨?_, 0, Nat.le_refl _, h⟩
      have := IsD.zero h
      omega⟩
  | k + 1, u, h => by
    obtain ⟨x, ha, hx⟩ := h.next (by omega)
    have e : ((k + 1 : Nat) : Int) - 1 = (k : Int) := by omega
    rw [e] at hx
    obtain ⟨l, h1, h2, h3⟩ := IsD.few hA ht k x hx
    refine ⟨u :: l, by simp [h1], List.nodup_cons.2 ⟨fun hu => ?_, h2⟩, fun y hy => ?_⟩
    · obtain ⟨_, j, hj, hd⟩ := h3 u hu
      have := hd.one h
      omega
    · rcases List.mem_cons.1 hy with rfl | hy
      · exact ⟨(hA ha).1, k + 1, Nat.le_refl _, h⟩
      · obtain ⟨a, j, hj, hd⟩ := h3 y hy
        exact ⟨a, j, by omega, hd⟩
theorem IsD.lt (hA : ∀ {u x}, A u x → u < n ∧ x < n) {t u : Nat} (ht : t < n) {d : Int} (h : IsD A u t d) : d < n := by
  have hge := h.ge
  rcases Int.lt_or_le (-1) d with h0 | h0
  · obtain ⟨k, rfl⟩ : ∃ k : Nat, d = k := ⟨d.toNat, by omega⟩
    obtain ⟨l, h1, h2, h3⟩ := IsD.few hA ht k u h
    have := nodup_le n l h2 (fun x hx => (h3 x hx).1)
    omega
  · omega
/-- The search towards t, in the round d: now (of which i are done) are the vertices that are d - 1 far, next those that are known to be d far. -/
structure BSt (n : Nat) (A : Nat → Nat → Prop) (t : Nat) (O : List Int) (d : Nat) (now : List Nat) (i : Nat) (next : List Nat) : Prop where
  len : O.length = n
  val : ∀ u, u < n → O.getD u 0 = -1 ∨ (IsD A u t (O.getD u 0) ∧ 0 ≤ O.getD u 0 ∧ O.getD u 0 ≤ d)
  all : ∀ u k, k + 1 ≤ d → Wlk A u t k → O.getD u 0 ≠ -1
  nowI : ∀ u, u < n → (O.getD u 0 + 1 = d ↔ u ∈ now)
  nowl : ∀ u ∈ now, u < n
  nextI : ∀ u, u < n → (O.getD u 0 = d ↔ u ∈ next)
  nextl : ∀ u ∈ next, u < n
  nd : next.Nodup
  seenI : ∀ j (hj : j < now.length), j < i → ∀ u, A u now[j] → O.getD u 0 ≠ -1
theorem getD_set5 (O : List Int) (u : Nat) (x : Int) (hu : u < O.length) (v : Nat) : (O.set u x).getD v 0 = if v = u then x else O.getD v 0 := by
  simp only [List.getD_eq_getElem?_getD, List.getElem?_set]
  by_cases h : v = u
  · subst h; simp [hu]
  · rw [if_neg (fun e => h e.symm), if_neg h]
/-- A vertex is found. -/
theorem BSt.see {t : Nat} {O : List Int} {d i u : Nat} {now next : List Nat} (h : BSt n A t O d now i next) (hd : 1 ≤ d) (hi : i < now.length) (ha : A u now[i]) (hu : u < n) (h0 : O.getD u 0 = -1) : BSt n A t (O.set u (d : Int)) d now i (next ++ [u]) := by
  have hul : u < O.length := by rw [h.len]; exact hu
  have hx := h.nowl _ (List.getElem_mem hi)
  have hv := (h.nowI _ hx).2 (List.getElem_mem hi)
  have hdx : IsD A now[i] t (O.getD now[i] 0) := by
    rcases h.val _ hx with h1 | h1
    · omega
    · exact h1.1
  have hdu : IsD A u t (d : Int) := by
    rcases hdx with ⟨h1, _⟩ | ⟨k, hk, h1, _⟩
    · omega
    · refine .inr ⟨d, rfl, ?_, fun j hj hw => h.all u j (by omega) hw h0⟩
      have : d = k + 1 := by omega
      rw [this]
      exact .step ha h1
  refine ⟨by simp [h.len], fun v hv => ?_, fun v k hk hw => ?_, fun v hv => ?_, h.nowl, fun v hv => ?_, fun v hv => ?_, ?_, fun j hj hji v hav => ?_⟩
  · rw [getD_set5 O u _ hul]
    by_cases e : v = u
    · rw [if_pos e]; subst e; exact .inr ⟨hdu, by omega, Int.le_refl _⟩
    · rw [if_neg e]; exact h.val v hv
  · rw [getD_set5 O u _ hul]
    split
    · omega
    · exact h.all v k hk hw
  · rw [getD_set5 O u _ hul]
    by_cases e : v = u
    · rw [if_pos e]; subst e
      have := (h.nowI v hv)
      constructor
      · intro c; omega
      · intro c; have := this.2 c; omega
    · rw [if_neg e]; exact h.nowI v hv
  · rw [getD_set5 O u _ hul, List.mem_append, List.mem_singleton]
    by_cases e : v = u
    · rw [if_pos e]; exact ⟨fun _ => .inr e, fun _ => rfl⟩
    · rw [if_neg e]; exact ⟨fun c => .inl ((h.nextI v hv).1 c), fun c => c.elim (fun c => (h.nextI v hv).2 c) (fun c => absurd c e)⟩
  · rcases List.mem_append.1 hv with hv | hv
    · exact h.nextl v hv
    · rw [List.mem_singleton] at hv; omega
  · rw [List.nodup_append]
    refine ⟨h.nd, by simp, fun y hy b hb => ?_⟩
    rw [List.mem_singleton] at hb
    intro e
    have := (h.nextI _ hu).2 (hb ▸ e ▸ hy)
    omega
  · rw [getD_set5 O u _ hul]
    split
    · omega
    · exact h.seenI j hj hji v hav
/-- All that leads to a vertex is seen. -/
theorem BSt.seen {t : Nat} {O : List Int} {d i : Nat} {now next : List Nat} (h : BSt n A t O d now i next) (hi : i < now.length) (ha : ∀ u, A u now[i] → O.getD u 0 ≠ -1) : BSt n A t O d now (i + 1) next :=
  { h with
    seenI := fun j hj hji u hu => by
      rcases Nat.lt_or_ge j i with c | c
      · exact h.seenI j hj c u hu
      · have : j = i := by omega
        subst this
        exact ha u hu }
/-- The next round. -/
theorem BSt.turn {t : Nat} {O : List Int} {d : Nat} {now next : List Nat} (hA : ∀ {u x}, A u x → u < n ∧ x < n) (ht : t < n) (h : BSt n A t O d now now.length next) (hd : 1 ≤ d) : BSt n A t O (d + 1) next 0 [] := by
  refine ⟨h.len, fun u hu => ?_, fun u k hk hw => ?_, fun u hu => ?_, h.nextl, fun u hu => ?_, by simp, by simp, fun j hj hji => by omega⟩
  · rcases h.val u hu with h1 | ⟨h1, h2, h3⟩
    · exact .inl h1
    · exact .inr ⟨h1, h2, by omega⟩
  · rcases Nat.lt_or_ge k d with c | c
    · exact h.all u k (by omega) hw
    · have e : k = d := by omega
      subst e
      cases hw with
      | base => exact h.all _ 0 (by omega) (.base _)
      | @step _ x _ j ha hw =>
        have hx := (hA ha).2
        have h1 := h.all x j (by omega) hw
        rcases h.val x hx with h2 | ⟨h2, h3, h4⟩
        · exact absurd h2 h1
        · by_cases e : O.getD x 0 + 1 = (j + 1 : Nat)
          · obtain ⟨q, hq, hqe⟩ := List.getElem_of_mem ((h.nowI x hx).1 e)
            exact h.seenI q hq hq u (by rw [hqe]; exact ha)
          · rcases h2 with ⟨h2, _⟩ | ⟨q, hq, h5, h6⟩
            · exact absurd h2 h1
            · have : q ≤ j := by
                rcases Nat.lt_or_ge j q with c | c
                · exact absurd hw (h6 j c)
                · exact c
              exact h.all u (q + 1) (by omega) (.step ha h5)
  · rw [← h.nextI u hu]; omega
  · constructor
    · intro c
      rcases h.val u hu with h1 | ⟨h1, h2, h3⟩ <;> omega
    · simp
/-- There is nothing more. -/
theorem BSt.over {t : Nat} {O : List Int} {d : Nat} (hA : ∀ {u x}, A u x → u < n ∧ x < n) (ht : t < n) (h : BSt n A t O d [] 0 []) (hd : 1 ≤ d) : LevTo n A t O := by
  refine ⟨h.len, fun u hu => ?_⟩
  rcases h.val u hu with h1 | h1
  · refine .inl ⟨h1, fun k hw => ?_⟩
    have : ∀ (k u : Nat), Wlk A u t k → O.getD u 0 ≠ -1 := by
      intro k
      induction k with
      | zero => intro u hw; exact h.all u 0 (by omega) hw
      | succ k ih =>
        intro u hw
        cases hw with
        | @step _ x _ _ ha hw =>
          have hx := (hA ha).2
          have h2 := ih x hw
          rcases h.val x hx with h3 | ⟨h3, h4, h5⟩
          · exact absurd h3 h2
          · have n1 : ¬ (O.getD x 0 + 1 = d) := fun c => by have := (h.nowI x hx).1 c; simp at this
            have n2 : ¬ (O.getD x 0 = d) := fun c => by have := (h.nextI x hx).1 c; simp at this
            rcases h3 with ⟨h3, _⟩ | ⟨q, hq, h6, _⟩
            · exact absurd h3 h2
            · exact h.all u (q + 1) (by omega) (.step ha h6)
    exact this k u hw h1
  · exact h1.1
/-- At first. -/
theorem BSt.start {t : Nat} (ht : t < n) : BSt n A t ((List.replicate n (-1)).set t 0) 1 [t] 0 [] := by
  have hr : ∀ v, v < n → (List.replicate n (-1 : Int)).getD v 0 = -1 := fun v hv => by
    rw [List.getD_eq_getElem?_getD, List.getElem?_replicate, if_pos hv]; rfl
  have hg : ∀ v, v < n → ((List.replicate n (-1 : Int)).set t 0).getD v 0 = if v = t then 0 else -1 := fun v hv => by
    rw [getD_set5 _ _ _ (by simpa using ht), hr v hv]
  refine ⟨by simp, fun u hu => ?_, fun u k hk hw => ?_, fun u hu => ?_, fun u hu => ?_, fun u hu => ?_, by simp, by simp, fun j hj hji => by omega⟩
  · rw [hg u hu]
    by_cases e : u = t
    · rw [if_pos e]; subst e; exact .inr ⟨IsD.self _, by omega, by omega⟩
    · rw [if_neg e]; exact .inl rfl
  · have : k = 0 := by omega
    subst this
    cases hw
    rw [hg _ ht, if_pos rfl]; omega
  · rw [hg u hu, List.mem_singleton]
    by_cases e : u = t
    · rw [if_pos e]; simp [e]
    · rw [if_neg e]; constructor
      · intro c; simp at c
      · intro c; exact absurd c e
  · rw [List.mem_singleton] at hu; omega
  · rw [hg u hu]
    constructor
    · intro c; split at c <;> omega
    · simp
theorem BSt.dle (hA : ∀ {u x}, A u x → u < n ∧ x < n) {t : Nat} (ht : t < n) {O : List Int} {d i : Nat} {now next : List Nat} (h : BSt n A t O d now i next) (hne : now ≠ []) : d ≤ n := by
  obtain ⟨x, hx⟩ := List.exists_mem_of_ne_nil _ hne
  have hl := h.nowl x hx
  have h1 := (h.nowI x hl).2 hx
  rcases h.val x hl with h2 | ⟨h2, _⟩
  · have : (0 : Int) ≤ n := by omega
    omega
  · have := h2.lt hA ht
    omega
/-- Levels told by what holds at each vertex. -/
theorem lev_of {t : Nat} {D : List Int} (hl : D.length = n) (h0 : ∀ u, u < n → -1 ≤ D.getD u 0) (ht : t < n) (hz : ∀ u, u < n → (D.getD u 0 = 0 ↔ u = t)) (hA : ∀ {u x}, A u x → u < n ∧ x < n)
    (h1 : ∀ u x, A u x → 0 ≤ D.getD x 0 → 0 ≤ D.getD u 0 ∧ D.getD u 0 ≤ D.getD x 0 + 1) (h2 : ∀ u, u < n → 0 < D.getD u 0 → ∃ x, A u x ∧ D.getD x 0 = D.getD u 0 - 1) : LevTo n A t D := by
  have hw : ∀ (k u : Nat), Wlk A u t k → 0 ≤ D.getD u 0 ∧ D.getD u 0 ≤ k := by
    intro k
    induction k with
    | zero =>
      intro u hw
      cases hw
      have := (hz t ht).2 rfl
      omega
    | succ k ih =>
      intro u hw
      cases hw with
      | @step _ x _ _ ha hw =>
        have h3 := ih x hw
        have h4 := h1 u x ha h3.1
        omega
  have hx : ∀ (k u : Nat), u < n → D.getD u 0 = k → Wlk A u t k := by
    intro k
    induction k with
    | zero =>
      intro u hu he
      have := (hz u hu).1 (by omega)
      subst this
      exact .base _
    | succ k ih =>
      intro u hu he
      obtain ⟨x, ha, hd⟩ := h2 u hu (by omega)
      exact .step ha (ih x (hA ha).2 (by omega))
  refine ⟨hl, fun u hu => ?_⟩
  have := h0 u hu
  by_cases hc : D.getD u 0 = -1
  · exact .inl ⟨hc, fun k hk => by have := hw k u hk; omega⟩
  · obtain ⟨k, hk⟩ : ∃ k : Nat, D.getD u 0 = k := ⟨(D.getD u 0).toNat, by omega⟩
    exact .inr ⟨k, hk, hx k u hu hk, fun j hj hwj => by have := hw j u hwj; omega⟩
end
end Edge
end Go.Proofs.YtjpfmkfikidgkaaGreat
