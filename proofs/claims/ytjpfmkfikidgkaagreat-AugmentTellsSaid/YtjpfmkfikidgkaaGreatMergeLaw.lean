/- Edges as they are merged: one by one in order (the reference), or each at its pair's place, sorted behind (the program): the same list. -/
import Derived.Test.YtjpfmkfikidgkaaGreatKit
set_option linter.unusedVariables false
set_option linter.unusedSimpArgs false
namespace Go.Proofs.YtjpfmkfikidgkaaGreat
namespace Edge
/-- An edge: both ends and the weight. -/
abbrev Ed := Int × Int × Int
def key (e : Ed) : Int × Int := (e.1, e.2.1)
def norm (e : Ed) : Ed := if e.2.1 < e.1 then (e.2.1, e.1, e.2.2) else e
/-- a's pair comes ahead of b's. -/
def before (a b : Int × Int) : Prop := a.1 < b.1 ∨ (a.1 = b.1 ∧ a.2 < b.2)
instance (a b : Int × Int) : Decidable (before a b) := by unfold before; exact inferInstance
theorem before_irrefl (a : Int × Int) : ¬ before a a := by unfold before; omega
theorem before_trans {a b c : Int × Int} (h1 : before a b) (h2 : before b c) : before a c := by unfold before at *; omega
theorem before_total {a b : Int × Int} (h : a ≠ b) : before a b ∨ before b a := by
  unfold before
  have : a.1 ≠ b.1 ∨ a.2 ≠ b.2 := by
    by_cases e : a.1 = b.1
    · right; intro e2; exact h (Prod.ext e e2)
    · exact .inl e
  omega
/-- The reference's add. -/
def addR : Bool → List Ed → Ed → List Ed
  | done, [], e => if done then [] else [e]
  | done, x :: l, e =>
    if key x = key e then (x.1, x.2.1, x.2.2 + e.2.2) :: addR true l e
    else if done = false ∧ before (key e) (key x) then e :: x :: addR true l e
    else x :: addR done l e
/-- The program's: at its place, or behind all. -/
def addP : List Ed → Ed → List Ed
  | [], e => [e]
  | x :: l, e => if key x = key e then (x.1, x.2.1, x.2.2 + e.2.2) :: l else x :: addP l e
/-- The pairs of those that come in. -/
def ins (l : List Ed) : List Ed := (l.filter fun e => decide (e.1 ≠ e.2.1)).map norm
def allR (l : List Ed) : List Ed := (ins l).foldl (addR false) []
def allP (l : List Ed) : List Ed := (ins l).foldl addP []
def heavy (l : List Ed) : List Ed := l.filter fun e => decide (e.2.2 ≠ 0)
/-- The merged edges. -/
def merged (l : List Ed) : List Ed := heavy (allR l)
/-- What all of a pair weigh. -/
def wt (k : Int × Int) : List Ed → Int
  | [] => 0
  | e :: l => (if key e = k then e.2.2 else 0) + wt k l
theorem wt_append (k : Int × Int) : ∀ l m : List Ed, wt k (l ++ m) = wt k l + wt k m
  | [], m => by simp [wt]
  | e :: l, m => by simp only [List.cons_append, wt, wt_append k l m]; omega
def Rising (l : List Ed) : Prop := l.Pairwise fun a b => before (key a) (key b)
def Apart (l : List Ed) : Prop := l.Pairwise fun a b => key a ≠ key b
theorem Rising.apart {l : List Ed} (h : Rising l) : Apart l := by
  refine List.Pairwise.imp ?_ h
  intro a b hab e
  rw [e] at hab
  exact before_irrefl _ hab
theorem wt_away {k : Int × Int} : ∀ {l : List Ed}, (∀ e ∈ l, key e ≠ k) → wt k l = 0
  | [], _ => rfl
  | e :: l, h => by
    have h1 := wt_away (k := k) (l := l) (fun x hx => h x (List.mem_cons_of_mem _ hx))
    have h2 := h e List.mem_cons_self
    simp [wt, h2, h1]
theorem wt_mem : ∀ {l : List Ed}, Apart l → ∀ e ∈ l, wt (key e) l = e.2.2
  | [], _, e, he => by simp at he
  | x :: l, h, e, he => by
    obtain ⟨h1, h2⟩ := List.pairwise_cons.1 h
    rcases List.mem_cons.1 he with rfl | he
    · simp only [wt, if_true]
      rw [wt_away (fun y hy => (h1 y hy).symm)]
      omega
    · simp only [wt]
      rw [if_neg (h1 e he), wt_mem h2 e he]
      omega
/-- All keys of addR's list. -/
theorem addR_done {e : Ed} : ∀ {l : List Ed}, (∀ x ∈ l, key x ≠ key e) → addR true l e = l
  | [], _ => rfl
  | x :: l, h => by
    unfold addR
    rw [if_neg (h x (by simp)), if_neg (by simp), addR_done (fun y hy => h y (by simp [hy]))]
theorem addR_keys {e : Ed} : ∀ {l : List Ed} {x : Ed}, x ∈ addR false l e → key x = key e ∨ ∃ y ∈ l, key y = key x
  | [], x, h => by
    simp only [addR, Bool.false_eq_true, if_false, List.mem_singleton] at h
    exact .inl (by rw [h])
  | y :: l, x, h => by
    unfold addR at h
    by_cases e1 : key y = key e
    · rw [if_pos e1] at h
      rcases List.mem_cons.1 h with rfl | h
      · exact .inl e1
      · exact go h (fun h => .inr (by obtain ⟨z, hz, e2⟩ := h; exact ⟨z, by simp [hz], e2⟩))
    · rw [if_neg e1] at h
      by_cases e2 : false = false ∧ before (key e) (key y)
      · rw [if_pos e2] at h
        rcases List.mem_cons.1 h with rfl | h
        · exact .inl rfl
        rcases List.mem_cons.1 h with rfl | h
        · exact .inr ⟨x, by simp, rfl⟩
        · exact go h (fun h => .inr (by obtain ⟨z, hz, e2⟩ := h; exact ⟨z, by simp [hz], e2⟩))
      · rw [if_neg e2] at h
        rcases List.mem_cons.1 h with rfl | h
        · exact .inr ⟨x, by simp, rfl⟩
        · rcases addR_keys h with h | ⟨z, hz, e3⟩
          · exact .inl h
          · exact .inr ⟨z, by simp [hz], e3⟩
where
  go {e x : Ed} {C : Prop} : ∀ {l : List Ed}, x ∈ addR true l e → ((∃ y ∈ l, key y = key x) → C) → C
  | [], h, _ => by simp [addR] at h
  | y :: l, h, k => by
    unfold addR at h
    by_cases e1 : key y = key e
    · rw [if_pos e1] at h
      rcases List.mem_cons.1 h with rfl | h
      · exact k ⟨y, by simp, rfl⟩
      · exact go h (fun ⟨z, hz, e2⟩ => k ⟨z, by simp [hz], e2⟩)
    · rw [if_neg e1, if_neg (by simp)] at h
      rcases List.mem_cons.1 h with rfl | h
      · exact k ⟨x, by simp, rfl⟩
      · exact go h (fun ⟨z, hz, e2⟩ => k ⟨z, by simp [hz], e2⟩)
theorem addR_rising {e : Ed} : ∀ {l : List Ed}, Rising l → Rising (addR false l e)
  | [], _ => by simp [addR, Rising]
  | x :: l, h => by
    obtain ⟨h1, h2⟩ := List.pairwise_cons.1 h
    unfold addR
    by_cases e1 : key x = key e
    · rw [if_pos e1, addR_done (fun y hy e2 => by have := h1 y hy; rw [e1, e2] at this; exact before_irrefl _ this)]
      exact List.pairwise_cons.2 ⟨h1, h2⟩
    · rw [if_neg e1]
      by_cases e2 : before (key e) (key x)
      · rw [if_pos ⟨rfl, e2⟩, addR_done (fun y hy e3 => by have := before_trans e2 (h1 y hy); rw [e3] at this; exact before_irrefl _ this)]
        refine List.pairwise_cons.2 ⟨fun y hy => ?_, List.pairwise_cons.2 ⟨h1, h2⟩⟩
        rcases List.mem_cons.1 hy with rfl | hy
        · exact e2
        · exact before_trans e2 (h1 y hy)
      · rw [if_neg (fun hh => e2 hh.2)]
        refine List.pairwise_cons.2 ⟨fun y hy => ?_, addR_rising h2⟩
        rcases addR_keys hy with h3 | ⟨z, hz, e3⟩
        · rw [h3]
          rcases before_total e1 with h4 | h4
          · exact h4
          · exact absurd h4 e2
        · rw [← e3]; exact h1 z hz
theorem addR_wt {e : Ed} (k : Int × Int) : ∀ {l : List Ed}, Rising l → wt k (addR false l e) = wt k l + (if key e = k then e.2.2 else 0)
  | [], _ => by simp [addR, wt]
  | x :: l, h => by
    obtain ⟨h1, h2⟩ := List.pairwise_cons.1 h
    unfold addR
    by_cases e1 : key x = key e
    · rw [if_pos e1, addR_done (fun y hy e2 => by have := h1 y hy; rw [e1, e2] at this; exact before_irrefl _ this)]
      have e3 : key (x.1, x.2.1, x.2.2 + e.2.2) = key x := rfl
      simp only [wt, e3, e1]
      split <;> omega
    · rw [if_neg e1]
      by_cases e2 : before (key e) (key x)
      · rw [if_pos ⟨rfl, e2⟩, addR_done (fun y hy e3 => by have := before_trans e2 (h1 y hy); rw [e3] at this; exact before_irrefl _ this)]
        simp only [wt]; omega
      · rw [if_neg (fun hh => e2 hh.2)]
        simp only [wt, addR_wt k h2]
        omega
theorem addP_keys {e : Ed} : ∀ {l : List Ed} {x : Ed}, x ∈ addP l e → key x = key e ∨ ∃ y ∈ l, key y = key x
  | [], x, h => by
    simp only [addP, List.mem_singleton] at h
    exact .inl (by rw [h])
  | y :: l, x, h => by
    unfold addP at h
    by_cases e1 : key y = key e
    · rw [if_pos e1] at h
      rcases List.mem_cons.1 h with rfl | h
      · exact .inl e1
      · exact .inr ⟨x, by simp [h], rfl⟩
    · rw [if_neg e1] at h
      rcases List.mem_cons.1 h with rfl | h
      · exact .inr ⟨x, by simp, rfl⟩
      · rcases addP_keys h with h | ⟨z, hz, e3⟩
        · exact .inl h
        · exact .inr ⟨z, by simp [hz], e3⟩
theorem addP_apart {e : Ed} : ∀ {l : List Ed}, Apart l → Apart (addP l e)
  | [], _ => by simp [addP, Apart]
  | x :: l, h => by
    obtain ⟨h1, h2⟩ := List.pairwise_cons.1 h
    unfold addP
    by_cases e1 : key x = key e
    · rw [if_pos e1]
      exact List.pairwise_cons.2 ⟨h1, h2⟩
    · rw [if_neg e1]
      refine List.pairwise_cons.2 ⟨fun y hy => ?_, addP_apart h2⟩
      rcases addP_keys hy with h3 | ⟨z, hz, e3⟩
      · rw [h3]; exact e1
      · rw [← e3]; exact h1 z hz
theorem addP_wt {e : Ed} (k : Int × Int) : ∀ {l : List Ed}, wt k (addP l e) = wt k l + (if key e = k then e.2.2 else 0)
  | [] => by simp [addP, wt]
  | x :: l => by
    unfold addP
    by_cases e1 : key x = key e
    · rw [if_pos e1]
      have e3 : key (x.1, x.2.1, x.2.2 + e.2.2) = key x := rfl
      simp only [wt, e3, e1]
      split <;> omega
    · rw [if_neg e1]
      simp only [wt, addP_wt k (l := l)]
      omega
theorem foldR : ∀ (l : List Ed) (s : List Ed), Rising s → Rising (l.foldl (addR false) s) ∧ ∀ k, wt k (l.foldl (addR false) s) = wt k s + wt k l
  | [], s, h => ⟨h, fun k => by simp [wt]⟩
  | e :: l, s, h => by
    obtain ⟨h1, h2⟩ := foldR l (addR false s e) (addR_rising h)
    exact ⟨h1, fun k => by rw [List.foldl_cons, h2, addR_wt k h, wt]; omega⟩
theorem foldP : ∀ (l : List Ed) (s : List Ed), Apart s → Apart (l.foldl addP s) ∧ ∀ k, wt k (l.foldl addP s) = wt k s + wt k l
  | [], s, h => ⟨h, fun k => by simp [wt]⟩
  | e :: l, s, h => by
    obtain ⟨h1, h2⟩ := foldP l (addP s e) (addP_apart h)
    exact ⟨h1, fun k => by rw [List.foldl_cons, h2, addP_wt k, wt]; omega⟩
theorem mem_heavy {l : List Ed} (h : Apart l) (e : Ed) : e ∈ heavy l ↔ wt (key e) l = e.2.2 ∧ e.2.2 ≠ 0 := by
  unfold heavy
  rw [List.mem_filter, decide_eq_true_eq]
  constructor
  · rintro ⟨h1, h2⟩
    exact ⟨wt_mem h e h1, h2⟩
  · rintro ⟨h1, h2⟩
    refine ⟨?_, h2⟩
    by_cases hk : ∃ x ∈ l, key x = key e
    · obtain ⟨x, hx, e1⟩ := hk
      have e2 := wt_mem h x hx
      rw [e1, h1] at e2
      have : x = e := by
        unfold key at e1
        simp only [Prod.mk.injEq] at e1
        exact Prod.ext e1.1 (Prod.ext e1.2 e2.symm)
      rw [← this]; exact hx
    · rw [wt_away (fun x hx e1 => hk ⟨x, hx, e1⟩)] at h1
      omega
/-- Two rising lists of the same members are one. -/
theorem rising_eq : ∀ {l m : List Ed}, Rising l → Rising m → (∀ e, e ∈ l ↔ e ∈ m) → l = m
  | [], [], _, _, _ => rfl
  | [], y :: m, _, _, h => by have := (h y).2 (by simp); simp at this
  | x :: l, [], _, _, h => by have := (h x).1 (by simp); simp at this
  | x :: l, y :: m, h1, h2, h => by
    obtain ⟨a1, a2⟩ := List.pairwise_cons.1 h1
    obtain ⟨b1, b2⟩ := List.pairwise_cons.1 h2
    have e : x = y := by
      have hx := (h x).1 (by simp)
      have hy := (h y).2 (by simp)
      rcases List.mem_cons.1 hx with e | hx
      · exact e
      rcases List.mem_cons.1 hy with e | hy
      · exact e.symm
      exact absurd (before_trans (a1 y hy) (b1 x hx)) (before_irrefl _)
    subst e
    rw [rising_eq a2 b2 (fun e => ?_)]
    constructor
    · intro he
      rcases List.mem_cons.1 ((h e).1 (by simp [he])) with rfl | h3
      · exact absurd (a1 e he) (before_irrefl _)
      · exact h3
    · intro he
      rcases List.mem_cons.1 ((h e).2 (by simp [he])) with rfl | h3
      · exact absurd (b1 e he) (before_irrefl _)
      · exact h3
theorem heavy_sub {l : List Ed} : (heavy l).Sublist l := List.filter_sublist
theorem merged_rising (l : List Ed) : Rising (merged l) := ((foldR (ins l) [] List.Pairwise.nil).1).sublist heavy_sub
/-- What the program sorts is what the reference has. -/
theorem merge_same (l : List Ed) {m : List Ed} (hp : m.Perm (heavy (allP l))) (hs : Rising m) : m = merged l := by
  obtain ⟨r1, r2⟩ := foldR (ins l) [] List.Pairwise.nil
  obtain ⟨p1, p2⟩ := foldP (ins l) [] List.Pairwise.nil
  refine rising_eq hs (merged_rising l) (fun e => ?_)
  rw [hp.mem_iff]
  unfold allP merged allR
  rw [mem_heavy p1, mem_heavy r1.apart, p2, r2]
theorem wt_heavy (k : Int × Int) : ∀ l : List Ed, wt k (heavy l) = wt k l
  | [] => rfl
  | e :: l => by
    unfold heavy
    rw [List.filter_cons]
    by_cases h : e.2.2 = 0
    · rw [if_neg (by simpa using h)]
      have := wt_heavy k l
      unfold heavy at this
      simp only [wt, this, h]
      split <;> omega
    · rw [if_pos (by simpa using h)]
      have := wt_heavy k l
      unfold heavy at this
      simp only [wt, this]
theorem merged_wt (l : List Ed) (k : Int × Int) : wt k (merged l) = wt k (ins l) := by
  unfold merged
  rw [wt_heavy, show allR l = (ins l).foldl (addR false) [] from rfl, (foldR (ins l) [] List.Pairwise.nil).2]
  simp [wt]
end Edge
end Go.Proofs.YtjpfmkfikidgkaaGreat
