/- Where a pair stands among the edges so far. -/
import Derived.Test.YtjpfmkfikidgkaaGreatNetLaw
set_option linter.unusedVariables false
set_option linter.unusedSimpArgs false
namespace Go.Proofs.YtjpfmkfikidgkaaGreat
namespace Edge
def posAt (k : Int × Int) : Nat → List Ed → Option Int
  | _, [] => none
  | i, e :: l => if key e = k then some i else posAt k (i + 1) l
theorem pos_none {e : Ed} : ∀ {l : List Ed} {i : Nat}, posAt (key e) i l = none → addP l e = l ++ [e]
  | [], _, _ => rfl
  | x :: l, i, h => by
    unfold posAt at h
    by_cases c : key x = key e
    · rw [if_pos c] at h; cases h
    · rw [if_neg c] at h
      unfold addP
      rw [if_neg c, pos_none h]
      rfl
theorem pos_some {e : Ed} {c : Int} : ∀ {l : List Ed} {i : Nat}, posAt (key e) i l = some c → ∃ (j : Nat) (hj : j < l.length), c = ((i + j : Nat) : Int) ∧ key l[j] = key e ∧ addP l e = l.set j (l[j].1, l[j].2.1, l[j].2.2 + e.2.2)
  | [], _, h => by cases h
  | x :: l, i, h => by
    unfold posAt at h
    unfold addP
    by_cases c1 : key x = key e
    · rw [if_pos c1] at h
      rw [if_pos c1]
      simp only [Option.some.injEq] at h
      exact ⟨0, by simp, by omega, c1, rfl⟩
    · rw [if_neg c1] at h
      rw [if_neg c1]
      obtain ⟨j, hj, h1, h2, h3⟩ := pos_some h
      exact ⟨j + 1, by simp; omega, by omega, h2, by rw [h3]; rfl⟩
theorem pos_snoc {k : Int × Int} {e : Ed} : ∀ {l : List Ed} {i : Nat}, posAt k i (l ++ [e]) = match posAt k i l with | some c => some c | none => if key e = k then some ((i + l.length : Nat) : Int) else none
  | [], i => by simp [posAt]
  | x :: l, i => by
    simp only [List.cons_append, posAt, List.length_cons]
    by_cases c : key x = k
    · rw [if_pos c, if_pos c]
    · rw [if_neg c, if_neg c, pos_snoc, show i + 1 + l.length = i + (l.length + 1) by omega]
theorem pos_set {k : Int × Int} {e : Ed} : ∀ {l : List Ed} {i j : Nat} (hj : j < l.length), key e = key l[j] → posAt k i (l.set j e) = posAt k i l
  | [], _, j, hj, _ => by simp at hj
  | x :: l, i, 0, hj, h => by
    simp only [List.getElem_cons_zero] at h
    simp only [List.set_cons_zero, posAt, h]
  | x :: l, i, j + 1, hj, h => by
    simp only [List.length_cons] at hj
    simp only [List.getElem_cons_succ] at h
    simp only [List.set_cons_succ, posAt]
    rw [pos_set (by omega) h]
/-- What the program has of the first k edges. -/
def soFar (l : List Ed) (k : Nat) : List Ed := (ins (l.take k)).foldl addP []
theorem soFar_loop {l : List Ed} {k : Nat} (hk : k < l.length) (h : l[k].1 = l[k].2.1) : soFar l (k + 1) = soFar l k := by
  unfold soFar ins
  rw [List.take_succ_eq_append_getElem hk, List.filter_append]
  simp [h]
theorem soFar_step {l : List Ed} {k : Nat} (hk : k < l.length) (h : l[k].1 ≠ l[k].2.1) : soFar l (k + 1) = addP (soFar l k) (norm l[k]) := by
  unfold soFar ins
  rw [List.take_succ_eq_append_getElem hk, List.filter_append]
  simp [h]
theorem soFar_all (l : List Ed) : soFar l l.length = allP l := by unfold soFar allP; rw [List.take_length]
theorem addP_len {e : Ed} : ∀ {l : List Ed}, (addP l e).length ≤ l.length + 1
  | [] => by simp [addP]
  | x :: l => by
    unfold addP
    by_cases c : key x = key e
    · rw [if_pos c]; simp
    · rw [if_neg c]; have := addP_len (e := e) (l := l); simp only [List.length_cons]; omega
theorem addP_w {e : Ed} {B C : Int} (he : 0 ≤ e.2.2 ∧ e.2.2 ≤ C) (hB : 0 ≤ B) : ∀ {l : List Ed}, (∀ x ∈ l, 0 ≤ x.2.2 ∧ x.2.2 ≤ B) → ∀ x ∈ addP l e, 0 ≤ x.2.2 ∧ x.2.2 ≤ B + C
  | [], _, x, hx => by
    simp only [addP, List.mem_singleton] at hx
    subst hx
    omega
  | y :: l, h, x, hx => by
    have hy := h y (by simp)
    unfold addP at hx
    by_cases c : key y = key e
    · rw [if_pos c] at hx
      rcases List.mem_cons.1 hx with rfl | hx
      · simp only; omega
      · have := h x (List.mem_cons_of_mem _ hx); omega
    · rw [if_neg c] at hx
      rcases List.mem_cons.1 hx with rfl | hx
      · omega
      · exact addP_w he hB (fun z hz => h z (List.mem_cons_of_mem _ hz)) x hx
theorem soFar_len (l : List Ed) : ∀ k, (soFar l k).length ≤ k
  | 0 => by simp [soFar, ins]
  | k + 1 => by
    by_cases hk : k < l.length
    · have ih := soFar_len l k
      by_cases h : l[k].1 = l[k].2.1
      · rw [soFar_loop hk h]; omega
      · rw [soFar_step hk h]
        have := addP_len (e := norm l[k]) (l := soFar l k)
        omega
    · have ih := soFar_len l k
      have : soFar l (k + 1) = soFar l k := by unfold soFar; rw [List.take_of_length_le (by omega), List.take_of_length_le (by omega)]
      rw [this]; omega
theorem soFar_w {l : List Ed} (hl : ∀ e ∈ l, 0 ≤ e.2.2 ∧ e.2.2 ≤ 2147483648) : ∀ k, ∀ x ∈ soFar l k, 0 ≤ x.2.2 ∧ x.2.2 ≤ 2147483648 * k
  | 0 => by simp [soFar, ins]
  | k + 1 => by
    by_cases hk : k < l.length
    · have ih := soFar_w hl k
      by_cases h : l[k].1 = l[k].2.1
      · rw [soFar_loop hk h]
        intro x hx
        have := ih x hx
        omega
      · rw [soFar_step hk h]
        have he := hl l[k] (List.getElem_mem hk)
        have hn := norm_w l[k]
        intro x hx
        have := addP_w (e := norm l[k]) (B := 2147483648 * k) (C := 2147483648) (by omega) (by omega) ih x hx
        omega
    · have ih := soFar_w hl k
      have : soFar l (k + 1) = soFar l k := by unfold soFar; rw [List.take_of_length_le (by omega), List.take_of_length_le (by omega)]
      rw [this]
      intro x hx
      have := ih x hx
      omega
end Edge
end Go.Proofs.YtjpfmkfikidgkaaGreat
