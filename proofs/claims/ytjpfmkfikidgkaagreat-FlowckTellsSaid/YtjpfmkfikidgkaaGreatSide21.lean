/- Whether vertices may be a side: the program's way and the reference's. -/
import Derived.Test.YtjpfmkfikidgkaaGreatSame45
set_option linter.unusedVariables false
set_option linter.unusedSimpArgs false
namespace Go.Proofs.YtjpfmkfikidgkaaGreat
open Go.RowKit
namespace Code
def okC (n : Int) (l : List Int) (k : Nat) : Bool := decide (0 ≤ l.getD k 0) && decide (l.getD k 0 < n) && (k == 0 || decide (l.getD (k - 1) 0 < l.getD k 0))
def allC (n : Int) (l : List Int) : Bool := (List.range l.length).all (okC n l)
def checkC (n : Int) (l : List Int) : Int := if allC n l then (if l.length = 0 ∨ (l.length : Int) = n then 16 else 0) else 4
theorem allC_yes {n : Int} {l : List Int} (h : ∀ k, k < l.length → okC n l k = true) : allC n l = true := by
  unfold allC
  simp only [List.all_eq_true, List.mem_range]
  exact h
theorem allC_no {n : Int} {l : List Int} {k : Nat} (hk : k < l.length) (h : okC n l k = false) : checkC n l = 4 := by
  have : allC n l = false := by
    cases ha : allC n l with
    | false => rfl
    | true =>
      unfold allC at ha
      simp only [List.all_eq_true, List.mem_range] at ha
      have := ha k hk
      rw [h] at this; cases this
  unfold checkC
  rw [this]; rfl
def lastC (l : List Int) (k : Nat) : Int := if k = 0 then -1 else l.getD (k - 1) 0
theorem okC_eq {n : Int} {l : List Int} {k : Nat} (hla : -1 ≤ lastC l k) : okC n l k = (decide (lastC l k < l.getD k 0) && decide (l.getD k 0 < n)) ∨ ¬ 0 ≤ lastC l k ∧ k ≠ 0 := by
  by_cases h0 : k = 0
  · left
    subst h0
    have e : lastC l 0 = -1 := rfl
    rw [e]
    unfold okC
    generalize l.getD 0 0 = u
    rw [Bool.eq_iff_iff]
    simp only [Bool.and_eq_true, decide_eq_true_eq, Bool.or_eq_true, beq_iff_eq, true_or, and_true]
    omega
  · have e : lastC l k = l.getD (k - 1) 0 := by unfold lastC; rw [if_neg h0]
    by_cases hp : 0 ≤ lastC l k
    · left
      rw [e] at hp ⊢
      unfold okC
      generalize l.getD k 0 = u
      generalize l.getD (k - 1) 0 = v at *
      rw [Bool.eq_iff_iff]
      simp only [Bool.and_eq_true, decide_eq_true_eq, Bool.or_eq_true, beq_iff_eq]
      omega
    · exact .inr ⟨hp, h0⟩
theorem okC_now {n : Int} {l : List Int} {k : Nat} (hla : -1 ≤ lastC l k) (hall : ∀ j, j < k → okC n l j = true) : okC n l k = (decide (lastC l k < l.getD k 0) && decide (l.getD k 0 < n)) := by
  rcases okC_eq (n := n) hla with h | ⟨h, h0⟩
  · exact h
  · exfalso
    have hp := hall (k - 1) (by omega)
    unfold okC at hp
    simp only [Bool.and_eq_true, decide_eq_true_eq] at hp
    have e : lastC l k = l.getD (k - 1) 0 := by unfold lastC; rw [if_neg h0]
    rw [e] at h
    exact h hp.1.1
set_option maxHeartbeats 2000000 in
theorem check_prog {w : World} {v : Value} (n : Int) (l : List Int) (h : Rd w 1 v l.length (vi64 l)) :
    Calls Tryz.prog 185 #[.int .i64 n, v] w fun e w' => e = .returned (.int .i64 (checkC n l)) ∧ w' = w := by
  obtain ⟨a1, c1, rfl⟩ := h.val
  have hm1 := h.le
  have h' := Lib.hid h
  clear h
  go_enter Tryz.func185, Tryz.ntmps185
  go_wp2
  go_loopw [5, 10] (fun s i wr => ∃ k : Nat, k ≤ l.length ∧ s = .int .i64 (lastC l k) ∧ i = .int .i64 k ∧ wr = w ∧ -1 ≤ lastC l k ∧ ∀ j, j < k → okC n l j = true) (fun _ i _ => l.length - (intOf i).toNat)
  case atStart => exact ⟨0, Nat.zero_le _, rfl, rfl, rfl, by unfold lastC; simp, fun j hj => by omega⟩
  case round =>
    obtain ⟨k, hk, rfl, rfl, rfl, hla, hall⟩ := hrel
    by_cases hlt : k < l.length
    · obtain ⟨g1, o1, rfl, hc1⟩ := rd_cell h'.out hlt
      have hlt1 : (k : Int) < l.length := by omega
      have hok := okC_now hla hall
      have hnext : lastC l (k + 1) = l.getD k 0 := by unfold lastC; simp
      by_cases hg : lastC l k < l.getD k 0 ∧ l.getD k 0 < n
      · have hfin : ∀ j, j < k + 1 → okC n l j = true := fun j hj => by
          rcases Nat.lt_or_ge j k with h | h
          · exact hall j h
          · rw [show j = k by omega, hok, decide_eq_true hg.1, decide_eq_true hg.2]; rfl
        have hfin' := Lib.hid hfin
        obtain ⟨q1, q2⟩ := hg
        have hnext' := Lib.hid hnext
        clear hfin hall hok hnext
        generalize lastC l k = la at *
        generalize hu : l.getD k 0 = u at *
        clear hu
        go_wp2
        go_roundw
        case rel => exact ⟨k + 1, by omega, by rw [hnext'.out], by go_num, by first | rfl | trivial, by rw [hnext'.out]; omega, hfin'.out⟩
        case measure => simp [intOf]; omega
      · have hno : checkC n l = 4 := allC_no hlt (by rw [hok]; simp only [Bool.and_eq_false_iff, decide_eq_false_iff_not]; omega)
        have hno' := Lib.hid hno
        clear hall hok hnext hno
        by_cases q1 : lastC l k < l.getD k 0
        · have q2 : ¬ l.getD k 0 < n := fun q => hg ⟨q1, q⟩
          clear hg
          generalize lastC l k = la at *
          generalize l.getD k 0 = u at *
          go_wp2
          go_ret
          exact ⟨by rw [hno'.out]; rfl, rfl⟩
        · clear hg
          generalize lastC l k = la at *
          generalize l.getD k 0 = u at *
          go_wp2
          go_ret
          exact ⟨by rw [hno'.out]; rfl, rfl⟩
    · have hk' : k = l.length := by omega
      have ha := allC_yes (by rw [← hk']; exact hall)
      have hc : checkC n l = if l.length = 0 ∨ (l.length : Int) = n then 16 else 0 := by unfold checkC; rw [ha]; rfl
      have hc' := Lib.hid hc
      clear hall hc ha hla
      generalize lastC l k = la at *
      by_cases h0 : l.length = 0
      · have q : ((l.length : Int) == 0) = true := by simp [h0]
        rw [if_pos (Or.inl h0)] at hc'
        clear h0
        go_wp2
        go_ret
        exact ⟨by rw [hc'.out]; rfl, rfl⟩
      · have q : ((l.length : Int) == 0) = false := by simpa using h0
        by_cases h1 : (l.length : Int) = n
        · have q2 : ((l.length : Int) == n) = true := by simpa using h1
          rw [if_pos (Or.inr h1)] at hc'
          clear h0 h1
          go_wp2
          go_ret
          exact ⟨by rw [hc'.out]; rfl, rfl⟩
        · have q2 : ((l.length : Int) == n) = false := by simpa using h1
          rw [if_neg (by simp [h0, h1])] at hc'
          clear h0 h1
          go_wp2
          go_ret
          exact ⟨by rw [hc'.out]; rfl, rfl⟩
end Code
end Go.Proofs.YtjpfmkfikidgkaaGreat
