/- The reference's Check of a side (straitref21). -/
import Derived.Test.YtjpfmkfikidgkaaGreatSide21
import Derived.BigQuiet
set_option linter.unusedVariables false
set_option linter.unusedSimpArgs false
namespace Go.Proofs.YtjpfmkfikidgkaaGreat
open Go.RowKit
namespace Side
open Go.Proofs.YtjpfmkfikidgkaaGreat.Code
theorem okC_lt {n : Int} {l : List Int} {k : Nat} (h : l.getD k 0 < 0) : okC n l k = false := by
  unfold okC
  rw [decide_eq_false (show ¬ 0 ≤ l.getD k 0 by omega)]; rfl
theorem okC_ge {n : Int} {l : List Int} {k : Nat} (h : n ≤ l.getD k 0) : okC n l k = false := by
  unfold okC
  rw [decide_eq_false (show ¬ l.getD k 0 < n by omega)]; simp
theorem okC_le {n : Int} {l : List Int} {k : Nat} (h0 : k ≠ 0) (h : l.getD k 0 ≤ l.getD (k - 1) 0) : okC n l k = false := by
  unfold okC
  rw [decide_eq_false (show ¬ l.getD (k - 1) 0 < l.getD k 0 by omega), show (k == 0) = false by simpa using h0]; simp
theorem okC_yes {n : Int} {l : List Int} {k : Nat} (h1 : ¬ l.getD k 0 < 0) (h2 : ¬ n ≤ l.getD k 0) (h3 : k = 0 ∨ ¬ l.getD k 0 ≤ l.getD (k - 1) 0) : okC n l k = true := by
  unfold okC
  simp only [Bool.and_eq_true, decide_eq_true_eq, Bool.or_eq_true, beq_iff_eq]
  omega
set_option maxHeartbeats 4000000 in
theorem rchk21_any {w : World} {v : Value} (n : Int) (l : List Int) (h : Rd w 1 v l.length (vi64 l)) :
    Calls Tryz.prog 128 #[.int .i64 n, v] w fun e w' => e = .returned (.int .i64 (checkC n l)) ∧ Mod [] w w' := by
  obtain ⟨a1, c1, rfl⟩ := h.val
  have hm1 := h.le
  have h' := Lib.hid h
  clear h
  go_enter Tryz.func128, Tryz.ntmps128
  go_wp2
  go_loopw [5] (fun i wr => ∃ k nq : Nat, k ≤ l.length ∧ i = .int .i64 k ∧ wr = w.drewN nq ∧ ∀ j, j < k → okC n l j = true) (fun i _ => l.length - (intOf i).toNat)
  case atStart => exact ⟨0, 0, Nat.zero_le _, rfl, rfl, fun j hj => by omega⟩
  case round =>
    obtain ⟨k, nq, hk, rfl, rfl, hall⟩ := hrel
    by_cases hlt : k < l.length
    · obtain ⟨g1, o1, rfl, hc1⟩ := rd_cell h'.out hlt
      have hlt1 : (k : Int) < l.length := by omega
      by_cases q1 : l.getD k 0 < 0
      · have hno' := Lib.hid (allC_no hlt (okC_lt (n := n) q1))
        have t1 : decide (l.getD k 0 < 0) = true := by simpa using q1
        clear hall q1
        generalize l.getD k 0 = u at *
        go_wp2
        go_quiet (fail)
        go_wp2
        go_ret
        exact ⟨by rw [hno'.out]; rfl, ((Mod.refl [] w).drewN _).drewN _⟩
      · have t1 : decide (l.getD k 0 < 0) = false := by simpa using q1
        by_cases q2 : n ≤ l.getD k 0
        · have hno' := Lib.hid (allC_no hlt (okC_ge q2))
          have t2 : decide (n ≤ l.getD k 0) = true := by simpa using q2
          clear hall q1 q2
          generalize l.getD k 0 = u at *
          go_wp2
          go_quiet (fail)
          go_wp2
          go_ret
          exact ⟨by rw [hno'.out]; rfl, ((Mod.refl [] w).drewN _).drewN _⟩
        · have t2 : decide (n ≤ l.getD k 0) = false := by simpa using q2
          by_cases hk0 : k = 0
          · subst hk0
            have hfin := Lib.hid (show ∀ j, j < 0 + 1 → okC n l j = true from fun j hj => by
              rw [show j = 0 by omega]
              exact okC_yes q1 q2 (.inl rfl))
            have t3 : decide ((0 : Int) < ((0 : Nat) : Int)) = false := by simp
            simp only [Nat.add_zero] at hc1
            clear hall q1 q2
            generalize l.getD 0 0 = u at *
            go_wp2
            go_quiet (fail)
            go_wp2
            go_roundw
            case rel => exact ⟨1, _, by omega, by simp, rfl, hfin.out⟩
            case measure => simp [intOf]; omega
          · have hlt2 : k - 1 < l.length := by omega
            have hyc := (h'.out).cellAt (k - 1) (vi64_get (l := l) (x := l.getD (k - 1) 0) (by simp [List.getD_eq_getElem?_getD, List.getElem?_eq_getElem hlt2]))
            have t3 : decide (0 < (k : Int)) = true := by simp; omega
            have t3' : decide (0 < k) = true := by simp; omega
            have hkp : 1 ≤ k := by omega
            have hkk : ((k : Int) - 1).toNat = k - 1 := by omega
            have hw1 : IntKind.i64.wrap ((k : Int) - 1) = (k : Int) - 1 := IntWalk.i64_in _ (by omega)
            have hw2 : 0 ≤ (k : Int) - 1 := by omega
            have hw3 : (k : Int) - 1 < l.length := by omega
            have hw4 : k - 1 < l.length := by omega
            by_cases q3 : l.getD k 0 ≤ l.getD (k - 1) 0
            · have hno' := Lib.hid (allC_no hlt (okC_le (n := n) hk0 q3))
              have t4 : decide (l.getD k 0 ≤ l.getD (k - 1) 0) = true := by simpa using q3
              clear hall q1 q2 q3 hk0 hlt2
              generalize l.getD k 0 = u at *
              generalize l.getD (k - 1) 0 = y at *
              go_wp2
              go_quiet (fail)
              clear hkk hw1 hw2 hw3 hw4
              go_wp2
              go_ret
              exact ⟨by rw [hno'.out]; rfl, ((Mod.refl [] w).drewN _).drewN _⟩
            · have t4 : decide (l.getD k 0 ≤ l.getD (k - 1) 0) = false := by simpa using q3
              have hfin := Lib.hid (show ∀ j, j < k + 1 → okC n l j = true from fun j hj => by
                rcases Nat.lt_or_ge j k with h | h
                · exact hall j h
                · rw [show j = k by omega]
                  exact okC_yes q1 q2 (.inr q3))
              clear hall q1 q2 q3 hk0 hlt2
              generalize l.getD k 0 = u at *
              generalize l.getD (k - 1) 0 = y at *
              go_wp2
              go_quiet (fail)
              clear hkk hw1 hw2 hw3 hw4
              go_wp2
              go_roundw
              case rel => exact ⟨k + 1, _, by omega, by go_num, rfl, hfin.out⟩
              case measure => simp [intOf]; omega
    · have hk' : k = l.length := by omega
      have ha := allC_yes (by rw [← hk']; exact hall)
      have hc : checkC n l = if l.length = 0 ∨ (l.length : Int) = n then 16 else 0 := by unfold checkC; rw [ha]; rfl
      have hc' := Lib.hid hc
      clear hall hc ha
      by_cases h0 : l.length = 0
      · have q : ((l.length : Int) == 0) = true := by simp [h0]
        rw [if_pos (Or.inl h0)] at hc'
        clear h0
        go_wp2
        go_ret
        exact ⟨by rw [hc'.out]; rfl, (Mod.refl [] w).drewN _⟩
      · have q : ((l.length : Int) == 0) = false := by simpa using h0
        by_cases h1 : (l.length : Int) = n
        · have q2 : ((l.length : Int) == n) = true := by simpa using h1
          rw [if_pos (Or.inr h1)] at hc'
          clear h0 h1
          go_wp2
          go_ret
          exact ⟨by rw [hc'.out]; rfl, (Mod.refl [] w).drewN _⟩
        · have q2 : ((l.length : Int) == n) = false := by simpa using h1
          rw [if_neg (by simp [h0, h1])] at hc'
          clear h0 h1
          go_wp2
          go_ret
          exact ⟨by rw [hc'.out]; rfl, (Mod.refl [] w).drewN _⟩
end Side
end Go.Proofs.YtjpfmkfikidgkaaGreat
