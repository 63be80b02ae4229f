/- cmp.Or. -/
import Derived.Test.YtmkbinbggiocaaaMul64
set_option linter.unusedVariables false
set_option linter.unusedSimpArgs false
namespace Go.Proofs.Ytmkbinbggiocaaa
open Go.RowKit
namespace Ratio
open Go.Proofs.Ytmkbinbggiocaaa.Code
def orI : List Int → Int
  | [] => 0
  | x :: r => if x = 0 then orI r else x
theorem orI_zero : ∀ (l : List Int), (∀ k, k < l.length → l.getD k 0 = 0) → orI l = 0
  | [], _ => rfl
  | x :: r, h => by
    have h0 := h 0 (by simp)
    simp only [List.getD_cons_zero] at h0
    rw [orI, if_pos h0]
    exact orI_zero r (fun k hk => by have := h (k + 1) (by simp; omega); simpa using this)
theorem orI_at : ∀ (l : List Int) (k : Nat), k < l.length → (∀ j, j < k → l.getD j 0 = 0) → l.getD k 0 ≠ 0 → orI l = l.getD k 0
  | [], k, hk, _, _ => by simp at hk
  | x :: r, 0, _, _, hn => by
    simp only [List.getD_cons_zero] at hn ⊢
    rw [orI, if_neg hn]
  | x :: r, k + 1, hk, h, hn => by
    have h0 := h 0 (by omega)
    simp only [List.getD_cons_zero] at h0
    rw [orI, if_pos h0]
    simp only [List.getD_cons_succ] at hn ⊢
    exact orI_at r k (by simpa using hk) (fun j hj => by have := h (j + 1) (by omega); simpa using this) hn
set_option maxHeartbeats 1000000 in
theorem or_any {w : World} {v : Value} (l : List Int) (h : Rd w 1 v l.length (vi64 l)) :
    Calls Try.prog 126 #[v] w fun e w' => e = .returned (.int .i64 (orI l)) ∧ w' = w := by
  obtain ⟨a1, c1, rfl⟩ := h.val
  have hm1 := h.le
  have h' := Lib.hid h
  clear h
  go_enter Try.func126, Try.ntmps126
  go_wp2
  go_loopw [8] (fun i wr => ∃ k : Nat, k ≤ l.length ∧ i = .int .i64 k ∧ wr = w ∧ ∀ j, j < k → l.getD j 0 = 0) (fun i _ => l.length - (intOf i).toNat)
  case atStart => exact ⟨0, Nat.zero_le _, rfl, rfl, fun j hj => by omega⟩
  case round =>
    obtain ⟨k, hk, rfl, rfl, hall⟩ := hrel
    by_cases hlt : k < l.length
    · obtain ⟨g1, o1, rfl, hc1⟩ := rd_cell h'.out hlt
      have hlt1 : (k : Int) < l.length := by omega
      by_cases h0 : l.getD k 0 = 0
      · have hfin := Lib.hid (show ∀ j, j < k + 1 → l.getD j 0 = 0 from fun j hj => by
          rcases Nat.lt_or_ge j k with h | h
          · exact hall j h
          · rw [show j = k by omega]; exact h0)
        have q : (l.getD k 0 != 0) = false := by rw [h0]; rfl
        clear hall h0
        generalize l.getD k 0 = u at *
        go_wp2
        go_roundw
        case rel => exact ⟨k + 1, by omega, by go_num, by first | rfl | trivial, hfin.out⟩
        case measure => simp [intOf]; omega
      · have hfin := Lib.hid (orI_at l k hlt hall h0)
        have q : (l.getD k 0 != 0) = true := bne_iff_ne.2 h0
        clear hall h0
        generalize l.getD k 0 = u at *
        go_wp2
        go_ret
        exact ⟨by rw [hfin.out]; rfl, rfl⟩
    · have hk' : k = l.length := by omega
      have hfin := Lib.hid (orI_zero l (by rw [← hk']; exact hall))
      clear hall
      go_wp2
      go_ret
      exact ⟨by rw [hfin.out]; rfl, rfl⟩
end Ratio
end Go.Proofs.Ytmkbinbggiocaaa
