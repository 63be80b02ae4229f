/- Whether two slices hold the same numbers; slices that are only read. -/
import Derived.Test.YtjpfmkfikidgkaaGreatInts
import Derived.Test.YtjpfmkfikidgkaaGreatCode2
set_option linter.unusedVariables false
set_option linter.unusedSimpArgs false
namespace Go.Proofs.YtjpfmkfikidgkaaGreat
open Go.RowKit
namespace Code
theorem rd_cell {w : World} {xs : List Int} {k c : Nat} {a : Option Addr} (h : Rd w 1 (.slice a xs.length c) xs.length (vi64 xs)) (hk : k < xs.length) : ∃ g o, a = some ⟨g, o, none⟩ ∧ w.cell? ⟨g, o + k, none⟩ = some (.int .i64 (xs.getD k 0)) := by
  obtain ⟨g, o, rfl, _, _, hc⟩ := h.at (by rw [vi64_len]; omega)
  refine ⟨g, o, rfl, hc k _ (vi64_get ?_)⟩
  simp [List.getElem?_eq_getElem hk, List.getD_eq_getElem?_getD]
set_option maxHeartbeats 1000000 in
theorem ints_rd {w : World} {va vb : Value} {xs ys : List Int} (ha : Rd w 1 va xs.length (vi64 xs)) (hb : Rd w 1 vb ys.length (vi64 ys)) :
    Calls Tryz.prog 57 #[va, vb] w (BoolOut (eqI xs ys) w) := by
  obtain ⟨a1, c1, rfl⟩ := ha.val
  obtain ⟨a2, c2, rfl⟩ := hb.val
  have hm1 := ha.le
  by_cases hlen : xs.length = ys.length
  · have hd : ((xs.length : Int) != (ys.length : Int)) = false := by simp [hlen]
    have hout : (∀ k, k < xs.length → xs.getD k 0 = ys.getD k 0) → eqI xs ys = true := by
      intro h
      unfold eqI
      rw [decide_eq_true_eq]
      refine List.ext_getElem hlen fun i h1 h2 => ?_
      have := h i h1
      simpa [List.getD_eq_getElem?_getD, h1, h2] using this
    have hno : ∀ k, k < xs.length → xs.getD k 0 ≠ ys.getD k 0 → eqI xs ys = false := by
      intro k _ hne
      unfold eqI
      rw [decide_eq_false_iff_not]
      intro e; subst e; exact hne rfl
    have hout' := Lib.hid hout
    have hno' := Lib.hid hno
    have hlen' := Lib.hid hlen
    clear hout hno hlen
    go_enter Tryz.func57, Tryz.ntmps57
    go_wp2
    go_loopw [5] (fun i wr => ∃ k n : Nat, k ≤ xs.length ∧ i = .int .i64 k ∧ wr = w.drewN n ∧ ∀ j, j < k → xs.getD j 0 = ys.getD j 0) (fun i _ => xs.length - (intOf i).toNat)
    case atStart => exact ⟨0, 0, Nat.zero_le _, rfl, rfl, fun j hj => by omega⟩
    case round =>
      obtain ⟨k, n, hk, rfl, rfl, heq⟩ := hrel
      by_cases hlt : k < xs.length
      · obtain ⟨g1, o1, rfl, hc1⟩ := rd_cell ha hlt
        obtain ⟨g2, o2, rfl, hc2⟩ := rd_cell (k := k) hb (by rw [← hlen'.out]; exact hlt)
        have hlt2 : (k : Int) < ys.length := by have := hlen'.out; omega
        have hlt1 : (k : Int) < xs.length := by omega
        by_cases hx : xs.getD k 0 = ys.getD k 0
        · have hfin : ∀ j, j < k + 1 → xs.getD j 0 = ys.getD j 0 := by
            intro j hj
            rcases Nat.lt_or_ge j k with h | h
            · exact heq j h
            · rw [show j = k from by omega]; exact hx
          have hx' : (xs.getD k 0 != ys.getD k 0) = false := by rw [hx]; simp
          have hfin' := Lib.hid hfin
          generalize xs.getD k 0 = u at *
          generalize ys.getD k 0 = v at *
          clear hfin heq hx
          go_wp2
          go_quiet (fail)
          go_wp2
          go_roundw
          case rel => exact ⟨k + 1, _, by omega, by go_num, rfl, hfin'.out⟩
          case measure => simp [intOf]; omega
        · have hf := hno'.out k hlt hx
          have hx' : (xs.getD k 0 != ys.getD k 0) = true := by simpa using hx
          have hf' := Lib.hid hf
          generalize xs.getD k 0 = u at *
          generalize ys.getD k 0 = v at *
          clear hf heq hx
          go_wp2
          go_quiet (fail)
          go_wp2
          go_ret
          exact ⟨by rw [hf'.out]; rfl, _, World.drewN_drewN _ _ _⟩
      · have hk' : k = xs.length := by omega
        have hf := hout'.out (by rw [← hk']; exact heq)
        have hf' := Lib.hid hf
        clear hf heq hk'
        go_wp2
        go_ret
        exact ⟨by rw [hf'.out]; rfl, _, rfl⟩
  · have hd : ((xs.length : Int) != (ys.length : Int)) = true := by simp; omega
    have hf : eqI xs ys = false := by
      unfold eqI
      rw [decide_eq_false_iff_not]
      intro e; subst e; exact hlen rfl
    have hf' := Lib.hid hf
    clear hf hlen
    go_enter Tryz.func57, Tryz.ntmps57
    go_wp2
    go_ret
    exact ⟨by rw [hf'.out]; rfl, 0, rfl⟩
end Code
end Go.Proofs.YtjpfmkfikidgkaaGreat
