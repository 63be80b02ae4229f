/- The reference's edges: the same list? -/
import Derived.Test.YtjpfmkfikidgkaaGreatEdRow
import Derived.Laws.StructEq
set_option linter.unusedVariables false
set_option linter.unusedSimpArgs false
namespace Go.Proofs.YtjpfmkfikidgkaaGreat
open Go.RowKit
namespace Edge
theorem eqEd (a b : Ed) (w : World) : (Op.equalIn 10000 146 (.agg #[.int .i64 a.1, .int .i64 a.2.1, .int .i64 a.2.2]) (.agg #[.int .i64 b.1, .int .i64 b.2.1, .int .i64 b.2.2])).run Tryz.prog w = .ok (decide (a = b)) w := by
  obtain ⟨a1, a2, a3⟩ := a
  obtain ⟨b1, b2, b3⟩ := b
  have u1 := Tryz.underlying3
  have u2 := Tryz.underlying2
  have g1 := Tryz.isAgg3
  have g2 := Tryz.isAgg2
  have z1 := Tryz.sizeOf3
  have z2 := Tryz.sizeOf2
  have hS : Tryz.prog.underlying 146 = some (.struct (Tryz.prog.fieldsOf 146)) := by kernel_rfl
  have hp : Tryz.prog.stoodInHeld 146 = false := by kernel_rfl
  rw [show (10000 : Nat) = 9999 + 1 from rfl, run_equalIn_agg w 9999 146 _ _ hS hp]
  simp only [Program.fieldsOf, Tryz.underlying146]
  go_simp
  by_cases h1 : a1 = b1 <;> by_cases h2 : a2 = b2 <;> by_cases h3 : a3 = b3 <;> simp [h1, h2, h3]
theorem guardEd : Tryz.prog.eqGuardType Tryz.prog.depth 146 = false := by kernel_rfl
set_option maxRecDepth 100000 in
set_option maxHeartbeats 2000000 in
theorem rsame_any {w : World} {va vb : Value} {xs ys : List Ed} (ha : Rd w 3 va xs.length (flat encEd xs)) (hb : Rd w 3 vb ys.length (flat encEd ys)) :
    Calls Tryz.prog 91 #[va, vb] w fun e w' => e = .returned (.bool (decide (xs = ys))) ∧ Mod [] w w' := by
  obtain ⟨a1, c1, rfl⟩ := ha.val
  obtain ⟨a2, c2, rfl⟩ := hb.val
  have hle := ha.le
  have ha' := Lib.hid ha
  have hb' := Lib.hid hb
  clear ha hb
  obtain ⟨n1, hn1⟩ : ∃ n, xs.length = n := ⟨_, rfl⟩
  obtain ⟨n2, hn2⟩ : ∃ n, ys.length = n := ⟨_, rfl⟩
  have hn1' := Lib.hid hn1
  have hn2' := Lib.hid hn2
  rw [hn1] at hle
  rw [hn1, hn2]
  clear hn1 hn2
  by_cases hlen : n1 = n2
  · have hd : ((n1 : Int) != (n2 : Int)) = false := by simp [hlen]
    subst hlen
    go_enter Tryz.func91, Tryz.ntmps91
    go_wp2_with fail
    go_loopw [5] (fun i wr => ∃ k : Nat, k ≤ n1 ∧ i = .int .i64 k ∧ Hid (Mod [] w wr) ∧ Hid (xs.take k = ys.take k)) (fun i _ => n1 - (intOf i).toNat)
    case atStart => exact ⟨0, Nat.zero_le _, rfl, Lib.hid (Mod.refl _ _), Lib.hid (by simp)⟩
    case round =>
      obtain ⟨k, hk, rfl, hmod, heq⟩ := hrel
      by_cases hlt : k < n1
      · have hlt1 : (k : Int) < n1 := by omega
        have hk1 : k < xs.length := by rw [hn1'.out]; exact hlt
        have hk2 : k < ys.length := by rw [hn2'.out]; exact hlt
        obtain ⟨g1, o1, rfl, hg1, hc1⟩ := ed_cells ha'.out hk1
        obtain ⟨g2, o2, rfl, hg2, hc2⟩ := ed_cells hb'.out hk2
        obtain ⟨q0, q1, q2⟩ := hc1 wr hmod.out
        obtain ⟨r0, r1, r2⟩ := hc2 wr hmod.out
        have hgl1 := Nat.lt_of_lt_of_le hg1 hmod.out.size
        have hgl2 := Nat.lt_of_lt_of_le hg2 hmod.out.size
        have hyes := Lib.hid (fun (h : xs[k] = ys[k]) => (show xs.take (k + 1) = ys.take (k + 1) by rw [List.take_succ_eq_append_getElem hk1, List.take_succ_eq_append_getElem hk2, heq.out, h]))
        have hno := Lib.hid (fun (h : xs[k] ≠ ys[k]) => (show decide (xs = ys) = false by
          rw [decide_eq_false_iff_not]; intro e; subst e; exact h rfl))
        generalize xs[k] = x at *
        generalize ys[k] = y at *
        obtain ⟨xu, xv, xw⟩ := x
        obtain ⟨yu, yv, yw⟩ := y
        simp only at q0 q1 q2 r0 r1 r2
        clear hc1 hc2 hg1 hg2 hk1 hk2
        by_cases hxy : ((xu, xv, xw) : Ed) = (yu, yv, yw)
        · have hy2 := Lib.hid (hyes.out hxy)
          have hgd := guardEd
          have t : ∀ w, _ = Result.ok _ w := fun w => eqEd (xu, xv, xw) (yu, yv, yw) w
          rw [show decide (((xu, xv, xw) : Ed) = (yu, yv, yw)) = true by rw [hxy]; simp] at t
          simp only at t
          clear hxy
          clear hyes hno
          go_wp2_with fail
          go_quiet (fail)
          go_wp2_with fail
          go_roundw
          case rel => exact ⟨k + 1, by omega, by go_num, Lib.hid (hmod.out.drewN _), hy2⟩
          case measure => simp [intOf]; omega
        · have hn := Lib.hid (hno.out hxy)
          have hgd := guardEd
          have t : ∀ w, _ = Result.ok _ w := fun w => eqEd (xu, xv, xw) (yu, yv, yw) w
          rw [show decide (((xu, xv, xw) : Ed) = (yu, yv, yw)) = false by simpa using hxy] at t
          simp only at t
          clear hxy
          clear hyes hno
          go_wp2_with fail
          go_quiet (fail)
          go_wp2_with fail
          go_ret
          rw [hn.out]
          exact ⟨rfl, hmod.out.drewN _⟩
      · obtain rfl : k = n1 := by omega
        have hy : decide (xs = ys) = true := by
          rw [decide_eq_true_eq]
          have := heq.out
          rw [List.take_of_length_le (by rw [hn1'.out]; exact Nat.le_refl _), List.take_of_length_le (by rw [hn2'.out]; exact Nat.le_refl _)] at this
          exact this
        have hy' := Lib.hid hy
        clear hy heq
        go_wp2_with fail
        go_ret
        rw [hy'.out]
        exact ⟨rfl, hmod.out⟩
  · have hd : ((n1 : Int) != (n2 : Int)) = true := by simp; omega
    have hno := Lib.hid (show decide (xs = ys) = false by
      rw [decide_eq_false_iff_not]; intro e; subst e; exact hlen (hn1'.out.symm.trans hn2'.out))
    clear hlen
    go_enter Tryz.func91, Tryz.ntmps91
    go_wp2_with fail
    go_ret
    rw [hno.out]
    exact ⟨rfl, Mod.refl _ _⟩
end Edge
end Go.Proofs.YtjpfmkfikidgkaaGreat
