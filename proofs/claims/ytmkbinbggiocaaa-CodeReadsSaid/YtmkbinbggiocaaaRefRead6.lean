/- The reference's reader: Bits, the way through. -/
import Derived.Test.YtmkbinbggiocaaaRefRead5
set_option linter.unusedVariables false
set_option linter.unusedSimpArgs false
namespace Go.Proofs.Ytmkbinbggiocaaa
open Go.RowKit
namespace Code
theorem setTo_last (n : Int) (h0 : 0 ≤ n) (h1 : n ≤ 4096) (ys : List Int) : bitsOk n (setTo ys (8 * ys.length)) = lastOk n (setFrom 0 ys) := by
  have e := setTo_bytes ys ys.length (Nat.le_refl _)
  rw [List.take_length] at e
  have hr := setTo_rises ys (8 * ys.length)
  rw [e] at hr ⊢
  unfold bitsOk lastOk
  rw [rises_last n _ (-1) hr.1 (fun x hx => (hr.2 x hx).1)]
  cases (setFrom 0 ys).getLast? <;> simp [h0, h1]
theorem u8_and1 (y : Nat) (h : y < 256) : bits .and .u8 (y : Int) 1 = ((y % 2 : Nat) : Int) := by
  have := u8_and (y : Int) 1 (by omega) (by omega) (by omega) (by omega)
  rw [this]
  simp [Nat.and_one_is_mod]
theorem test_shift (x u : Nat) : (x / 2 ^ u) % 2 = if x.testBit u then 1 else 0 := by
  rw [Nat.testBit_eq_decide_div_mod_eq]
  split <;> simp_all
set_option maxRecDepth 100000 in
set_option maxHeartbeats 8000000 in
theorem xBits_main {w0 w : World} {r k : Nat} {vb : Value} {bs : List Int} (n : Int) (h : XAt w0 w r vb bs k false) (hbb : ∀ x ∈ bs, 0 ≤ x ∧ x < 256) (h0 : 0 ≤ n) (h1 : n ≤ 4096) (hs : wideN n ≤ bs.length - k) :
    Calls Try.prog 109 #[.pointer (some ⟨r, 0, none⟩), .int .i64 n] w (XBitsOut w0 w r vb bs k false n) := by
  obtain ⟨ab, cb, rfl⟩ := h.rd.val
  obtain ⟨hw1, hw2⟩ := wide_le n h0 h1
  have hle := h.le
  have hbig := h.big
  obtain ⟨a', c', hsl, hrd⟩ := slice_sub (P := Try.prog) 45 (by kernel_rfl) (fun w => by kernel_rfl) h.read k (wideN n) (by omega) k ((k : Int) + (n + 7) / 8) rfl (by rw [hw2]; omega)
  have hbx : Hid (∀ x ∈ (bs.drop k).take (wideN n), 0 ≤ x ∧ x < 256) := fun x hx => hbb x (List.mem_of_mem_drop (List.mem_of_mem_take hx))
  have hyl : ((bs.drop k).take (wideN n)).length = wideN n := by rw [List.length_take, List.length_drop]; omega
  have hlast := setTo_last n h0 h1 ((bs.drop k).take (wideN n))
  have hset := setTo_bytes ((bs.drop k).take (wideN n)) _ (Nat.le_refl _)
  rw [List.take_length] at hset
  have e1 : rBits bs k false n = if lastOk n (setFrom 0 ((bs.drop k).take (wideN n))) then (setFrom 0 ((bs.drop k).take (wideN n)), k + wideN n, false) else ([], k, true) := by
    unfold rBits
    rw [if_neg (by omega)]
    cases lastOk n (setFrom 0 ((bs.drop k).take (wideN n))) <;> simp
  generalize hys : (bs.drop k).take (wideN n) = ys at *
  rw [← hset] at e1 hlast
  have hkm : k + wideN n ≤ bs.length := by omega
  generalize hm : wideN n = m at *
  rw [hyl] at hlast hset e1
  have c0 := h.has.cell 0 rfl
  have c1 := h.has.cell 1 rfl
  have c2 := h.has.cell 2 rfl
  have hrl := h.has.lt
  have hw3 : IntKind.i64.wrap ((bs.length : Int) - (k : Int)) = (bs.length : Int) - (k : Int) := IntWalk.i64_in _ (by omega)
  have hw4 : IntKind.i64.wrap (n + 7) = n + 7 := IntWalk.i64_in _ (by omega)
  have hw5 : IntKind.i64.wrap ((k : Int) + (n + 7) / 8) = (k : Int) + (n + 7) / 8 := IntWalk.i64_in _ (by omega)
  have t1 : decide (n < 0) = false := by simp; omega
  have t2 : decide (4096 < n) = false := by simp; omega
  have t3 : decide ((bs.length : Int) - (k : Int) < (n + 7) / 8) = false := by rw [hw2]; simp; omega
  have hX := Lib.hid h
  have hrd' := Lib.hid hrd
  have hyl' := Lib.hid hyl
  have hlast' := Lib.hid hlast
  have e1' := Lib.hid e1
  clear h hbb hrd hyl hlast hset e1 hys hm hs
  clear hw2
  go_enter Try.func109, Try.ntmps109
  go_wp2_with fail
  go_quiet (fail)
  go_wp2_with fail
  go_quiet (fail)
  clear hw3 hw4 hw5 t1 t2 t3 hsl
  go_wp2_with fail
  go_loopw [6, 7] (fun ov vv wr => ∃ (u : Nat) (ao : Option Addr) (co : Nat), u ≤ 8 * m ∧ vv = .int .i64 u ∧ ov = .slice ao (setTo ys u).length co ∧ Made w wr 3 1 ao (setTo ys u).length co (vi64 (setTo ys u))) (fun ov vv _ => 8 * m - (intOf vv).toNat)
  case atStart => exact ⟨0, none, 0, Nat.zero_le _, rfl, rfl, Made.mk0 (((Mod.refl [] w).drewN _).drewN _) _ _⟩
  case round =>
    obtain ⟨u, ao, co, hu, rfl, rfl, hmd⟩ := hrel
    obtain ⟨wo, hwo⟩ : ∃ wo : World, wo = wr := ⟨_, rfl⟩
    clear hwo
    have hlen : (setTo ys u).length ≤ u := by unfold setTo; rw [List.length_map]; exact Nat.le_trans (List.length_filter_le _ _) (by simp)
    by_cases hlt : u < 8 * m
    · obtain ⟨x, hx⟩ : ∃ x, ys[u / 8]? = some x := ⟨ys[u / 8]'(by rw [hyl'.out]; omega), List.getElem?_eq_getElem _⟩
      have hxb := hbx.out x (List.mem_of_getElem? hx)
      obtain ⟨b0, rfl⟩ := Int.eq_ofNat_of_zero_le hxb.1
      have hb0 : b0 < 256 := by have := hxb.2; omega
      obtain ⟨g, o, rfl, _, _, hcell⟩ := (hrd'.out wr hmd.mod).at (by rw [u8s_length, hyl'.out]; omega)
      have hc := hcell (u / 8) _ (u8s_get hx)
      have hsucc := setTo_succ ys u
      have hgd : ys.getD (u / 8) 0 = (b0 : Int) := by rw [List.getD_eq_getElem?_getD, hx]; rfl
      rw [hgd, Int.toNat_natCast] at hsucc
      have hsucc' := Lib.hid hsucc
      have hts := Lib.hid (test_shift b0 (u % 8))
      have hq : b0 / 2 ^ (u % 8) < 256 := Nat.lt_of_le_of_lt (Nat.div_le_self _ _) hb0
      have hand := u8_and1 (b0 / 2 ^ (u % 8)) hq
      clear hcell hx hxb hgd hsucc
      have t1 : decide ((u : Int) < 8 * (m : Int)) = true := by simp; omega
      have t1' : decide (u < 8 * m) = true := by simp; omega
      have hcast : (b0 : Int) / 2 ^ (u % 8) = ((b0 / 2 ^ (u % 8) : Nat) : Int) := by simp
      rw [← hcast] at hand
      clear hcast
      cases htb : b0.testBit (u % 8) with
      | true =>
        have e2 := hts.out
        rw [htb] at e2
        have t2 : (bits BinOp.and IntKind.u8 ((b0 : Int) / 2 ^ (u % 8)) 1 == 1) = true := by rw [hand, e2]; rfl
        have hs1 := hsucc'.out
        rw [htb] at hs1
        simp only [if_true] at hs1
        have hs1' := Lib.hid hs1
        clear hand e2 htb hts hs1 hsucc'
        go_wp2_with (at_builtin; refine app_own rfl (.tmp 74) (.tmp 76) 36 3 _ 1 8 rfl Try.underlying36 infoInt rfl (by omega) (by omega) (.slice ao (setTo ys u).length co) (setTo ys u).length 1 (vi64 (setTo ys u)) [.int .i64 u] rfl rfl (by simp) rfl (by simp [Value.oneCell']) hmd.own (by omega) ?_; intro aA cA wA hA mA vA)
        go_roundw
        case rel =>
          refine ⟨u + 1, aA, cA, by omega, by go_num, by rw [hs1'.out]; simp, ?_⟩
          have := hmd.push hA mA vA
          rw [hs1'.out, List.length_append]
          rw [show vi64 (setTo ys u ++ [(u : Int)]) = vi64 (setTo ys u) ++ [.int .i64 (u : Int)] from by simp [vi64]]
          exact this
        case measure => simp [intOf]; omega
      | false =>
        have e2 := hts.out
        rw [htb] at e2
        have t2 : (bits BinOp.and IntKind.u8 ((b0 : Int) / 2 ^ (u % 8)) 1 == 1) = false := by rw [hand, e2]; rfl
        have hs1 := hsucc'.out
        rw [htb] at hs1
        simp only [Bool.false_eq_true, if_false, List.append_nil] at hs1
        have hs1' := Lib.hid hs1
        clear hand e2 htb hts hs1 hsucc'
        go_wp2_with fail
        go_roundw
        case rel => exact ⟨u + 1, ao, co, by omega, by go_num, by rw [hs1'.out], by rw [hs1'.out]; exact hmd⟩
        case measure => simp [intOf]; omega
    · have hum : 8 * m = u := by omega
      have t1 : decide ((u : Int) < 8 * (m : Int)) = false := by simp; omega
      have t1' : decide (u < 8 * m) = false := by simpa using hlt
      have hlast2 := hlast'.out
      have e2 := e1'.out
      rw [hum] at hlast2 e2
      have hum' := Lib.hid hum
      clear hum hlt hlast' e1'
      generalize setTo ys u = O at *
      have hcall := Lib.hid (refBits_any n O (Rd.own hmd.own))
      have hmd' := Lib.hid hmd
      have hX1 := hX.out.still hmd.mod
      cases hok : lastOk n O with
      | true =>
        rw [hok] at hlast2 e2
        have hX1' := Lib.hid hX1
        have hlast3 := Lib.hid hlast2
        have e3 := Lib.hid e2
        clear hlast2 e2 hok hX1 hmd c0 c1 c2
        go_wp2_with fail
        refine hcall.out.mono ?_
        intro e w3 h3
        unfold RefBitsOut at h3
        rw [hlast3.out] at h3
        simp only [if_true] at h3
        obtain ⟨aB, cB, rfl, hB⟩ := h3
        dsimp only
        have hX3 := hX1'.out.still hB.mod
        have d0 := hX3.has.cell 0 rfl
        have d1 := hX3.has.cell 1 rfl
        have f1 := hX3.has.free 1
        have hl3 := hX3.has.lt
        have hkm' : k + m ≤ bs.length := hkm
        have hgo := hX3.go (k + m) hkm'
        have hfin : ∀ w4, w4 = w3.setCell ⟨r, 1, none⟩ (.int .i64 ((k + m : Nat) : Int)) → XBitsOut w0 w r (.slice ab bs.length cb) bs k false n (.returned (.slice ao O.length co)) w4 := fun w4 e => by
          subst e
          have hmw : Mod [r] w (w3.setCell ⟨r, 1, none⟩ (.int .i64 ((k + m : Nat) : Int))) := trM r _ _ _ ((hmd'.out.mod.of0 (F := [r])).trans hB.mod (by simp)) hgo.2
          unfold XBitsOut
          rw [e3.out]
          simp only [if_true]
          refine ⟨_, rfl, ?_, fun g hg => hmd'.out.new g hg, hgo.1, hmw⟩
          refine ((Rd.own hmd'.out.own).still hB.mod).keep hgo.2 (fun g hg hm => ?_)
          have h1 := hmd'.out.new g hg
          have h2 := hX.out.has.lt
          simp only [List.mem_singleton] at hm
          omega
        have hfin' := Lib.hid hfin
        clear hX3 hgo hfin hB
        go_wp2_with fail
        go_ret
        exact hfin'.out _ (by go_num)
      | false =>
        rw [hok] at hlast2 e2
        have hX1' := Lib.hid hX1
        have hlast3 := Lib.hid hlast2
        have e3 := Lib.hid e2
        clear hlast2 e2 hok hX1 hmd c0 c1 c2
        go_wp2_with fail
        refine hcall.out.mono ?_
        intro e w3 h3
        unfold RefBitsOut at h3
        rw [hlast3.out] at h3
        simp only [Bool.false_eq_true, if_false] at h3
        obtain ⟨rfl, hB⟩ := h3
        dsimp only
        have hX3 := hX1'.out.still hB
        have d2 := hX3.has.cell 2 rfl
        have f2 := hX3.has.free 2
        have hl3 := hX3.has.lt
        have hh := hX3.halt
        have hfin : ∀ w4, w4 = w3.setCell ⟨r, 2, none⟩ (.bool true) → XBitsOut w0 w r (.slice ab bs.length cb) bs k false n (.returned (.slice none 0 0)) w4 := fun w4 e => by
          subst e
          have hmw : Mod [r] w (w3.setCell ⟨r, 2, none⟩ (.bool true)) := trM r _ _ _ ((hmd'.out.mod.of0 (F := [r])).trans hB (by simp)) hh.2
          exact xBits_no (by rw [e3.out]; simp) hh.1 hmw
        have hfin' := Lib.hid hfin
        clear hX3 hh hfin hB
        go_wp2_with fail
        go_ret
        exact hfin'.out _ rfl
theorem xBits {w0 w : World} {r k : Nat} {vb : Value} {bs : List Int} {stop : Bool} (n : Int) (h : XAt w0 w r vb bs k stop) (hbb : ∀ x ∈ bs, 0 ≤ x ∧ x < 256) :
    Calls Try.prog 109 #[.pointer (some ⟨r, 0, none⟩), .int .i64 n] w (XBitsOut w0 w r vb bs k stop n) := by
  by_cases hs : n < 0 ∨ 4096 < n ∨ stop = true ∨ bs.length - k < wideN n
  · exact xBits_stop n h hs
  · have hst : stop = false := by cases stop <;> simp_all
    subst hst
    exact xBits_main n h hbb (by omega) (by omega) (by omega)
end Code
end Go.Proofs.Ytmkbinbggiocaaa
