/- CsrPairs: each arc leads out of its tail, once; what leads back leads back. -/
import Derived.Test.YtkhbnopmeapfjaaAwake19
import Derived.Test.YtkhbnopmeapfjaaPairsLaw
import Derived.Laws.EntriesVeiled
set_option linter.unusedVariables false
set_option linter.unusedSimpArgs false
namespace Go.Proofs.Ytkhbnopmeapfjaa
open Go.RowKit
namespace Edge
theorem newE_bad2 {n : Int} {l : List Ed} (h : newE n l ≠ (0, 0)) : (newE n l).1 ≠ 0 := fun hz => h (by
  unfold newE at hz ⊢
  split at hz
  · cases hz
  · split at hz
    · cases hz
    · rw [if_neg (by assumption), if_neg (by assumption)]; exact checksE_at hz)
set_option maxRecDepth 100000 in
set_option maxHeartbeats 16000000 in
theorem pairs19_any (n : Nat) (hn : n ≤ 255) (i : Int) (hi : i ≤ 9223372036854775807) {l : List Ed} {vs : Value} {w : World} (h : Rd w 3 vs l.length (flat encEd l)) :
    Calls Try.prog 6 #[.int .u8 n, vs, .int .i64 i] w fun e w' => e = .returned (.bool true) ∧ Mod [] w w' := by
  obtain ⟨a, c, rfl⟩ := h.val
  have hle := h.le
  have haw := Lib.hid (fun w => awake19 w)
  have hnw := Lib.hid (new_net (n : Int) h)
  have hi' := Lib.hid hi
  clear h hi
  go_enter Try.func6, Try.ntmps6
  go_upto_region 4 with (first
    | (go_at_call 29; refine (an_nil _).mono ?_; rintro e w6 ⟨rfl, hw6⟩; subst w6)
    | (go_at_call 30; refine (alen_nil _).mono ?_; rintro e w6 ⟨rfl, hw6⟩; subst w6)
    | (go_at_call 31; refine (aout_nil 0 _).mono ?_; rintro e w6 ⟨rfl, hw6⟩; subst w6)
    | (go_at_call 32; refine (atail_nil i hi'.out _).mono ?_; rintro e w6 ⟨rfl, hw6⟩; subst w6)
    | (go_at_call 33; refine (ahead_nil i _).mono ?_; rintro e w6 ⟨rfl, hw6⟩; subst w6)
    | (go_at_call 34; refine (acap_nil i _).mono ?_; rintro e w6 ⟨rfl, hw6⟩; subst w6))
  by_cases hbig : 60 < l.length
  · have hbig1 : (60 : Int) < l.length := by omega
    go_wp2_with fail
    refine (haw.out _).mono ?_
    rintro e w1 ⟨rfl, hm⟩
    try dsimp only
    go_wp2_with fail
    go_ret
    exact ⟨rfl, hm⟩
  have hbig1 : ¬ (60 : Int) < l.length := by omega
  go_wp2_with fail
  refine hnw.out.mono ?_
  rintro e w1 hN
  rcases hN.out with ⟨hne, rfl, hm⟩ | ⟨he, b, rfl, hS⟩
  · have hz := newE_bad2 hne
    generalize (newE n l).1 = q at *
    generalize (newE n l).2 = q2 at *
    have hm1 := Lib.hid hm
    try dsimp only
    clear hN hne hnw hm
    have hz1 : (q == 0) = false := by simpa using hz
    have hz2 : (q != 0) = true := by simpa using hz
    clear hz
    go_wp2_with fail
    refine (haw.out _).mono ?_
    rintro e w4 ⟨rfl, hm4⟩
    try dsimp only
    go_wp2_with fail
    go_ret
    exact ⟨rfl, hm1.out.trans hm4 (by simp)⟩
  have hG := Lib.hid (new_ok he)
  rw [Int.toNat_natCast] at hG hS
  have hS1 := Lib.hid hS
  try dsimp only
  clear hN he hS hnw
  generalize merged l = L at *
  go_wp2_with fail
  refine (csr_net hS1.out hG.out).mono ?_
  rintro e w2 ⟨b2, rfl, hS2⟩
  have hS2' := Lib.hid hS2
  have hMl : L.length ≤ 1048576 := hG.out.len
  obtain ⟨m, hm⟩ : ∃ m, 2 * L.length = m := ⟨_, rfl⟩
  have hml : m ≤ 2097152 := by omega
  have hm' := Lib.hid hm
  have cl := alen_sep hS2
  rw [hm] at cl
  have cl' := Lib.hid cl
  have hmk := make_run (P := Try.prog) 29 3 (.int .i64 0) 8 Try.underlying29 infoI rfl (by omega) m (by omega)
  have hS3 := Lib.hid (hS2.made (made_made w2 3 (.int .i64 0) m (by omega)))
  clear hS2 hS1 cl hm
  try dsimp only
  go_wp2_with (go_at_call 30; refine cl'.out.mono ?_; rintro e w3 ⟨rfl, hw3⟩; subst w3)
  have hS4 := Lib.hid (show Sep w (w2.alloc (.cells (madeCells #[.int .i64 0] m) 3)) [Row 3 1 m (.slice (some ⟨w2.heap.size, 0, none⟩) m m) (i64s (cameL L 0 [])), ArcP b2 n L, NetP b n L] by
    rw [came_zero hG.out, hm'.out]
    have e : i64s (List.replicate m 0) = List.replicate m (.int .i64 0) := by simp [i64s]
    rw [e]
    exact hS3.out)
  clear hS3 hS2' cl' hmk
  generalize w2.alloc (.cells (madeCells #[.int .i64 0] m) 3) = w3 at *
  generalize w2.heap.size = gc at *
  go_loopw [13] (fun s13 wr => ∃ v : Nat, v ≤ n ∧ s13 = .int .i64 v ∧ Hid (Sep w wr [Row 3 1 m (.slice (some ⟨gc, 0, none⟩) m m) (i64s (cameL L v [])), ArcP b2 n L, NetP b n L])) (fun s13 _ => n - (intOf s13).toNat)
  case atStart => exact ⟨0, Nat.zero_le _, rfl, hS4⟩
  case round =>
    clear hS4
    obtain ⟨v, hv, rfl, hS⟩ := hrel
    have cn := Lib.hid (an_sep hS.out.swap hG.out)
    by_cases hlt : v < n
    · have hlt1 : (v : Int) < n := by omega
      have co := Lib.hid (aout_sep hS.out.swap hG.out (v : Int))
      have e1 : outI n L (v : Int) = ints (ofS n L v) := by unfold outI; rw [if_pos (by omega), Int.toNat_natCast]
      rw [e1, ints_len] at co
      clear e1
      go_wp2_with (go_at_call 29; refine cn.out.mono ?_; rintro e w4 ⟨rfl, hw4⟩; subst w4)
      refine co.out.mono ?_
      rintro e w4 ⟨ao, co', rfl, hmd⟩
      have hS5 := Lib.hid (hS.out.made hmd).rot
      have hnext := Lib.hid (came_next hG.out v)
      clear hmd hS cn co
      obtain ⟨D, hD⟩ : ∃ D, ofS n L v = D := ⟨_, rfl⟩
      have hnth : Hid (∀ (k : Nat) (hk : k < D.length), D[k] < 2 * L.length ∧ tailE L D[k] = (v : Int) ∧ D[k] ∉ D.take k ∧ ∀ j (hj : j < k), headE L (D[j]'(by omega)) < headE L D[k]) := Lib.hid (by rw [← hD]; exact fun k hk => ofS_nth hG.out hk)
      rw [hD] at hS5 hnext ⊢
      have hdl : D.length ≤ 9223372036854775807 := by
        have := (Rd.own (hS5.out.rowAt 3 rfl)).le
        exact this
      clear hD
      try dsimp only
      go_wp2_with fail
      go_loopw [15] (fun s15 wr => ∃ k : Nat, k ≤ D.length ∧ s15 = .int .i64 k ∧ Hid (Sep w wr [Row 3 1 m (.slice (some ⟨gc, 0, none⟩) m m) (i64s (cameL L v (D.take k))), ArcP b2 n L, NetP b n L, Row 3 1 D.length (.slice ao D.length co') (i64s (ints D))])) (fun s15 _ => D.length - (intOf s15).toNat)
      case atStart => exact ⟨0, Nat.zero_le _, rfl, hS5⟩
      case round =>
        clear hS5
        obtain ⟨k, hk, rfl, hS⟩ := hrel
        by_cases hlk : k < D.length
        · have hlk1 : (k : Int) < D.length := by omega
          obtain ⟨go, rfl, hgo, _, hcell⟩ := row_form (hS.out.rowAt 3 rfl) (by omega)
          obtain ⟨hx1, hx2, hx3, hx4⟩ := hnth.out k hlk
          have q0 := hcell k (.int .i64 ((D[k] : Nat) : Int)) (by rw [i64s_got (x := ((D[k] : Nat) : Int)) (by simp [ints, hlk])])
          have qp : 0 < k → ∃ y : Nat, y < 2 * L.length ∧ headE L y < headE L D[k] ∧ wr.cell? ⟨go, k - 1, none⟩ = some (.int .i64 (y : Int)) := fun hk0 => by
            have h1 := hnth.out (k - 1) (by omega)
            exact ⟨D[k - 1], h1.1, hx4 (k - 1) (by omega), hcell (k - 1) (.int .i64 ((D[k - 1] : Nat) : Int)) (by rw [i64s_got (x := ((D[k - 1] : Nat) : Int)) (by simp [ints, show k - 1 < D.length by omega])])⟩
          have hold := came_old (T := D.take k) hx1 hx2 hx3
          have hstep := came_step (v := v) (T := D.take k) hx1
          rw [show D.take k ++ [D[k]] = D.take (k + 1) from (List.take_succ_eq_append_getElem hlk).symm] at hstep
          have hstep' := Lib.hid hstep
          have c0 : wr.cell? ⟨gc, D[k], none⟩ = some (.int .i64 0) := by
            have := (hS.out.rowAt 0 rfl).cellAt D[k] (by rw [← hm'.out]; omega)
            rw [i64s_got hold] at this
            exact this
          have cz := (hS.out.rowAt 0 rfl).frozenAt D[k]
          have cg := own_lt (hS.out.rowAt 0 rfl) (g := gc) rfl
          have hA := Lib.hid hS.out.swap
          generalize hxx : D[k] = x at *
          have hxm : x < m := by rw [← hm'.out]; exact hx1
          have hxm1 : (x : Int) < m := by omega
          have et : tailI L (x : Int) = (v : Int) := by unfold tailI; rw [if_neg (by omega), Int.toNat_natCast, hx2]
          have eb : backI (x : Int) = ((back x : Nat) : Int) := by unfold backI; rw [if_neg (by omega), Int.toNat_natCast]
          have ebb : backI ((back x : Nat) : Int) = (x : Int) := by unfold backI; rw [if_neg (by omega), Int.toNat_natCast, back_back]
          have eh : headI L ((back x : Nat) : Int) = (v : Int) := by unfold headI; rw [if_neg (by omega), Int.toNat_natCast, head_back, hx2]
          have ec : capI L ((back x : Nat) : Int) = capI L (x : Int) := by unfold capI; rw [if_neg (by omega), if_neg (by omega), Int.toNat_natCast, Int.toNat_natCast, cap_back]
          have hbx : back x < 2 * L.length := back_lt.2 hx1
          have ct := Lib.hid (atail_sep hA.out hG.out (x : Int) (by omega))
          have cb := Lib.hid (fun W => back_any (x : Int) (by omega) W)
          have cbb := Lib.hid (fun W => back_any ((back x : Nat) : Int) (by omega) W)
          have chb := Lib.hid (ahead_sep hA.out hG.out ((back x : Nat) : Int))
          have cc := Lib.hid (acap_sep hA.out hG.out (x : Int))
          have ccb := Lib.hid (acap_sep hA.out hG.out ((back x : Nat) : Int))
          have chx := Lib.hid (ahead_sep hA.out hG.out (x : Int))
          have ehx : headI L (x : Int) = headE L x := by unfold headI; rw [if_neg (by omega), Int.toNat_natCast]
          rw [et] at ct
          rw [eb] at cb
          rw [ebb] at cbb
          rw [eh] at chb
          rw [ec] at ccb
          rw [ehx] at chx
          generalize capI L (x : Int) = cx at *
          have hSn := Lib.hid (show Sep w (wr.setCell ⟨gc, x, none⟩ (.int .i64 1)) [Row 3 1 m (.slice (some ⟨gc, 0, none⟩) m m) (i64s (cameL L v (D.take (k + 1)))), ArcP b2 n L, NetP b n L, Row 3 1 D.length (.slice (some ⟨go, 0, none⟩) D.length co') (i64s (ints D))] by
            have h5 := hS.out.rowsetAt 0 rfl x (.int .i64 1)
            rw [i64s_set, hstep'.out] at h5
            exact h5)
          have hA' := Lib.hid (fun y => ahead_sep hA.out hG.out y)
          clear et eb ebb eh ec ehx hold hstep hstep' hcell hS hA hx1 hx2 hx3 hx4 hbx
          generalize back x = bx at *
          rcases Nat.eq_zero_or_pos k with hk0 | hk0
          · subst hk0
            clear qp hA'
            generalize headE L x = hx at *
            go_wp2_with fail
            refine ct.out.mono ?_
            rintro e w6 ⟨rfl, hw6⟩
            subst w6
            try dsimp only
            go_wp2_with fail
            refine (cb.out _).mono ?_
            rintro e w6 ⟨rfl, hw6⟩
            subst w6
            try dsimp only
            go_wp2_with fail
            refine (cbb.out _).mono ?_
            rintro e w6 ⟨rfl, hw6⟩
            subst w6
            try dsimp only
            go_wp2_with fail
            refine (cb.out _).mono ?_
            rintro e w6 ⟨rfl, hw6⟩
            subst w6
            try dsimp only
            go_wp2_with fail
            refine chb.out.mono ?_
            rintro e w6 ⟨rfl, hw6⟩
            subst w6
            try dsimp only
            go_wp2_with fail
            refine cc.out.mono ?_
            rintro e w6 ⟨rfl, hw6⟩
            subst w6
            try dsimp only
            go_wp2_with fail
            refine (cb.out _).mono ?_
            rintro e w6 ⟨rfl, hw6⟩
            subst w6
            try dsimp only
            go_wp2_with fail
            refine ccb.out.mono ?_
            rintro e w6 ⟨rfl, hw6⟩
            subst w6
            try dsimp only
            go_wp2_with fail
            go_roundw
            case rel => exact ⟨1, by omega, by go_num, hSn⟩
            case measure => simp [intOf]; omega
          · obtain ⟨j, rfl⟩ : ∃ j, k = j + 1 := ⟨k - 1, by omega⟩
            obtain ⟨y, hy1, hy2, qy⟩ := qp (by omega)
            rw [Nat.add_sub_cancel] at qy
            have chy := hA'.out (y : Int)
            rw [show headI L (y : Int) = headE L y by unfold headI; rw [if_neg (by omega), Int.toNat_natCast]] at chy
            have chy' := Lib.hid chy
            have hj0 : (0 : Int) < (j : Int) + 1 := by omega
            have hj1 : (j : Int) < D.length := by omega
            clear chy qp hA' hy1
            generalize headE L x = hx at *
            generalize headE L y = hy at *
            have hy3 : ¬ hx ≤ hy := by omega
            have hy4 : decide (hx ≤ hy) = false := by simpa using hy2
            go_wp2_with fail
            refine ct.out.mono ?_
            rintro e w6 ⟨rfl, hw6⟩
            subst w6
            try dsimp only
            go_wp2_with fail
            refine (cb.out _).mono ?_
            rintro e w6 ⟨rfl, hw6⟩
            subst w6
            try dsimp only
            go_wp2_with fail
            refine (cbb.out _).mono ?_
            rintro e w6 ⟨rfl, hw6⟩
            subst w6
            try dsimp only
            go_wp2_with fail
            refine (cb.out _).mono ?_
            rintro e w6 ⟨rfl, hw6⟩
            subst w6
            try dsimp only
            go_wp2_with fail
            refine chb.out.mono ?_
            rintro e w6 ⟨rfl, hw6⟩
            subst w6
            try dsimp only
            go_wp2_with fail
            refine cc.out.mono ?_
            rintro e w6 ⟨rfl, hw6⟩
            subst w6
            try dsimp only
            go_wp2_with fail
            refine (cb.out _).mono ?_
            rintro e w6 ⟨rfl, hw6⟩
            subst w6
            try dsimp only
            go_wp2_with fail
            refine ccb.out.mono ?_
            rintro e w6 ⟨rfl, hw6⟩
            subst w6
            try dsimp only
            go_wp2_with fail
            refine chy'.out.mono ?_
            rintro e w6 ⟨rfl, hw6⟩
            subst w6
            try dsimp only
            go_wp2_with fail
            refine chx.out.mono ?_
            rintro e w6 ⟨rfl, hw6⟩
            subst w6
            try dsimp only
            go_wp2_with fail
            go_roundw
            case rel => exact ⟨j + 1 + 1, by omega, by go_num, hSn⟩
            case measure => simp [intOf]; omega
        · have hkD : k = D.length := by omega
          have hS6 := Lib.hid (show Sep w wr [Row 3 1 m (.slice (some ⟨gc, 0, none⟩) m m) (i64s (cameL L (v + 1) [])), ArcP b2 n L, NetP b n L] by
            have h5 := hS.out.dropAt 3 (by simp)
            rw [hkD, List.take_length, hnext.out] at h5
            exact h5)
          clear hS hk hkD
          go_wp2_with fail
          go_roundw
          case rel => exact ⟨v + 1, by omega, by go_num, hS6⟩
          case measure => simp [intOf]; omega
    · have hvn : v = n := by omega
      have hall : ∀ k : Nat, k < m → wr.cell? ⟨gc, k, none⟩ = some (.int .i64 1) := fun k hk => by
        have h5 := (hS.out.rowAt 0 rfl).cellAt k (by omega)
        rw [hvn, came_all hG.out, i64s_got (x := 1) (by rw [hm'.out]; simp [hk])] at h5
        exact h5
      have hall' := Lib.hid hall
      have lg := own_lt (hS.out.rowAt 0 rfl) (g := gc) rfl
      have cm := Lib.hid (m_sep (hS.out.pick 2 (by simp)))
      have hmod := Lib.hid hS.out.mod
      have t1 : ((m : Int) == 2 * (L.length : Int)) = true := by have := hm'.out; simp; omega
      clear hS hv hvn hall
      go_wp2_with (go_at_call 29; refine cn.out.mono ?_; rintro e w4 ⟨rfl, hw4⟩; subst w4)
      clear hlt
      go_loopw [17] (fun s17 wr2 => ∃ k : Nat, k ≤ m ∧ s17 = .int .i64 k ∧ wr2 = wr) (fun s17 _ => m - (intOf s17).toNat)
      case atStart => exact ⟨0, Nat.zero_le _, rfl, rfl⟩
      case round =>
        obtain ⟨k, hk, rfl, hw⟩ := hrel
        subst hw
        by_cases hlk : k < m
        · have hlk1 : (k : Int) < m := by omega
          have c1 := hall'.out k hlk
          go_wp2_with fail
          go_roundw
          case rel => exact ⟨k + 1, by omega, by go_num, trivial⟩
          case measure => simp [intOf]; omega
        · have hlk1 : ¬ (k : Int) < m := by omega
          go_wp2_with (go_at_call 19; refine cm.out.mono ?_; rintro e w4 ⟨rfl, hw4⟩; subst w4)
          refine (haw.out _).mono ?_
          rintro e w5 ⟨rfl, hm5⟩
          try dsimp only
          go_wp2_with fail
          go_ret
          exact ⟨rfl, hmod.out.trans hm5 (by simp)⟩
end Edge
end Go.Proofs.Ytkhbnopmeapfjaa
