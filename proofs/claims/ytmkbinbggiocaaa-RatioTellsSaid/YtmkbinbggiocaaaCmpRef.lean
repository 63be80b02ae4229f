/- The reference's Cmp. -/
import Derived.Test.YtmkbinbggiocaaaHigh44
set_option linter.unusedVariables false
set_option linter.unusedSimpArgs false
namespace Go.Proofs.Ytmkbinbggiocaaa
open Go.RowKit
namespace Ratio
open Go.Proofs.Ytmkbinbggiocaaa.Code
theorem low_eq (x p : Nat) (hx : x < 18446744073709551616) (hp : p < 18446744073709551616) : IntKind.u64.wrap (IntKind.u64.wrap (x : Int) * IntKind.u64.wrap (p : Int)) = (x : Int) * (p : Int) % 18446744073709551616 := by
  have e1 : IntKind.u64.wrap (x : Int) = x := by rw [IntKind.wrap_u64]; omega
  have e2 : IntKind.u64.wrap (p : Int) = p := by rw [IntKind.wrap_u64]; omega
  rw [e1, e2, IntKind.wrap_u64]
set_option maxRecDepth 100000 in
set_option maxHeartbeats 4000000 in
theorem cmp_ref {w : World} {v1 v2 : Value} {n W1 W2 : Int} {l1 l2 : List Int} (h1 : Rd w 1 v1 l1.length (vi64 l1)) (h2 : Rd w 1 v2 l2.length (vi64 l2)) (hW1 : W1 ≤ 9223372036854775807) (hW2 : W2 ≤ 9223372036854775807) :
    Calls Try.prog 66 #[.int .i64 n, .agg #[.int .i64 W1, v1], .agg #[.int .i64 W2, v2]] w fun e w' => e = .returned (.int .i64 (cmpP n W1 l1 W2 l2)) ∧ Mod [] w w' := by
  obtain ⟨a1, c1, rfl⟩ := h1.val
  obtain ⟨a2, c2, rfl⟩ := h2.val
  have h1' := Lib.hid h1
  have h2' := Lib.hid h2
  clear h1 h2
  go_enter Try.func66, Try.ntmps66
  go_wp2_with fail
  obtain ⟨wc, hwc⟩ : ∃ wc, wc = (w.alloc (.cells #[.int .i64 W1, .slice a1 l1.length c1] 95)).alloc (.cells #[.int .i64 W2, .slice a2 l2.length c2] 95) := ⟨_, rfl⟩
  obtain ⟨B, hB⟩ : ∃ B, B = w.heap.size := ⟨_, rfl⟩
  have m0 : Mod [] w wc := by rw [hwc]; exact ((Mod.refl [] w).alloc _).alloc _
  have k1 : Has wc B [.int .i64 W1, .slice a1 l1.length c1] 95 := by rw [hwc, hB]; exact (Has.new w _ _).alloc _
  have k2 : Has wc (B + 1) [.int .i64 W2, .slice a2 l2.length c2] 95 := by
    have := Has.new (w.alloc (.cells #[.int .i64 W1, .slice a1 l1.length c1] 95)) [.int .i64 W2, .slice a2 l2.length c2] 95
    rw [World.size_alloc] at this
    rw [hwc, hB]; exact this
  rw [← hB, ← hwc]
  have hm0 := Lib.hid m0
  have k1' := Lib.hid k1
  have k2' := Lib.hid k2
  have r1' := Lib.hid (h1'.out.still m0)
  have r2' := Lib.hid (h2'.out.still m0)
  have f10 : ∀ m : Fut (Mod []) wc.drew, m.v.cell? ⟨B, 0, none⟩ = some (.int .i64 W1) := fun m => ((k1.drew).keep m.of (by simp)).cell 0 rfl
  have f11 : ∀ m : Fut (Mod []) wc.drew, m.v.cell? ⟨B, 1, none⟩ = some (.slice a1 l1.length c1) := fun m => ((k1.drew).keep m.of (by simp)).cell 1 rfl
  have f20 : ∀ m : Fut (Mod []) wc.drew, m.v.cell? ⟨B + 1, 0, none⟩ = some (.int .i64 W2) := fun m => ((k2.drew).keep m.of (by simp)).cell 0 rfl
  have f21 : ∀ m : Fut (Mod []) wc.drew, m.v.cell? ⟨B + 1, 1, none⟩ = some (.slice a2 l2.length c2) := fun m => ((k2.drew).keep m.of (by simp)).cell 1 rfl
  clear hwc m0 hB k1 k2 h1' h2'
  refine region_sched (G := Mod []) [([0,1,3,4],2), ([],5)] [6,7] (by kernel_rfl) (by kernel_rfl) (by kernel_rfl) rfl (Mod.refl _) (fun _ _ _ h1 h2 => h1.trans h2 (by simp)) ?_
  simp only [stages, pickO, nthO, headO, List.cons_append, List.nil_append]
  refine sched_step ?_
  repeat (go_big_quiet_step (fail))
  refine wpQuiet_nil ?_
  intro K hK
  rw [if_pos (by rfl)]
  go_simp
  refine (may_ref (r1'.out.still (Mod.refl [] wc).drew)).mono ?_
  rintro e w1 ⟨rfl, hm⟩
  try dsimp only
  have hm1 := Lib.hid (show Mod [] wc w1 from (Mod.refl [] wc).drew.trans hm (by simp))
  refine hK.out _ _ hm ?_
  clear hK K hm f10 f11 f20 f21
  refine sched_step ?_
  refine wpQuiet_nil ?_
  intro K hK
  rw [if_pos (by rfl)]
  go_simp
  refine (may_ref (r2'.out.still hm1.out)).mono ?_
  rintro e w2 ⟨rfl, hm⟩
  try dsimp only
  have hm2 := Lib.hid (show Mod [] wc w2 from hm1.out.trans hm (by simp))
  refine hK.out _ _ hm ?_
  clear hK K hm hm1
  refine sched_last ?_
  repeat (go_big_quiet_step (fail))
  refine wpQuiet_nil ?_
  have hmw := Lib.hid (hm0.out.trans hm2.out (by simp))
  cases b1 : mayB n W1 l1
  · have hb1 := Lib.hid b1
    clear b1 hm0 hm2 k1' k2' r1' r2'
    cases b2 : mayB n W2 l2
    · have hans := Lib.hid (show cmpP n W1 l1 W2 l2 = 0 from by unfold cmpP; rw [hb1.out, b2]; rfl)
      go_wp2_with fail
      go_ret
      exact ⟨by rw [hans.out]; rfl, hmw.out⟩
    · have hans := Lib.hid (show cmpP n W1 l1 W2 l2 = 1 from by unfold cmpP; rw [hb1.out, b2]; rfl)
      go_wp2_with fail
      go_ret
      exact ⟨by rw [hans.out]; rfl, hmw.out⟩
  · have hb1 := Lib.hid b1
    clear b1
    cases b2 : mayB n W2 l2
    · have hans := Lib.hid (show cmpP n W1 l1 W2 l2 = -1 from by unfold cmpP; rw [hb1.out, b2]; rfl)
      clear hm0 hm2 k1' k2' r1' r2'
      go_wp2_with fail
      go_ret
      exact ⟨by rw [hans.out]; rfl, hmw.out⟩
    · have hans := Lib.hid (show cmpP n W1 l1 W2 l2 = cmpI (W1 * byN n l2) (W2 * byN n l1) from by unfold cmpP; rw [hb1.out, b2]; rfl)
      have y1 := (mayB_iff _ _ _).1 hb1.out
      have y2 := (mayB_iff _ _ _).1 b2
      have z1 := by_bd y1
      have z2 := by_bd y2
      have y1' := Lib.hid y1
      have y2' := Lib.hid y2
      obtain ⟨x1, rfl⟩ := Int.eq_ofNat_of_zero_le y1.2.2
      obtain ⟨x2, rfl⟩ := Int.eq_ofNat_of_zero_le y2.2.2
      obtain ⟨p1, hp1⟩ := Int.eq_ofNat_of_zero_le (Int.le_of_lt z1.1)
      obtain ⟨p2, hp2⟩ := Int.eq_ofNat_of_zero_le (Int.le_of_lt z2.1)
      rw [hp1] at z1
      rw [hp2] at z2
      rw [hp1, hp2] at hans
      have u1 := Lib.hid (fun w => high_any x1 p2 (by omega) (by omega) w)
      have u2 := Lib.hid (fun w => high_any x2 p1 (by omega) (by omega) w)
      have hby1 := Lib.hid (fun (w' : World) (m : Mod [] wc w') => by_ref (r1'.out.still m) y1)
      have hby2 := Lib.hid (fun (w' : World) (m : Mod [] wc w') => by_ref (r2'.out.still m) y2)
      rw [hp1] at hby1
      rw [hp2] at hby2
      have f10 : ∀ m : Fut (Mod []) w2.drew, m.v.cell? ⟨B, 0, none⟩ = some (.int .i64 x1) := fun m => ((k1'.out.keep hm2.out (by simp)).drew.keep m.of (by simp)).cell 0 rfl
      have f11 : ∀ m : Fut (Mod []) w2.drew, m.v.cell? ⟨B, 1, none⟩ = some (.slice a1 l1.length c1) := fun m => ((k1'.out.keep hm2.out (by simp)).drew.keep m.of (by simp)).cell 1 rfl
      have f20 : ∀ m : Fut (Mod []) w2.drew, m.v.cell? ⟨B + 1, 0, none⟩ = some (.int .i64 x2) := fun m => ((k2'.out.keep hm2.out (by simp)).drew.keep m.of (by simp)).cell 0 rfl
      have f21 : ∀ m : Fut (Mod []) w2.drew, m.v.cell? ⟨B + 1, 1, none⟩ = some (.slice a2 l2.length c2) := fun m => ((k2'.out.keep hm2.out (by simp)).drew.keep m.of (by simp)).cell 1 rfl
      have eP := Lib.hid (low_eq x1 p2 (by omega) (by omega))
      have eQ := Lib.hid (low_eq x2 p1 (by omega) (by omega))
      clear y1 y2 z1 z2 hW1 hW2 hp1 hp2 b2
      go_upto_region 8 with fail
      refine region_sched (G := Mod []) [([0,1,2,3,6,7,8,9],4), ([],5), ([],10), ([],11)] [12,13] (by kernel_rfl) (by kernel_rfl) (by kernel_rfl) rfl (Mod.refl _) (fun _ _ _ h1 h2 => h1.trans h2 (by simp)) ?_
      simp only [stages, pickO, nthO, headO, List.cons_append, List.nil_append]
      refine sched_step ?_
      repeat (go_big_quiet_step (fail))
      refine wpQuiet_nil ?_
      intro K hK
      rw [if_pos (by rfl)]
      go_simp
      refine (hby2.out _ hm2.out.drew).mono ?_
      rintro e w3 ⟨rfl, hm⟩
      try dsimp only
      have hm3 := Lib.hid (show Mod [] wc w3 from hm2.out.drew.trans hm (by simp))
      refine hK.out _ _ hm ?_
      clear hK K hm f10 f11 f20 f21
      refine sched_step ?_
      refine wpQuiet_nil ?_
      intro K hK
      rw [if_pos (by rfl)]
      go_simp
      refine (u1.out _).mono ?_
      rintro e w4 ⟨rfl, rfl⟩
      try dsimp only
      refine hK.out _ _ (Mod.refl [] _) ?_
      clear hK K
      refine sched_step ?_
      refine wpQuiet_nil ?_
      intro K hK
      rw [if_pos (by rfl)]
      go_simp
      refine (hby1.out _ hm3.out).mono ?_
      rintro e w5 ⟨rfl, hm⟩
      try dsimp only
      have hm5 := Lib.hid (show Mod [] wc w5 from hm3.out.trans hm (by simp))
      refine hK.out _ _ hm ?_
      clear hK K hm
      refine sched_step ?_
      refine wpQuiet_nil ?_
      intro K hK
      rw [if_pos (by rfl)]
      go_simp
      refine (u2.out _).mono ?_
      rintro e w6 ⟨rfl, rfl⟩
      try dsimp only
      refine hK.out _ _ (Mod.refl [] _) ?_
      clear hK K u1 u2
      refine sched_last ?_
      repeat (go_big_quiet_step (fail))
      refine wpQuiet_nil ?_
      have ec : ((x2 * p1 / 18446744073709551616 : Nat) : Int) = (x2 : Int) * (p1 : Int) / 18446744073709551616 := by
        rw [Int.natCast_ediv, Int.natCast_mul]; rfl
      rw [ec]
      clear ec
      have hmw5 := Lib.hid (hm0.out.trans hm5.out (by simp))
      by_cases hE : (x1 : Int) * (p2 : Int) / 18446744073709551616 = (x2 : Int) * (p1 : Int) / 18446744073709551616
      · rw [hE]
        have hE' := Lib.hid hE
        clear hE
        have f10 : ∀ m : Fut (Mod []) w6.drew, m.v.cell? ⟨B, 0, none⟩ = some (.int .i64 x1) := fun m => ((k1'.out.keep hm5.out (by simp)).drew.keep m.of (by simp)).cell 0 rfl
        have f20 : ∀ m : Fut (Mod []) w6.drew, m.v.cell? ⟨B + 1, 0, none⟩ = some (.int .i64 x2) := fun m => ((k2'.out.keep hm5.out (by simp)).drew.keep m.of (by simp)).cell 0 rfl
        have f21 : ∀ m : Fut (Mod []) w6.drew, m.v.cell? ⟨B + 1, 1, none⟩ = some (.slice a2 l2.length c2) := fun m => ((k2'.out.keep hm5.out (by simp)).drew.keep m.of (by simp)).cell 1 rfl
        go_upto_region 10 with fail
        refine region_sched (G := Mod []) [([0,1,2,3,4],5)] [6,7,8] (by kernel_rfl) (by kernel_rfl) (by kernel_rfl) rfl (Mod.refl _) (fun _ _ _ h1 h2 => h1.trans h2 (by simp)) ?_
        simp only [stages, pickO, nthO, headO, List.cons_append, List.nil_append]
        refine sched_step ?_
        repeat (go_big_quiet_step (fail))
        refine wpQuiet_nil ?_
        intro K hK
        rw [if_pos (by rfl)]
        go_simp
        refine (hby2.out _ hm5.out.drew).mono ?_
        rintro e w7 ⟨rfl, hm⟩
        try dsimp only
        have hm7 := Lib.hid (show Mod [] wc w7 from hm5.out.drew.trans hm (by simp))
        refine hK.out _ _ hm ?_
        clear hK K hm f10 f20 f21
        refine sched_last ?_
        repeat (go_big_quiet_step (fail))
        refine wpQuiet_nil ?_
        have f20 : ∀ m : Fut (Mod []) w7.drew, m.v.cell? ⟨B + 1, 0, none⟩ = some (.int .i64 x2) := fun m => ((k2'.out.keep hm7.out (by simp)).drew.keep m.of (by simp)).cell 0 rfl
        have f10 : ∀ m : Fut (Mod []) w7.drew, m.v.cell? ⟨B, 0, none⟩ = some (.int .i64 x1) := fun m => ((k1'.out.keep hm7.out (by simp)).drew.keep m.of (by simp)).cell 0 rfl
        have f11 : ∀ m : Fut (Mod []) w7.drew, m.v.cell? ⟨B, 1, none⟩ = some (.slice a1 l1.length c1) := fun m => ((k1'.out.keep hm7.out (by simp)).drew.keep m.of (by simp)).cell 1 rfl
        go_upto_region 11 with fail
        refine region_sched (G := Mod []) [([0,1,2,3,4],5)] [6,7,8] (by kernel_rfl) (by kernel_rfl) (by kernel_rfl) rfl (Mod.refl _) (fun _ _ _ h1 h2 => h1.trans h2 (by simp)) ?_
        simp only [stages, pickO, nthO, headO, List.cons_append, List.nil_append]
        refine sched_step ?_
        repeat (go_big_quiet_step (fail))
        refine wpQuiet_nil ?_
        intro K hK
        rw [if_pos (by rfl)]
        go_simp
        refine (hby1.out _ hm7.out.drew).mono ?_
        rintro e w8 ⟨rfl, hm⟩
        try dsimp only
        have hm8 := Lib.hid (show Mod [] wc w8 from hm7.out.drew.trans hm (by simp))
        refine hK.out _ _ hm ?_
        clear hK K hm f10 f20 f11
        refine sched_last ?_
        repeat (go_big_quiet_step (fail))
        refine wpQuiet_nil ?_
        rw [eP.out, eQ.out]
        have hE := hE'.out
        have hmw8 := Lib.hid (hm0.out.trans hm8.out (by simp))
        rcases Int.lt_trichotomy ((x1 : Int) * (p2 : Int) % 18446744073709551616) ((x2 : Int) * (p1 : Int) % 18446744073709551616) with hL | hL | hL
        · have hres := Lib.hid (show cmpI ((x1 : Int) * (p2 : Int)) ((x2 : Int) * (p1 : Int)) = -1 from by
            generalize (x1 : Int) * (p2 : Int) = P at *
            generalize (x2 : Int) * (p1 : Int) = Q at *
            unfold cmpI; rw [if_pos (by omega)])
          clear hE hE' eP eQ
          generalize (x1 : Int) * (p2 : Int) % 18446744073709551616 = P at *
          generalize (x2 : Int) * (p1 : Int) % 18446744073709551616 = Q at *
          go_wp2_with fail
          go_ret
          exact ⟨by rw [hans.out, hres.out]; rfl, hmw8.out⟩
        · have hres := Lib.hid (show cmpI ((x1 : Int) * (p2 : Int)) ((x2 : Int) * (p1 : Int)) = 0 from by
            generalize (x1 : Int) * (p2 : Int) = P at *
            generalize (x2 : Int) * (p1 : Int) = Q at *
            unfold cmpI; rw [if_neg (by omega), if_neg (by omega)])
          rw [hL]
          clear hE hE' eP eQ hL
          generalize (x2 : Int) * (p1 : Int) % 18446744073709551616 = Q at *
          have hq : ¬ Q < Q := by omega
          go_wp2_with fail
          go_ret
          exact ⟨by rw [hans.out, hres.out]; rfl, hmw8.out⟩
        · have hres := Lib.hid (show cmpI ((x1 : Int) * (p2 : Int)) ((x2 : Int) * (p1 : Int)) = 1 from by
            generalize (x1 : Int) * (p2 : Int) = P at *
            generalize (x2 : Int) * (p1 : Int) = Q at *
            unfold cmpI; rw [if_neg (by omega), if_pos (by omega)])
          have hG : ¬ (x1 : Int) * (p2 : Int) % 18446744073709551616 < (x2 : Int) * (p1 : Int) % 18446744073709551616 := by omega
          clear hE hE' eP eQ
          generalize (x1 : Int) * (p2 : Int) % 18446744073709551616 = P at *
          generalize (x2 : Int) * (p1 : Int) % 18446744073709551616 = Q at *
          go_wp2_with fail
          go_ret
          exact ⟨by rw [hans.out, hres.out]; rfl, hmw8.out⟩
      · have hE1 : ((x1 : Int) * (p2 : Int) / 18446744073709551616 == (x2 : Int) * (p1 : Int) / 18446744073709551616) = false := by simpa using hE
        by_cases hL : (x1 : Int) * (p2 : Int) / 18446744073709551616 < (x2 : Int) * (p1 : Int) / 18446744073709551616
        · have hres := Lib.hid (show cmpI ((x1 : Int) * (p2 : Int)) ((x2 : Int) * (p1 : Int)) = -1 from by
            generalize (x1 : Int) * (p2 : Int) = P at *
            generalize (x2 : Int) * (p1 : Int) = Q at *
            unfold cmpI; rw [if_pos (by omega)])
          clear hE
          generalize (x1 : Int) * (p2 : Int) / 18446744073709551616 = P at *
          generalize (x2 : Int) * (p1 : Int) / 18446744073709551616 = Q at *
          go_wp2_with fail
          go_ret
          exact ⟨by rw [hans.out, hres.out]; rfl, hmw5.out⟩
        · have hres := Lib.hid (show cmpI ((x1 : Int) * (p2 : Int)) ((x2 : Int) * (p1 : Int)) = 1 from by
            generalize (x1 : Int) * (p2 : Int) = P at *
            generalize (x2 : Int) * (p1 : Int) = Q at *
            unfold cmpI; rw [if_neg (by omega), if_pos (by omega)])
          have hG : (x2 : Int) * (p1 : Int) / 18446744073709551616 < (x1 : Int) * (p2 : Int) / 18446744073709551616 := by omega
          clear hE
          generalize (x1 : Int) * (p2 : Int) / 18446744073709551616 = P at *
          generalize (x2 : Int) * (p1 : Int) / 18446744073709551616 = Q at *
          go_wp2_with fail
          go_ret
          exact ⟨by rw [hans.out, hres.out]; rfl, hmw5.out⟩
end Ratio
end Go.Proofs.Ytmkbinbggiocaaa
