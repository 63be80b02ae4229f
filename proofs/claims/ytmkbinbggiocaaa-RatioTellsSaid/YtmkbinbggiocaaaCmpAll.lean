/- ratio.Cmp. -/
import Derived.Test.YtmkbinbggiocaaaCmpRank
set_option linter.unusedVariables false
set_option linter.unusedSimpArgs false
namespace Go.Proofs.Ytmkbinbggiocaaa
open Go.RowKit
namespace Ratio
open Go.Proofs.Ytmkbinbggiocaaa.Code
theorem rd_two (w : World) (b : Nat) (x y : Int) (t : TypeId) (h : Has w b [.int .i64 x, .int .i64 y] t) : Rd w 1 (.slice (some ⟨b, 0, none⟩) 2 2) [x, y].length (vi64 [x, y]) := by
  refine ⟨rfl, .inr ⟨_, _, rfl, by simp, by simp [maxLen], fun j u hu => ?_⟩⟩
  rw [Addr.add_lit]
  exact h.cell _ (by simpa [vi64] using hu)
theorem cmp_halves (a b : Int) : orI [cmpI (a / 18446744073709551616) (b / 18446744073709551616), cmpI (a % 18446744073709551616) (b % 18446744073709551616)] = cmpI a b := by
  simp only [orI]
  unfold cmpI
  repeat' split
  all_goals omega
/-- What ratio.Cmp answers. -/
def cmpP (n W1 : Int) (l1 : List Int) (W2 : Int) (l2 : List Int) : Int :=
  if mayB n W1 l1 && mayB n W2 l2 then cmpI (W1 * byN n l2) (W2 * byN n l1) else cmpI (rk (mayB n W1 l1)) (rk (mayB n W2 l2))
set_option maxRecDepth 100000 in
set_option maxHeartbeats 4000000 in
theorem cmp_any {w : World} {v1 v2 : Value} {n W1 W2 : Int} {l1 l2 : List Int} (h1 : Rd w 1 v1 l1.length (vi64 l1)) (h2 : Rd w 1 v2 l2.length (vi64 l2)) (hW1 : W1 ≤ 9223372036854775807) (hW2 : W2 ≤ 9223372036854775807) :
    Calls Try.prog 65 #[.int .i64 n, .agg #[.int .i64 W1, v1], .agg #[.int .i64 W2, v2]] w fun e w' => e = .returned (.int .i64 (cmpP n W1 l1 W2 l2)) ∧ Mod [] w w' := by
  have hmf : ∀ (fn : Fn) (first cap : Array Value) (w : World), (Instr.makeFunc fn first cap).run Try.prog w = .ok (.func fn first cap) w := fun _ _ _ _ => rfl
  obtain ⟨a1, c1, rfl⟩ := h1.val
  obtain ⟨a2, c2, rfl⟩ := h2.val
  have h1' := Lib.hid h1
  have h2' := Lib.hid h2
  clear h1 h2
  go_enter Try.func65, Try.ntmps65
  go_wp2_with fail
  obtain ⟨wc, hwc⟩ : ∃ wc, wc = ((((w.alloc (.cells #[.int .i64 n] 3)).alloc (.cells #[.int .i64 W1, .slice a1 l1.length c1] 95)).alloc (.cells #[.int .i64 W2, .slice a2 l2.length c2] 95)).alloc (.cells #[.int .u64 0, .int .u64 0] 174)).alloc (.cells #[.int .u64 0, .int .u64 0] 174) := ⟨_, rfl⟩
  obtain ⟨B, hB⟩ : ∃ B, B = w.heap.size := ⟨_, rfl⟩
  have m0 : Mod [] w wc := by rw [hwc]; exact (((((Mod.refl [] w).alloc _).alloc _).alloc _).alloc _).alloc _
  have hs : wc.heap.size = B + 5 := by rw [hwc, hB]; simp
  have k0 : Has wc B [.int .i64 n] 3 := by rw [hwc, hB]; exact ((((Has.new w _ _).alloc _).alloc _).alloc _).alloc _
  have k1 : Has wc (B + 1) [.int .i64 W1, .slice a1 l1.length c1] 95 := by
    have := Has.new (w.alloc (.cells #[.int .i64 n] 3)) [.int .i64 W1, .slice a1 l1.length c1] 95
    rw [World.size_alloc] at this
    rw [hwc, hB]; exact ((this.alloc _).alloc _).alloc _
  have k2 : Has wc (B + 1 + 1) [.int .i64 W2, .slice a2 l2.length c2] 95 := by
    have := Has.new ((w.alloc (.cells #[.int .i64 n] 3)).alloc (.cells #[.int .i64 W1, .slice a1 l1.length c1] 95)) [.int .i64 W2, .slice a2 l2.length c2] 95
    rw [World.size_alloc, World.size_alloc] at this
    rw [hwc, hB]; exact (this.alloc _).alloc _
  have k3 : Has wc (B + 1 + 1 + 1) [.int .u64 0, .int .u64 0] 174 := by
    have := Has.new (((w.alloc (.cells #[.int .i64 n] 3)).alloc (.cells #[.int .i64 W1, .slice a1 l1.length c1] 95)).alloc (.cells #[.int .i64 W2, .slice a2 l2.length c2] 95)) [.int .u64 0, .int .u64 0] 174
    rw [World.size_alloc, World.size_alloc, World.size_alloc] at this
    rw [hwc, hB]; exact this.alloc _
  have k4 : Has wc (B + 1 + 1 + 1 + 1) [.int .u64 0, .int .u64 0] 174 := by
    have := Has.new ((((w.alloc (.cells #[.int .i64 n] 3)).alloc (.cells #[.int .i64 W1, .slice a1 l1.length c1] 95)).alloc (.cells #[.int .i64 W2, .slice a2 l2.length c2] 95)).alloc (.cells #[.int .u64 0, .int .u64 0] 174)) [.int .u64 0, .int .u64 0] 174
    rw [World.size_alloc, World.size_alloc, World.size_alloc, World.size_alloc] at this
    rw [hwc, hB]; exact this
  rw [← hB, ← hwc]
  have hm0 := Lib.hid m0
  have hB' := Lib.hid hB
  have f10 : ∀ m : Fut (Mod [B + 1 + 1 + 1, B + 1 + 1 + 1 + 1]) wc.drew, m.v.cell? ⟨B + 1, 0, none⟩ = some (.int .i64 W1) := fun m => ((k1.drew).keep m.of (by simp)).cell 0 rfl
  have f11 : ∀ m : Fut (Mod [B + 1 + 1 + 1, B + 1 + 1 + 1 + 1]) wc.drew, m.v.cell? ⟨B + 1, 1, none⟩ = some (.slice a1 l1.length c1) := fun m => ((k1.drew).keep m.of (by simp)).cell 1 rfl
  have f20 : ∀ m : Fut (Mod [B + 1 + 1 + 1, B + 1 + 1 + 1 + 1]) wc.drew, m.v.cell? ⟨B + 1 + 1, 0, none⟩ = some (.int .i64 W2) := fun m => ((k2.drew).keep m.of (by simp)).cell 0 rfl
  have f21 : ∀ m : Fut (Mod [B + 1 + 1 + 1, B + 1 + 1 + 1 + 1]) wc.drew, m.v.cell? ⟨B + 1 + 1, 1, none⟩ = some (.slice a2 l2.length c2) := fun m => ((k2.drew).keep m.of (by simp)).cell 1 rfl
  have hf : ∀ w : World, (callFunc 122 #[.pointer (some ⟨B, 0, none⟩), .pointer (some ⟨B + 1 + 1 + 1, 0, none⟩), .pointer (some ⟨B + 1 + 1 + 1 + 1, 0, none⟩)]).run Try.prog w = .ok (.enter 122 #[.pointer (some ⟨B, 0, none⟩), .pointer (some ⟨B + 1 + 1 + 1, 0, none⟩), .pointer (some ⟨B + 1 + 1 + 1 + 1, 0, none⟩)]) w := fun w => by simp [go_sem]
  have hr1 := Lib.hid (rank_any (i := 0) (.inl rfl) ((h1'.out.still m0).still (Mod.refl [] wc).drew) hW1 k0.drew k3.drew k4.drew (by omega) (by omega) (by omega))
  have k0' := Lib.hid k0
  have k2' := Lib.hid ((h2'.out.still m0).still (Mod.refl [] wc).drew)
  have q3 := Lib.hid hs
  clear hwc m0 hs hB k1 k2 k3 k4 k0
  refine region_sched (G := Mod [B + 1 + 1 + 1, B + 1 + 1 + 1 + 1]) [([0,1,3,4],2), ([],5)] [6,7] (by kernel_rfl) (by kernel_rfl) (by kernel_rfl) rfl (Mod.refl _) (trM2 _) ?_
  simp only [stages, pickO, nthO, headO, List.cons_append, List.nil_append]
  refine sched_step ?_
  repeat (go_big_quiet_step (fail))
  refine wpQuiet_nil ?_
  intro K hK
  rw [if_pos (by rfl)]
  go_simp
  refine hr1.out.mono ?_
  rintro e w1 ⟨rfl, g3, g4, hm⟩
  try dsimp only
  rw [setIf_0] at g3 g4
  have hw1 : Mod [] w w1 := hm0.out.drew.trans hm (fun b hb hlt => by
    have := hB'.out
    simp only [List.mem_cons, List.mem_nil_iff, or_false] at hb
    omega)
  have hr2 := Lib.hid (rank_any (i := 1) (.inr rfl) (h2'.out.still hw1) hW2 (k0'.out.drew.keep hm (by simp; omega)) g3 g4 (by omega) (by omega) (by omega))
  refine hK.out _ _ hm ?_
  have hw1' := Lib.hid hw1
  clear hK K hr1 f10 f11 f20 f21 g3 g4 hm hw1 k0' k2' hm0
  refine sched_step ?_
  refine wpQuiet_nil ?_
  intro K hK
  rw [if_pos (by rfl)]
  go_simp
  refine hr2.out.mono ?_
  rintro e w2 ⟨rfl, g3, g4, hm⟩
  try dsimp only
  rw [setIf_1] at g3 g4
  have hw2 := Lib.hid (show Mod [] w w2 from hw1'.out.trans hm (fun b hb hlt => by
    have := hB'.out
    simp only [List.mem_cons, List.mem_nil_iff, or_false] at hb
    omega))
  refine hK.out _ _ hm ?_
  have g3' := Lib.hid g3
  have g4' := Lib.hid g4
  clear hK K hr2 hm hw1' g3 g4 hf
  refine sched_last ?_
  repeat (go_big_quiet_step (fail))
  refine wpQuiet_nil ?_
  cases b1 : mayB n W1 l1
  · cases b2 : mayB n W2 l2
    all_goals
      have hans := Lib.hid (show cmpP n W1 l1 W2 l2 = cmpI (rk (mayB n W1 l1)) (rk (mayB n W2 l2)) from by unfold cmpP; rw [b1, b2]; rfl)
      rw [b1, b2] at hans
      simp only [rk] at hans
      clear g3' g4'
      have hz : ((1 : Int) + 1 > 0) := by omega
      simp only [rk]
      go_wp2_with fail
      refine (compare_int _ _ _).mono ?_
      rintro e w3 ⟨rfl, rfl⟩
      try dsimp only
      go_wp2_with fail
      go_ret
      exact ⟨by rw [hans.out]; rfl, hw2.out⟩
  · cases b2 : mayB n W2 l2
    · have hans := Lib.hid (show cmpP n W1 l1 W2 l2 = cmpI (rk (mayB n W1 l1)) (rk (mayB n W2 l2)) from by unfold cmpP; rw [b1, b2]; rfl)
      rw [b1, b2] at hans
      simp only [rk] at hans
      clear g3' g4'
      simp only [rk]
      go_wp2_with fail
      refine (compare_int _ _ _).mono ?_
      rintro e w3 ⟨rfl, rfl⟩
      try dsimp only
      go_wp2_with fail
      go_ret
      exact ⟨by rw [hans.out]; rfl, hw2.out⟩
    · have hans := Lib.hid (show cmpP n W1 l1 W2 l2 = cmpI (W1 * byN n l2) (W2 * byN n l1) from by unfold cmpP; rw [b1, b2]; rfl)
      have y1 := (mayB_iff _ _ _).1 b1
      have y2 := (mayB_iff _ _ _).1 b2
      have z1 := by_bd y1
      have z2 := by_bd y2
      obtain ⟨x1, rfl⟩ := Int.eq_ofNat_of_zero_le y1.2.2
      obtain ⟨x2, rfl⟩ := Int.eq_ofNat_of_zero_le y2.2.2
      obtain ⟨p1, hp1⟩ := Int.eq_ofNat_of_zero_le (Int.le_of_lt z1.1)
      obtain ⟨p2, hp2⟩ := Int.eq_ofNat_of_zero_le (Int.le_of_lt z2.1)
      rw [b1, b2] at g3' g4'
      rw [hp1, hp2] at g4' hans
      rw [hp1] at z1
      rw [hp2] at z2
      have c30 := g3'.out.cell 0 rfl
      have c31 := g3'.out.cell 1 rfl
      have c40 := g4'.out.cell 0 rfl
      have c41 := g4'.out.cell 1 rfl
      have hm1 := Lib.hid (mul64_any x1 p2 (by omega) (by omega) w2)
      have hm2 := Lib.hid (mul64_any x2 p1 (by omega) (by omega) w2)
      clear y1 y2 z1 z2 hW1 hW2 hp1 hp2 g3' g4'
      simp only [pk, if_true] at c30 c31 c40 c41
      simp only [rk]
      go_wp2_with fail
      refine hm1.out.mono ?_
      rintro e w3 ⟨rfl, rfl⟩
      try dsimp only
      go_wp2_with fail
      refine hm2.out.mono ?_
      rintro e w3 ⟨rfl, rfl⟩
      try dsimp only
      clear c30 c31 c40 c41 hm1 hm2
      have hco := Lib.hid (cmp_halves ((x1 : Int) * (p2 : Int)) ((x2 : Int) * (p1 : Int)))
      go_wp2_with fail
      refine (compare_u64 _ _ _).mono ?_
      rintro e w3 ⟨rfl, rfl⟩
      try dsimp only
      go_wp2_with fail
      refine (compare_u64 _ _ _).mono ?_
      rintro e w3 ⟨rfl, rfl⟩
      try dsimp only
      go_wp2_with fail
      refine (or_any _ (rd_two _ _ _ _ 3 (Has.new w3 [_, _] _))).mono ?_
      rintro e w4 ⟨rfl, rfl⟩
      try dsimp only
      rw [hco.out]
      go_wp2_with fail
      go_ret
      exact ⟨by rw [hans.out]; rfl, hw2.out.alloc _⟩
end Ratio
end Go.Proofs.Ytmkbinbggiocaaa
