/- CsrTells: the arcs and the reference's tell the same. -/
import Derived.Test.YtkhbnopmeapfjaaAwake19
import Derived.Test.YtkhbnopmeapfjaaTells16
set_option linter.unusedVariables false
set_option linter.unusedSimpArgs false
namespace Go.Proofs.Ytkhbnopmeapfjaa
open Go.RowKit
namespace Edge
set_option maxRecDepth 100000 in
set_option maxHeartbeats 8000000 in
theorem tells19_any (n : Nat) (hn : n ≤ 255) (i v : Int) (hi : i ≤ 9223372036854775807) {l : List Ed} {vs : Value} {w : World} (h : Rd w 3 vs l.length (flat encEd l)) :
    Calls Try.prog 5 #[.int .u8 n, vs, .agg #[.int .i64 i, .int .i64 v]] w fun e w' => e = .returned (.bool true) ∧ Mod [] w w' := by
  obtain ⟨a, c, rfl⟩ := h.val
  have hle := h.le
  have haw := Lib.hid (fun w => awake19 w)
  have hm0 := Lib.hid ((Mod.refl [] w).alloc (.cells #[.int .i64 i, .int .i64 v] 34))
  by_cases hbig : 60 < l.length
  · have hbig1 : (60 : Int) < l.length := by omega
    clear h hi
    go_enter Try.func5, Try.ntmps5
    go_wp2_with fail
    refine (haw.out _).mono ?_
    rintro e w1 ⟨rfl, hm⟩
    try dsimp only
    go_wp2_with fail
    go_ret
    exact ⟨rfl, hm0.out.trans hm (by simp)⟩
  have hbig1 : ¬ (60 : Int) < l.length := by omega
  have hnw := Lib.hid (new_net (n : Int) (h.still hm0.out))
  have hrn := Lib.hid (fun W (m : Mod [] (w.alloc (.cells #[.int .i64 i, .int .i64 v] 34)) W) => rnew_any (n : Int) ((h.still hm0.out).still m))
  have hU := Lib.hid (Has.new w [.int .i64 i, .int .i64 v] 34)
  have hi' := Lib.hid hi
  clear h hi
  go_enter Try.func5, Try.ntmps5
  go_wp2_with fail
  refine hnw.out.mono ?_
  rintro e w1 hN
  rcases hN.out with ⟨hne, rfl, hm⟩ | ⟨he, b, rfl, hS⟩
  · have hz := newE_bad hne
    generalize (newE n l).1 = q at *
    generalize (newE n l).2 = q2 at *
    have hU1 := Lib.hid (hU.out.keep hm (by simp))
    have hm1 := Lib.hid (hm0.out.trans hm (by simp))
    try dsimp only
    clear hN hne hnw hrn hm hU
    have hz1 : (q == 0) = false := by simpa using hz
    have hz2 : (q != 0) = true := by simpa using hz
    clear hz
    go_wp2_with fail
    refine (csr_none _).mono ?_
    rintro e w2 ⟨b2, rfl, hA⟩
    have hU2 := hU1.out.keep hA.mod (by simp)
    have hU2' := Lib.hid hU2
    have u0 := hU2.cell 0 rfl
    have u1 := hU2.cell 1 rfl
    have ul := hU2.lt
    have cn := Lib.hid (an_sep hA gok_none)
    have cl := Lib.hid (alen_sep hA)
    have co := Lib.hid (aout_sep hA gok_none v)
    have ct := Lib.hid (fun W (m : Mod [] w2 W) => atail_sep (hA.still m) gok_none i hi'.out)
    have chd := Lib.hid (fun W (m : Mod [] w2 W) => ahead_sep (hA.still m) gok_none i)
    have cc := Lib.hid (fun W (m : Mod [] w2 W) => acap_sep (hA.still m) gok_none i)
    have e1 : outI 0 [] v = [] := by unfold outI; rw [if_neg (by omega)]; rfl
    have e2 : tailI [] i = -1 := by unfold tailI; split; rfl; exact tailE_out (by simp)
    have e3 : headI [] i = -1 := by unfold headI; split; rfl; exact headE_out (by simp)
    have e4 : capI [] i = 0 := by unfold capI; split; rfl; exact capE_out (by simp)
    rw [e1] at co
    simp only [e2] at ct
    simp only [e3] at chd
    simp only [e4] at cc
    simp only [List.length_nil] at cl co
    have hm2 := Lib.hid (hm1.out.trans hA.mod (by simp))
    clear hA hU1 hm1 hU2 e1 e2 e3 e4
    try dsimp only
    go_wp2_with (first
      | (go_at_call 29; refine cn.out.mono ?_; rintro e w3 ⟨rfl, hw⟩; subst w3)
      | (go_at_call 30; refine cl.out.mono ?_; rintro e w3 ⟨rfl, hw⟩; subst w3))
    refine co.out.mono ?_
    rintro e w3 ⟨a3, c3, rfl, hmd⟩
    have hm3 := Lib.hid hmd.mod
    have hU3 := hU2'.out.keep hm3.out (by simp)
    have v0 := hU3.cell 0 rfl
    have vl := hU3.lt
    have ct2 := Lib.hid (ct.out _ hm3.out)
    have ch2 := Lib.hid (chd.out _ hm3.out)
    have cc2 := Lib.hid (cc.out _ hm3.out)
    clear hmd u0 u1 ul hU3 cn cl co ct chd cc
    try dsimp only
    go_wp2_with (first
      | (go_at_call 32; refine ct2.out.mono ?_; rintro e w4 ⟨rfl, hw⟩; subst w4)
      | (go_at_call 33; refine ch2.out.mono ?_; rintro e w4 ⟨rfl, hw⟩; subst w4)
      | (go_at_call 34; refine cc2.out.mono ?_; rintro e w4 ⟨rfl, hw⟩; subst w4))
    refine (haw.out _).mono ?_
    rintro e w4 ⟨rfl, hm4⟩
    try dsimp only
    go_wp2_with fail
    go_ret
    exact ⟨rfl, hm2.out.trans (hm3.out.trans hm4 (by simp)) (by simp)⟩
  have hG := Lib.hid (new_ok he)
  rw [Int.toNat_natCast] at hG hS
  have hrn1 := Lib.hid hrn.out
  have hS1 := Lib.hid hS
  have he' := Lib.hid he
  try dsimp only
  clear hN he hS hnw hrn
  go_wp2_with fail
  refine (csr_net hS1.out hG.out).mono ?_
  rintro e w2 ⟨b2, rfl, hS2⟩
  have hS2' := Lib.hid hS2
  try dsimp only
  clear hS2 hS1
  go_wp2_with fail
  refine (hrn1.out _ hS2'.out.mod).mono ?_
  rintro e w3 hR
  rcases hR.out with ⟨hne, _⟩ | ⟨_, ar, cr, rfl, hmd⟩
  case inl => exact absurd he'.out hne
  generalize merged l = L at *
  have hMl : L.length ≤ 1048576 := hG.out.len
  have hS3 := Lib.hid ((((hS2'.out.made hmd).box [.int .i64 n, .slice ar L.length cr] 36)))
  try dsimp only
  clear hR hmd hrn1 hS2'
  have hU4 := hU.out.keep hS3.out.mod (by simp)
  have u0 := hU4.cell 0 rfl
  have u1 := hU4.cell 1 rfl
  have ul := hU4.lt
  clear hU4
  generalize hW4 : w3.alloc (.cells [Value.int .i64 n, .slice ar L.length cr].toArray 36) = W4 at *
  have hW4' := Lib.hid hW4
  clear hW4
  go_upto_region 8 with fail
  rw [hW4'.out]
  clear hW4'
  generalize w3.heap.size = T at *
  go_quiet (fail)
  go_upto_region 9 with fail
  generalize hW6 : W4.drewN nq = W6
  have hS6 := Lib.hid (show Sep _ W6.drew _ by rw [← hW6]; exact (hS3.out.still ((Mod.refl [] W4).drewN _)).still (Mod.refl [] _).drew)
  clear hW6 hS3 u0 u1 ul
  have cl : ∀ W (m : Mod [] W6.drew W), Calls Try.prog 30 #[.pointer (some ⟨b2, 0, none⟩)] W fun e w' => e = .returned (.int .i64 (2 * (L.length : Int))) ∧ w' = W := fun W m => by
    have e : ((2 * L.length : Nat) : Int) = 2 * (L.length : Int) := by omega
    rw [← e]
    exact alen_sep ((hS6.out.still m).pick 2 (by simp))
  have hcl := Lib.hid cl
  clear cl
  refine region_sched (G := Mod []) [([0,1,2,3,5,6],4), ([7,8,9,10,12,13,14,15],11), ([16,17,18,19,20,22,23],21), ([],24), ([25,26,27,28,29,31,32],30), ([],33), ([34,35,36,37,38,40,41],39), ([],42), ([43,44,45,46,47,49,50],48), ([],51), ([],52), ([53,54,55,57],56), ([],58), ([59,60,61,62,64],63), ([],65), ([66,67,68],69)] [70,71] (by kernel_rfl) (by kernel_rfl) (by kernel_rfl) rfl (Mod.refl []) (fun _ _ _ h1 h2 => h1.trans h2 (by simp)) ?_
  simp only [stages, pickO, nthO, headO, List.append_eq, List.cons_append, List.nil_append]
  generalize W6.drew = W7 at *
  have t0 : ∀ m : Fut (Mod []) W7, m.v.cell? ⟨T, 0, none⟩ = some (.int .i64 n) := fun m => (hS6.out.blk.keep m.of (by simp)).cell 0 rfl
  have t1 : ∀ m : Fut (Mod []) W7, m.v.cell? ⟨T, 1, none⟩ = some (.slice ar L.length cr) := fun m => (hS6.out.blk.keep m.of (by simp)).cell 1 rfl
  refine sched_step ?_
  repeat (go_big_quiet_step (fail))
  refine wpQuiet_nil ?_
  intro K hK
  rw [if_pos (by rfl)]
  go_simp
  refine (an_sep (hS6.out.pick 2 (by simp)) hG.out).mono ?_
  rintro e w8 ⟨rfl, hw8⟩; subst w8
  try dsimp only
  refine hK.out _ _ (Mod.refl _ _) ?_
  clear hK K
  refine sched_step ?_
  repeat (go_big_quiet_step (fail))
  refine wpQuiet_nil ?_
  intro K hK
  rw [if_pos (by rfl)]
  go_simp
  refine (hcl.out _ (Mod.refl _ _)).mono ?_
  rintro e w8 ⟨rfl, hw8⟩; subst w8
  try dsimp only
  refine hK.out _ _ (Mod.refl _ _) ?_
  clear hK K
  clear hcl
  refine sched_step ?_
  repeat (go_big_quiet_step (fail))
  refine wpQuiet_nil ?_
  intro K hK
  rw [if_pos (by rfl)]
  go_simp
  refine (atail_sep (hS6.out.pick 2 (by simp)) hG.out i hi'.out).mono ?_
  rintro e w8 ⟨rfl, hw8⟩; subst w8
  try dsimp only
  refine hK.out _ _ (Mod.refl _ _) ?_
  clear hK K
  refine sched_step ?_
  repeat (go_big_quiet_step (fail))
  refine wpQuiet_nil ?_
  intro K hK
  rw [if_pos (by rfl)]
  go_simp
  refine (rtail_any n (Rd.own (hS6.out.pick 1 (by simp)).row) hMl i hi'.out).mono ?_
  rintro e w8 ⟨rfl, hm⟩
  try dsimp only
  refine hK.out _ _ hm ?_
  have hS7 := Lib.hid (hS6.out.still hm)
  clear hm hS6 t0 t1
  clear hK K
  have t0 : ∀ m : Fut (Mod []) w8, m.v.cell? ⟨T, 0, none⟩ = some (.int .i64 n) := fun m => (hS7.out.blk.keep m.of (by simp)).cell 0 rfl
  have t1 : ∀ m : Fut (Mod []) w8, m.v.cell? ⟨T, 1, none⟩ = some (.slice ar L.length cr) := fun m => (hS7.out.blk.keep m.of (by simp)).cell 1 rfl
  refine sched_step ?_
  repeat (go_big_quiet_step (fail))
  refine wpQuiet_nil ?_
  intro K hK
  rw [if_pos (by rfl)]
  go_simp
  refine (ahead_sep (hS7.out.pick 2 (by simp)) hG.out i).mono ?_
  rintro e w8 ⟨rfl, hw8⟩; subst w8
  try dsimp only
  refine hK.out _ _ (Mod.refl _ _) ?_
  clear hK K
  refine sched_step ?_
  repeat (go_big_quiet_step (fail))
  refine wpQuiet_nil ?_
  intro K hK
  rw [if_pos (by rfl)]
  go_simp
  refine (rhead_any n (Rd.own (hS7.out.pick 1 (by simp)).row) hMl i hi'.out).mono ?_
  rintro e w8 ⟨rfl, hm⟩
  try dsimp only
  refine hK.out _ _ hm ?_
  have hS8 := Lib.hid (hS7.out.still hm)
  clear hm hS7 t0 t1
  clear hK K
  have t0 : ∀ m : Fut (Mod []) w8, m.v.cell? ⟨T, 0, none⟩ = some (.int .i64 n) := fun m => (hS8.out.blk.keep m.of (by simp)).cell 0 rfl
  have t1 : ∀ m : Fut (Mod []) w8, m.v.cell? ⟨T, 1, none⟩ = some (.slice ar L.length cr) := fun m => (hS8.out.blk.keep m.of (by simp)).cell 1 rfl
  refine sched_step ?_
  repeat (go_big_quiet_step (fail))
  refine wpQuiet_nil ?_
  intro K hK
  rw [if_pos (by rfl)]
  go_simp
  refine (acap_sep (hS8.out.pick 2 (by simp)) hG.out i).mono ?_
  rintro e w8 ⟨rfl, hw8⟩; subst w8
  try dsimp only
  refine hK.out _ _ (Mod.refl _ _) ?_
  clear hK K
  refine sched_step ?_
  repeat (go_big_quiet_step (fail))
  refine wpQuiet_nil ?_
  intro K hK
  rw [if_pos (by rfl)]
  go_simp
  refine (rcap_any (Rd.own (hS8.out.pick 1 (by simp)).row) hG.out i hi'.out).mono ?_
  rintro e w8 ⟨rfl, hm⟩
  try dsimp only
  refine hK.out _ _ hm ?_
  have hS9 := Lib.hid (hS8.out.still hm)
  clear hm hS8 t0 t1
  clear hK K
  have t0 : ∀ m : Fut (Mod []) w8, m.v.cell? ⟨T, 0, none⟩ = some (.int .i64 n) := fun m => (hS9.out.blk.keep m.of (by simp)).cell 0 rfl
  have t1 : ∀ m : Fut (Mod []) w8, m.v.cell? ⟨T, 1, none⟩ = some (.slice ar L.length cr) := fun m => (hS9.out.blk.keep m.of (by simp)).cell 1 rfl
  refine sched_step ?_
  repeat (go_big_quiet_step (fail))
  refine wpQuiet_nil ?_
  intro K hK
  rw [if_pos (by rfl)]
  go_simp
  refine (aout_sep (hS9.out.pick 2 (by simp)) hG.out v).mono ?_
  rintro e w8 ⟨a5, c5, rfl, hm⟩
  try dsimp only
  refine hK.out _ _ hm.mod ?_
  have hT1 := Lib.hid (hS9.out.made hm)
  clear hm hS9 t0 t1
  clear hK K
  refine sched_step ?_
  repeat (go_big_quiet_step (fail))
  refine wpQuiet_nil ?_
  intro K hK
  rw [if_pos (by rfl)]
  go_simp
  refine (rout_any (Rd.own (hT1.out.pick 2 (by simp)).row) hG.out v).mono ?_
  rintro e w8 ⟨a6, c6, rfl, hm⟩
  try dsimp only
  refine hK.out _ _ hm.mod ?_
  have hT2 := Lib.hid (hT1.out.made hm)
  clear hm hT1
  clear hK K
  refine sched_step ?_
  repeat (go_big_quiet_step (fail))
  refine wpQuiet_nil ?_
  intro K hK
  rw [if_pos (by rfl)]
  go_simp
  refine (ints_rd hT2.out.swap.row hT2.out.row).mono ?_
  rintro e w8 ⟨rfl, hm⟩
  try dsimp only
  refine hK.out _ _ hm ?_
  have hT3 := Lib.hid (hT2.out.mod.trans hm (by simp))
  clear hm hT2
  clear hK K
  refine sched_step ?_
  repeat (go_big_quiet_step (fail))
  refine wpQuiet_nil ?_
  intro K hK
  rw [if_pos (by rfl)]
  go_simp
  refine (back_any i hi'.out _).mono ?_
  rintro e w8 ⟨rfl, hw8⟩; subst w8
  try dsimp only
  refine hK.out _ _ (Mod.refl _ _) ?_
  clear hK K
  refine sched_step ?_
  repeat (go_big_quiet_step (fail))
  refine wpQuiet_nil ?_
  intro K hK
  rw [if_pos (by rfl)]
  go_simp
  refine (rback_any i hi'.out _).mono ?_
  rintro e w8 ⟨rfl, hw8⟩; subst w8
  try dsimp only
  refine hK.out _ _ (Mod.refl _ _) ?_
  clear hK K
  refine sched_step ?_
  repeat (go_big_quiet_step (fail))
  refine wpQuiet_nil ?_
  intro K hK
  rw [if_pos (by rfl)]
  go_simp
  refine (half_any i hi'.out _).mono ?_
  rintro e w8 ⟨rfl, hw8⟩; subst w8
  try dsimp only
  refine hK.out _ _ (Mod.refl _ _) ?_
  clear hK K
  refine sched_step ?_
  repeat (go_big_quiet_step (fail))
  refine wpQuiet_nil ?_
  intro K hK
  rw [if_pos (by rfl)]
  go_simp
  refine (rhalf_any i hi'.out _).mono ?_
  rintro e w8 ⟨rfl, hw8⟩; subst w8
  try dsimp only
  refine hK.out _ _ (Mod.refl _ _) ?_
  clear hK K
  refine sched_step ?_
  repeat (go_big_quiet_step (fail))
  refine wpQuiet_nil ?_
  intro K hK
  rw [if_pos (by rfl)]
  go_simp
  refine (haw.out _).mono ?_
  rintro e w8 ⟨rfl, hm⟩
  try dsimp only
  refine hK.out _ _ hm ?_
  have hend := Lib.hid (hm0.out.trans (hT3.out.trans hm (by simp)) (by simp))
  clear hm hT3
  clear hK K
  refine sched_last ?_
  repeat (go_big_quiet_step (fail))
  refine wpQuiet_nil ?_
  go_wp2_with fail
  go_ret
  exact ⟨rfl, hend.out⟩
end Edge
end Go.Proofs.Ytkhbnopmeapfjaa
