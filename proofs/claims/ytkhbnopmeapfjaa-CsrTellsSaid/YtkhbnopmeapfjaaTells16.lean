/- NetTells: the graph and the reference's tell the same. -/
import Derived.Test.YtkhbnopmeapfjaaNetGet
import Derived.Test.YtkhbnopmeapfjaaRefN3
import Derived.Test.YtkhbnopmeapfjaaRefE4
import Derived.Test.YtkhbnopmeapfjaaIntsE
import Derived.Laws.EntriesVeiled
set_option linter.unusedVariables false
set_option linter.unusedSimpArgs false
namespace Go.Proofs.Ytkhbnopmeapfjaa
open Go.RowKit
namespace Edge
theorem newE_bad {n : Int} {l : List Ed} (h : newE n l ≠ (0, 0)) : (newE n l).1 ≠ 0 := fun hz => h (by
  unfold newE at hz ⊢
  split at hz
  · cases hz
  · split at hz
    · cases hz
    · rw [if_neg (by assumption), if_neg (by assumption)]; exact checksE_at hz)
theorem ints_rd {w : World} {a1 a2 : Option Addr} {c1 c2 : Nat} {xs : List Int} (ha : w.ownsRow 0 3 1 (.slice a1 xs.length c1) xs.length (i64s xs)) (hb : w.ownsRow 0 3 1 (.slice a2 xs.length c2) xs.length (i64s xs)) :
    Calls Try.prog 24 #[.slice a1 xs.length c1, .slice a2 xs.length c2] w fun e w' => e = .returned (.bool true) ∧ Mod [] w w' := by
  refine (ints_any (xs := xs) (ys := xs) (Reads.own ha) (Reads.own hb)).mono ?_
  rintro e w' ⟨rfl, hd⟩
  exact ⟨by simp [eqI], hd.mod⟩
theorem same_rd {w : World} {a1 a2 : Option Addr} {c1 c2 : Nat} {L : List Ed} (ha : w.ownsRow 0 41 3 (.slice a1 L.length c1) L.length (flat encEd L)) (hb : w.ownsRow 0 41 3 (.slice a2 L.length c2) L.length (flat encEd L)) :
    Calls Try.prog 20 #[.slice a1 L.length c1, .slice a2 L.length c2] w fun e w' => e = .returned (.bool true) ∧ Mod [] w w' := by
  refine (rsame_any (Rd.own ha) (Rd.own hb)).mono ?_
  rintro e w' ⟨rfl, hd⟩
  exact ⟨by simp, hd⟩
theorem near_made {w0 w : World} {b n : Nat} {L : List Ed} {R : List Part} (h : Sep w0 w (NetP b n L :: R)) (hG : GOk n L) (v : Int) : Calls Try.prog 13 #[.pointer (some ⟨b, 0, none⟩), .int .i64 v] w fun e w' => ∃ a c, e = .returned (.slice a (near n L v).length c) ∧ Made w w' 3 1 a (near n L v).length c (i64s (near n L v)) := by
  obtain ⟨F, h1, _⟩ := h.first
  exact near_net h1 hG v
set_option maxRecDepth 100000 in
set_option maxHeartbeats 8000000 in
theorem tells_any (n : Int) (u v : Int) {l : List Ed} {vs : Value} {w : World} (h : Rd w 3 vs l.length (flat encEd l)) :
    Calls Try.prog 4 #[.int .i64 n, vs, .agg #[.int .i64 u, .int .i64 v]] w fun e w' => e = .returned (.bool true) ∧ Mod [] w w' := by
  obtain ⟨a, c, rfl⟩ := h.val
  have hle := h.le
  have haw := Lib.hid (fun w => awake16 w)
  have hm0 := Lib.hid ((Mod.refl [] w).alloc (.cells #[.int .i64 u, .int .i64 v] 34))
  by_cases hbig : 100 < l.length
  · have hbig1 : (100 : Int) < l.length := by omega
    clear h
    go_enter Try.func4, Try.ntmps4
    go_wp2_with fail
    refine (haw.out _).mono ?_
    rintro e w1 ⟨rfl, hm⟩
    try dsimp only
    go_wp2_with fail
    go_ret
    exact ⟨rfl, hm0.out.trans hm (by simp)⟩
  have hbig1 : ¬ (100 : Int) < l.length := by omega
  have hnw := Lib.hid (new_net n (h.still hm0.out))
  have hrn := Lib.hid (fun W (m : Mod [] (w.alloc (.cells #[.int .i64 u, .int .i64 v] 34)) W) => rnew_any n ((h.still hm0.out).still m))
  have hU := Lib.hid (Has.new w [.int .i64 u, .int .i64 v] 34)
  clear h
  go_enter Try.func4, Try.ntmps4
  go_wp2_with fail
  refine hnw.out.mono ?_
  rintro e w1 hN
  rcases hN.out with ⟨hne, rfl, hm⟩ | ⟨he, b, rfl, hS⟩
  · have hz := newE_bad hne
    have hrn1 := Lib.hid (hrn.out _ hm)
    obtain ⟨q1, hq1⟩ : ∃ q, (newE n l).1 = q := ⟨_, rfl⟩
    obtain ⟨q2, hq2⟩ : ∃ q, (newE n l).2 = q := ⟨_, rfl⟩
    rw [hq1] at hz ⊢
    rw [hq2]
    have hz1 : (q1 == 0) = false := by simpa using hz
    have hz2 : (q1 != 0) = true := by simpa using hz
    have hne' := Lib.hid hne
    have hq1' := Lib.hid hq1
    have hq2' := Lib.hid hq2
    have hm1 := Lib.hid hm
    try dsimp only
    clear hN hne hnw hrn hq1 hq2 hm hz
    go_wp2_with fail
    refine hrn1.out.mono ?_
    rintro e w2 hR
    rcases hR.out with ⟨_, rfl, hm⟩ | ⟨he, _⟩
    case inr => exact absurd he hne'.out
    rw [hq1'.out, hq2'.out]
    have hm2 := Lib.hid (hm1.out.trans hm (by simp))
    try dsimp only
    clear hR hm hm1 hrn1
    go_wp2_with fail
    refine (haw.out _).mono ?_
    rintro e w3 ⟨rfl, hm3⟩
    try dsimp only
    have hm4 := Lib.hid ((hm0.out.trans (hm2.out.alloc (.cells #[.int .i64 0, .slice none 0 0, .int .i64 q1, .int .i64 q2] 38)) (by simp)).trans hm3 (by simp))
    clear hm3
    go_wp2_with fail
    go_ret
    exact ⟨rfl, hm4.out⟩
  have hG := Lib.hid (new_ok he)
  obtain ⟨N, rfl⟩ := Int.eq_ofNat_of_zero_le (newE_ok he).1
  rw [Int.toNat_natCast] at hG hS
  have hrn1 := Lib.hid (hrn.out _ hS.mod)
  have hU1 := Lib.hid (hU.out.keep hS.mod (by simp))
  have hS1 := Lib.hid hS
  have he' := Lib.hid he
  try dsimp only
  clear hN he hS hnw hrn hU
  go_wp2_with fail
  refine hrn1.out.mono ?_
  rintro e w2 hR
  rcases hR.out with ⟨hne, _⟩ | ⟨_, ar, cr, rfl, hmd⟩
  case inl => exact absurd he'.out hne
  generalize merged l = L at *
  have hMl : L.length ≤ 1048576 := hG.out.len
  have hS2 := Lib.hid ((((hS1.out.made hmd).box [.int .i64 N, .slice ar L.length cr, .int .i64 0, .int .i64 0] 38).pick 2 (by simp)))
  have hU2 := Lib.hid ((hU1.out.keep hmd.mod (by simp)).alloc (.cells #[.int .i64 N, .slice ar L.length cr, .int .i64 0, .int .i64 0] 38))
  try dsimp only
  have u0 := hU2.out.cell 0 rfl
  have u1 := hU2.out.cell 1 rfl
  have ul := hU2.out.lt
  clear hR hmd hrn1 hS1 hU1
  go_wp2_with fail
  go_quiet (fail)
  go_wp2_with fail
  refine (edge_sep (i := u) (hS2.out.still ((Mod.refl [] _).drewN _))).mono ?_
  rintro e w4 ⟨rfl, hm4⟩
  have hS4 := Lib.hid ((hS2.out.still ((Mod.refl [] _).drewN _)).still hm4)
  clear hm4 hS2 u0 u1 ul hU2
  generalize w2.heap.size = T at *
  have hT := hS4.out.swap.blk
  have t0 := hT.cell 0 rfl
  have t1 := hT.cell 1 rfl
  have tl := hT.lt
  have hrow := (hS4.out.pick 2 (by simp)).row
  have hgd := guardEd
  clear hT
  by_cases hin : 0 ≤ u ∧ u < L.length
  · obtain ⟨k, rfl⟩ := Int.eq_ofNat_of_zero_le hin.1
    have hk : k < L.length := by omega
    have e1 : edAt L (k : Int) = (L[k], true) := by unfold edAt; rw [dif_pos (by omega)]; simp
    rw [e1]
    obtain ⟨g, rfl, hg, _, q0, q1, q2⟩ := ed_row hrow hk
    have hq : ∀ w, _ = Result.ok _ w := fun w => eqEd L[k] L[k] w
    rw [show decide (L[k] = L[k]) = true by simp] at hq
    generalize L[k] = x at *
    obtain ⟨xu, xv, xw⟩ := x
    simp only at q0 q1 q2 hq
    have hk1 : (k : Int) < L.length := by omega
    clear hin hrow e1
    unfold edV
    try dsimp only
    go_wp2_with fail
    go_quiet (fail)
    go_upto_region 14 with fail
    generalize hW6 : World.drewN (World.alloc w4 _) _ = W6
    have hS6 := Lib.hid (show Sep _ W6 _ by rw [← hW6]; exact (hS4.out.still ((Mod.refl [] w4).alloc _)).still ((Mod.refl [] _).drewN _))
    clear t0 t1 tl q0 q1 q2 hq hW6 hS4 hg
    have hS7 := Lib.hid (hS6.out.still (Mod.refl [] W6).drew)
    have hsched := 0
    refine region_sched (G := Mod []) [([0,2],1), ([3,4,5,7,8,9,10],6), ([11,12,13,14,16,17,18],15), ([],19), ([20,21,22,23,24,26,27,28,29],25), ([],30), ([31,32,33,34,35,37,38,39],36), ([],40), ([41,42,43,44,45,47,48,49],46), ([],50), ([],51), ([52,53,54,56,57],55), ([],58), ([59,60,61],62)] [63,64] (by kernel_rfl) (by kernel_rfl) (by kernel_rfl) rfl (Mod.refl []) (fun _ _ _ h1 h2 => h1.trans h2 (by simp)) ?_
    simp only [stages, pickO, nthO, headO, List.append_eq, List.cons_append, List.nil_append]
    generalize W6.drew = W7 at *
    clear hsched hS6
    have t0 : ∀ m : Fut (Mod []) W7, m.v.cell? ⟨T, 0, none⟩ = some (.int .i64 N) := fun m => (hS7.out.swap.blk.keep m.of (by simp)).cell 0 rfl
    have t1 : ∀ m : Fut (Mod []) W7, m.v.cell? ⟨T, 1, none⟩ = some (.slice (some ⟨g, 0, none⟩) L.length cr) := fun m => (hS7.out.swap.blk.keep m.of (by simp)).cell 1 rfl
    refine sched_step ?_
    repeat (go_big_quiet_step (fail))
    refine wpQuiet_nil ?_
    intro K hK
    rw [if_pos (by rfl)]
    go_simp
    refine (n_sep hS7.out).mono ?_
    rintro e w8 ⟨rfl, rfl⟩
    try dsimp only
    refine hK.out _ _ (Mod.refl _ _) ?_
    clear hK K
    refine sched_step ?_
    repeat (go_big_quiet_step (fail))
    refine wpQuiet_nil ?_
    intro K hK
    rw [if_pos (by rfl)]
    go_simp
    refine (m_sep hS7.out).mono ?_
    rintro e w8 ⟨rfl, rfl⟩
    try dsimp only
    refine hK.out _ _ (Mod.refl _ _) ?_
    clear hK K
    refine sched_step ?_
    repeat (go_big_quiet_step (fail))
    refine wpQuiet_nil ?_
    intro K hK
    rw [if_pos (by rfl)]
    go_simp
    refine (edges_sep hS7.out hMl).mono ?_
    rintro e w8 ⟨a5, c5, rfl, hm⟩
    try dsimp only
    refine hK.out _ _ hm.mod ?_
    have hS8 := Lib.hid (hS7.out.made hm)
    clear hm t0 t1 hS7
    clear hK K
    refine sched_step ?_
    repeat (go_big_quiet_step (fail))
    refine wpQuiet_nil ?_
    intro K hK
    rw [if_pos (by rfl)]
    go_simp
    refine (same_rd hS8.out.row (hS8.out.pick 3 (by simp)).row).mono ?_
    rintro e w8 ⟨rfl, hm⟩
    try dsimp only
    refine hK.out _ _ hm ?_
    have hS9 := Lib.hid (hS8.out.tail.still hm)
    clear hm hS8
    have t0 : ∀ m : Fut (Mod []) w8, m.v.cell? ⟨T, 0, none⟩ = some (.int .i64 N) := fun m => (hS9.out.swap.blk.keep m.of (by simp)).cell 0 rfl
    have t1 : ∀ m : Fut (Mod []) w8, m.v.cell? ⟨T, 1, none⟩ = some (.slice (some ⟨g, 0, none⟩) L.length cr) := fun m => (hS9.out.swap.blk.keep m.of (by simp)).cell 1 rfl
    clear hK K
    refine sched_step ?_
    repeat (go_big_quiet_step (fail))
    refine wpQuiet_nil ?_
    intro K hK
    rw [if_pos (by rfl)]
    go_simp
    refine (weight_sep hS9.out hG.out (k : Int) v).mono ?_
    rintro e w8 ⟨rfl, hm⟩
    try dsimp only
    refine hK.out _ _ hm ?_
    have hS10 := Lib.hid (hS9.out.still hm)
    clear hm hS9 t0 t1
    clear hK K
    refine sched_step ?_
    repeat (go_big_quiet_step (fail))
    refine wpQuiet_nil ?_
    intro K hK
    rw [if_pos (by rfl)]
    go_simp
    refine (rweight_any N (Rd.own (hS10.out.pick 2 (by simp)).row) (k : Int) v).mono ?_
    rintro e w8 ⟨rfl, hm⟩
    try dsimp only
    refine hK.out _ _ hm ?_
    have hS11 := Lib.hid (hS10.out.still hm)
    clear hm hS10
    have t0 : ∀ m : Fut (Mod []) w8, m.v.cell? ⟨T, 0, none⟩ = some (.int .i64 N) := fun m => (hS11.out.swap.blk.keep m.of (by simp)).cell 0 rfl
    have t1 : ∀ m : Fut (Mod []) w8, m.v.cell? ⟨T, 1, none⟩ = some (.slice (some ⟨g, 0, none⟩) L.length cr) := fun m => (hS11.out.swap.blk.keep m.of (by simp)).cell 1 rfl
    clear hK K
    refine sched_step ?_
    repeat (go_big_quiet_step (fail))
    refine wpQuiet_nil ?_
    intro K hK
    rw [if_pos (by rfl)]
    go_simp
    refine (degree_sep hS11.out hG.out (k : Int)).mono ?_
    rintro e w8 ⟨rfl, rfl⟩
    try dsimp only
    refine hK.out _ _ (Mod.refl _ _) ?_
    clear t0 t1
    clear hK K
    refine sched_step ?_
    repeat (go_big_quiet_step (fail))
    refine wpQuiet_nil ?_
    intro K hK
    rw [if_pos (by rfl)]
    go_simp
    refine (rdegree_any (Rd.own (hS11.out.pick 2 (by simp)).row) hG.out (k : Int)).mono ?_
    rintro e w8 ⟨rfl, hm⟩
    try dsimp only
    refine hK.out _ _ hm ?_
    have hS12 := Lib.hid (hS11.out.still hm)
    clear hm hS11
    have t0 : ∀ m : Fut (Mod []) w8, m.v.cell? ⟨T, 0, none⟩ = some (.int .i64 N) := fun m => (hS12.out.swap.blk.keep m.of (by simp)).cell 0 rfl
    have t1 : ∀ m : Fut (Mod []) w8, m.v.cell? ⟨T, 1, none⟩ = some (.slice (some ⟨g, 0, none⟩) L.length cr) := fun m => (hS12.out.swap.blk.keep m.of (by simp)).cell 1 rfl
    clear hK K
    refine sched_step ?_
    repeat (go_big_quiet_step (fail))
    refine wpQuiet_nil ?_
    intro K hK
    rw [if_pos (by rfl)]
    go_simp
    refine (near_made hS12.out hG.out (k : Int)).mono ?_
    rintro e w8 ⟨a6, c6, rfl, hm⟩
    try dsimp only
    refine hK.out _ _ hm.mod ?_
    have hS13 := Lib.hid (hS12.out.made hm)
    clear hm hS12 t0 t1
    clear hK K
    refine sched_step ?_
    repeat (go_big_quiet_step (fail))
    refine wpQuiet_nil ?_
    intro K hK
    rw [if_pos (by rfl)]
    go_simp
    refine (rnear_any (Rd.own (hS13.out.pick 3 (by simp)).row) hG.out.le (k : Int)).mono ?_
    rintro e w8 ⟨a7, c7, rfl, hm⟩
    try dsimp only
    refine hK.out _ _ hm.mod ?_
    have hS14 := Lib.hid (hS13.out.made hm)
    clear hm hS13
    clear hK K
    refine sched_step ?_
    repeat (go_big_quiet_step (fail))
    refine wpQuiet_nil ?_
    intro K hK
    rw [if_pos (by rfl)]
    go_simp
    refine (ints_rd hS14.out.swap.row hS14.out.row).mono ?_
    rintro e w8 ⟨rfl, hm⟩
    try dsimp only
    refine hK.out _ _ hm ?_
    have hS15 := Lib.hid (hS14.out.tail.tail.still hm)
    clear hm hS14
    have t0 : ∀ m : Fut (Mod []) w8, m.v.cell? ⟨T, 0, none⟩ = some (.int .i64 N) := fun m => (hS15.out.swap.blk.keep m.of (by simp)).cell 0 rfl
    have t1 : ∀ m : Fut (Mod []) w8, m.v.cell? ⟨T, 1, none⟩ = some (.slice (some ⟨g, 0, none⟩) L.length cr) := fun m => (hS15.out.swap.blk.keep m.of (by simp)).cell 1 rfl
    clear hK K
    refine sched_step ?_
    repeat (go_big_quiet_step (fail))
    refine wpQuiet_nil ?_
    intro K hK
    rw [if_pos (by rfl)]
    go_simp
    refine (total_sep hS15.out).mono ?_
    rintro e w8 ⟨rfl, rfl⟩
    try dsimp only
    refine hK.out _ _ (Mod.refl _ _) ?_
    clear t0 t1
    clear hK K
    refine sched_step ?_
    repeat (go_big_quiet_step (fail))
    refine wpQuiet_nil ?_
    intro K hK
    rw [if_pos (by rfl)]
    go_simp
    refine (rtotal_any (Rd.own (hS15.out.pick 2 (by simp)).row) hG.out).mono ?_
    rintro e w8 ⟨rfl, hm⟩
    try dsimp only
    refine hK.out _ _ hm ?_
    have hS16 := Lib.hid (hS15.out.still hm)
    clear hm hS15
    clear hK K
    refine sched_step ?_
    repeat (go_big_quiet_step (fail))
    refine wpQuiet_nil ?_
    intro K hK
    rw [if_pos (by rfl)]
    go_simp
    refine (haw.out _).mono ?_
    rintro e w8 ⟨rfl, hm⟩
    try dsimp only
    refine hK.out _ _ hm ?_
    have hend := Lib.hid (hm0.out.trans (hS16.out.mod.trans hm (by simp)) (by simp))
    clear hm hS16
    clear hK K
    refine sched_last ?_
    repeat (go_big_quiet_step (fail))
    refine wpQuiet_nil ?_
    go_wp2_with fail
    go_ret
    exact ⟨rfl, hend.out⟩
  · have e1 : edAt L u = ((0, 0, 0), false) := by unfold edAt; rw [dif_neg hin]
    rw [e1]
    have hq : ∀ w, _ = Result.ok _ w := fun w => eqEd (0, 0, 0) (0, 0, 0) w
    rw [show decide (((0, 0, 0) : Ed) = (0, 0, 0)) = true by simp] at hq
    simp only at hq
    unfold edV
    try dsimp only
    rcases (show u < 0 ∨ (0 ≤ u ∧ (L.length : Int) ≤ u) by omega) with hu | ⟨hu, hu2⟩
    · clear hin e1 hrow
      go_wp2_with fail
      go_quiet (fail)
      go_upto_region 14 with fail
      generalize hW6 : World.drewN (World.alloc w4 _) _ = W6
      have hS6 := Lib.hid (show Sep _ W6 _ by rw [← hW6]; exact (hS4.out.still ((Mod.refl [] w4).alloc _)).still ((Mod.refl [] _).drewN _))
      clear t0 t1 tl hq hW6 hS4
      have hS7 := Lib.hid (hS6.out.still (Mod.refl [] W6).drew)
      have hsched := 0
      refine region_sched (G := Mod []) [([0,2],1), ([3,4,5,7,8,9,10],6), ([11,12,13,14,16,17,18],15), ([],19), ([20,21,22,23,24,26,27,28,29],25), ([],30), ([31,32,33,34,35,37,38,39],36), ([],40), ([41,42,43,44,45,47,48,49],46), ([],50), ([],51), ([52,53,54,56,57],55), ([],58), ([59,60,61],62)] [63,64] (by kernel_rfl) (by kernel_rfl) (by kernel_rfl) rfl (Mod.refl []) (fun _ _ _ h1 h2 => h1.trans h2 (by simp)) ?_
      simp only [stages, pickO, nthO, headO, List.append_eq, List.cons_append, List.nil_append]
      generalize W6.drew = W7 at *
      clear hsched hS6
      have t0 : ∀ m : Fut (Mod []) W7, m.v.cell? ⟨T, 0, none⟩ = some (.int .i64 N) := fun m => (hS7.out.swap.blk.keep m.of (by simp)).cell 0 rfl
      have t1 : ∀ m : Fut (Mod []) W7, m.v.cell? ⟨T, 1, none⟩ = some (.slice ar L.length cr) := fun m => (hS7.out.swap.blk.keep m.of (by simp)).cell 1 rfl
      refine sched_step ?_
      repeat (go_big_quiet_step (fail))
      refine wpQuiet_nil ?_
      intro K hK
      rw [if_pos (by rfl)]
      go_simp
      refine (n_sep hS7.out).mono ?_
      rintro e w8 ⟨rfl, rfl⟩
      try dsimp only
      refine hK.out _ _ (Mod.refl _ _) ?_
      clear hK K
      refine sched_step ?_
      repeat (go_big_quiet_step (fail))
      refine wpQuiet_nil ?_
      intro K hK
      rw [if_pos (by rfl)]
      go_simp
      refine (m_sep hS7.out).mono ?_
      rintro e w8 ⟨rfl, rfl⟩
      try dsimp only
      refine hK.out _ _ (Mod.refl _ _) ?_
      clear hK K
      refine sched_step ?_
      repeat (go_big_quiet_step (fail))
      refine wpQuiet_nil ?_
      intro K hK
      rw [if_pos (by rfl)]
      go_simp
      refine (edges_sep hS7.out hMl).mono ?_
      rintro e w8 ⟨a5, c5, rfl, hm⟩
      try dsimp only
      refine hK.out _ _ hm.mod ?_
      have hS8 := Lib.hid (hS7.out.made hm)
      clear hm t0 t1 hS7
      clear hK K
      refine sched_step ?_
      repeat (go_big_quiet_step (fail))
      refine wpQuiet_nil ?_
      intro K hK
      rw [if_pos (by rfl)]
      go_simp
      refine (same_rd hS8.out.row (hS8.out.pick 3 (by simp)).row).mono ?_
      rintro e w8 ⟨rfl, hm⟩
      try dsimp only
      refine hK.out _ _ hm ?_
      have hS9 := Lib.hid (hS8.out.tail.still hm)
      clear hm hS8
      have t0 : ∀ m : Fut (Mod []) w8, m.v.cell? ⟨T, 0, none⟩ = some (.int .i64 N) := fun m => (hS9.out.swap.blk.keep m.of (by simp)).cell 0 rfl
      have t1 : ∀ m : Fut (Mod []) w8, m.v.cell? ⟨T, 1, none⟩ = some (.slice ar L.length cr) := fun m => (hS9.out.swap.blk.keep m.of (by simp)).cell 1 rfl
      clear hK K
      refine sched_step ?_
      repeat (go_big_quiet_step (fail))
      refine wpQuiet_nil ?_
      intro K hK
      rw [if_pos (by rfl)]
      go_simp
      refine (weight_sep hS9.out hG.out u v).mono ?_
      rintro e w8 ⟨rfl, hm⟩
      try dsimp only
      refine hK.out _ _ hm ?_
      have hS10 := Lib.hid (hS9.out.still hm)
      clear hm hS9 t0 t1
      clear hK K
      refine sched_step ?_
      repeat (go_big_quiet_step (fail))
      refine wpQuiet_nil ?_
      intro K hK
      rw [if_pos (by rfl)]
      go_simp
      refine (rweight_any N (Rd.own (hS10.out.pick 2 (by simp)).row) u v).mono ?_
      rintro e w8 ⟨rfl, hm⟩
      try dsimp only
      refine hK.out _ _ hm ?_
      have hS11 := Lib.hid (hS10.out.still hm)
      clear hm hS10
      have t0 : ∀ m : Fut (Mod []) w8, m.v.cell? ⟨T, 0, none⟩ = some (.int .i64 N) := fun m => (hS11.out.swap.blk.keep m.of (by simp)).cell 0 rfl
      have t1 : ∀ m : Fut (Mod []) w8, m.v.cell? ⟨T, 1, none⟩ = some (.slice ar L.length cr) := fun m => (hS11.out.swap.blk.keep m.of (by simp)).cell 1 rfl
      clear hK K
      refine sched_step ?_
      repeat (go_big_quiet_step (fail))
      refine wpQuiet_nil ?_
      intro K hK
      rw [if_pos (by rfl)]
      go_simp
      refine (degree_sep hS11.out hG.out u).mono ?_
      rintro e w8 ⟨rfl, rfl⟩
      try dsimp only
      refine hK.out _ _ (Mod.refl _ _) ?_
      clear t0 t1
      clear hK K
      refine sched_step ?_
      repeat (go_big_quiet_step (fail))
      refine wpQuiet_nil ?_
      intro K hK
      rw [if_pos (by rfl)]
      go_simp
      refine (rdegree_any (Rd.own (hS11.out.pick 2 (by simp)).row) hG.out u).mono ?_
      rintro e w8 ⟨rfl, hm⟩
      try dsimp only
      refine hK.out _ _ hm ?_
      have hS12 := Lib.hid (hS11.out.still hm)
      clear hm hS11
      have t0 : ∀ m : Fut (Mod []) w8, m.v.cell? ⟨T, 0, none⟩ = some (.int .i64 N) := fun m => (hS12.out.swap.blk.keep m.of (by simp)).cell 0 rfl
      have t1 : ∀ m : Fut (Mod []) w8, m.v.cell? ⟨T, 1, none⟩ = some (.slice ar L.length cr) := fun m => (hS12.out.swap.blk.keep m.of (by simp)).cell 1 rfl
      clear hK K
      refine sched_step ?_
      repeat (go_big_quiet_step (fail))
      refine wpQuiet_nil ?_
      intro K hK
      rw [if_pos (by rfl)]
      go_simp
      refine (near_made hS12.out hG.out u).mono ?_
      rintro e w8 ⟨a6, c6, rfl, hm⟩
      try dsimp only
      refine hK.out _ _ hm.mod ?_
      have hS13 := Lib.hid (hS12.out.made hm)
      clear hm hS12 t0 t1
      clear hK K
      refine sched_step ?_
      repeat (go_big_quiet_step (fail))
      refine wpQuiet_nil ?_
      intro K hK
      rw [if_pos (by rfl)]
      go_simp
      refine (rnear_any (Rd.own (hS13.out.pick 3 (by simp)).row) hG.out.le u).mono ?_
      rintro e w8 ⟨a7, c7, rfl, hm⟩
      try dsimp only
      refine hK.out _ _ hm.mod ?_
      have hS14 := Lib.hid (hS13.out.made hm)
      clear hm hS13
      clear hK K
      refine sched_step ?_
      repeat (go_big_quiet_step (fail))
      refine wpQuiet_nil ?_
      intro K hK
      rw [if_pos (by rfl)]
      go_simp
      refine (ints_rd hS14.out.swap.row hS14.out.row).mono ?_
      rintro e w8 ⟨rfl, hm⟩
      try dsimp only
      refine hK.out _ _ hm ?_
      have hS15 := Lib.hid (hS14.out.tail.tail.still hm)
      clear hm hS14
      have t0 : ∀ m : Fut (Mod []) w8, m.v.cell? ⟨T, 0, none⟩ = some (.int .i64 N) := fun m => (hS15.out.swap.blk.keep m.of (by simp)).cell 0 rfl
      have t1 : ∀ m : Fut (Mod []) w8, m.v.cell? ⟨T, 1, none⟩ = some (.slice ar L.length cr) := fun m => (hS15.out.swap.blk.keep m.of (by simp)).cell 1 rfl
      clear hK K
      refine sched_step ?_
      repeat (go_big_quiet_step (fail))
      refine wpQuiet_nil ?_
      intro K hK
      rw [if_pos (by rfl)]
      go_simp
      refine (total_sep hS15.out).mono ?_
      rintro e w8 ⟨rfl, rfl⟩
      try dsimp only
      refine hK.out _ _ (Mod.refl _ _) ?_
      clear t0 t1
      clear hK K
      refine sched_step ?_
      repeat (go_big_quiet_step (fail))
      refine wpQuiet_nil ?_
      intro K hK
      rw [if_pos (by rfl)]
      go_simp
      refine (rtotal_any (Rd.own (hS15.out.pick 2 (by simp)).row) hG.out).mono ?_
      rintro e w8 ⟨rfl, hm⟩
      try dsimp only
      refine hK.out _ _ hm ?_
      have hS16 := Lib.hid (hS15.out.still hm)
      clear hm hS15
      clear hK K
      refine sched_step ?_
      repeat (go_big_quiet_step (fail))
      refine wpQuiet_nil ?_
      intro K hK
      rw [if_pos (by rfl)]
      go_simp
      refine (haw.out _).mono ?_
      rintro e w8 ⟨rfl, hm⟩
      try dsimp only
      refine hK.out _ _ hm ?_
      have hend := Lib.hid (hm0.out.trans (hS16.out.mod.trans hm (by simp)) (by simp))
      clear hm hS16
      clear hK K
      refine sched_last ?_
      repeat (go_big_quiet_step (fail))
      refine wpQuiet_nil ?_
      go_wp2_with fail
      go_ret
      exact ⟨rfl, hend.out⟩
    · have td : decide (u < (L.length : Int)) = false := by simp; omega
      have td2 : ¬ u < (L.length : Int) := by omega
      clear hin e1 hrow
      go_wp2_with fail
      go_quiet (fail)
      go_upto_region 14 with fail
      generalize hW6 : World.drewN (World.alloc w4 _) _ = W6
      have hS6 := Lib.hid (show Sep _ W6 _ by rw [← hW6]; exact (hS4.out.still ((Mod.refl [] w4).alloc _)).still ((Mod.refl [] _).drewN _))
      clear t0 t1 tl hq hW6 hS4
      have hS7 := Lib.hid (hS6.out.still (Mod.refl [] W6).drew)
      have hsched := 0
      refine region_sched (G := Mod []) [([0,2],1), ([3,4,5,7,8,9,10],6), ([11,12,13,14,16,17,18],15), ([],19), ([20,21,22,23,24,26,27,28,29],25), ([],30), ([31,32,33,34,35,37,38,39],36), ([],40), ([41,42,43,44,45,47,48,49],46), ([],50), ([],51), ([52,53,54,56,57],55), ([],58), ([59,60,61],62)] [63,64] (by kernel_rfl) (by kernel_rfl) (by kernel_rfl) rfl (Mod.refl []) (fun _ _ _ h1 h2 => h1.trans h2 (by simp)) ?_
      simp only [stages, pickO, nthO, headO, List.append_eq, List.cons_append, List.nil_append]
      generalize W6.drew = W7 at *
      clear hsched hS6
      have t0 : ∀ m : Fut (Mod []) W7, m.v.cell? ⟨T, 0, none⟩ = some (.int .i64 N) := fun m => (hS7.out.swap.blk.keep m.of (by simp)).cell 0 rfl
      have t1 : ∀ m : Fut (Mod []) W7, m.v.cell? ⟨T, 1, none⟩ = some (.slice ar L.length cr) := fun m => (hS7.out.swap.blk.keep m.of (by simp)).cell 1 rfl
      refine sched_step ?_
      repeat (go_big_quiet_step (fail))
      refine wpQuiet_nil ?_
      intro K hK
      rw [if_pos (by rfl)]
      go_simp
      refine (n_sep hS7.out).mono ?_
      rintro e w8 ⟨rfl, rfl⟩
      try dsimp only
      refine hK.out _ _ (Mod.refl _ _) ?_
      clear hK K
      refine sched_step ?_
      repeat (go_big_quiet_step (fail))
      refine wpQuiet_nil ?_
      intro K hK
      rw [if_pos (by rfl)]
      go_simp
      refine (m_sep hS7.out).mono ?_
      rintro e w8 ⟨rfl, rfl⟩
      try dsimp only
      refine hK.out _ _ (Mod.refl _ _) ?_
      clear hK K
      refine sched_step ?_
      repeat (go_big_quiet_step (fail))
      refine wpQuiet_nil ?_
      intro K hK
      rw [if_pos (by rfl)]
      go_simp
      refine (edges_sep hS7.out hMl).mono ?_
      rintro e w8 ⟨a5, c5, rfl, hm⟩
      try dsimp only
      refine hK.out _ _ hm.mod ?_
      have hS8 := Lib.hid (hS7.out.made hm)
      clear hm t0 t1 hS7
      clear hK K
      refine sched_step ?_
      repeat (go_big_quiet_step (fail))
      refine wpQuiet_nil ?_
      intro K hK
      rw [if_pos (by rfl)]
      go_simp
      refine (same_rd hS8.out.row (hS8.out.pick 3 (by simp)).row).mono ?_
      rintro e w8 ⟨rfl, hm⟩
      try dsimp only
      refine hK.out _ _ hm ?_
      have hS9 := Lib.hid (hS8.out.tail.still hm)
      clear hm hS8
      have t0 : ∀ m : Fut (Mod []) w8, m.v.cell? ⟨T, 0, none⟩ = some (.int .i64 N) := fun m => (hS9.out.swap.blk.keep m.of (by simp)).cell 0 rfl
      have t1 : ∀ m : Fut (Mod []) w8, m.v.cell? ⟨T, 1, none⟩ = some (.slice ar L.length cr) := fun m => (hS9.out.swap.blk.keep m.of (by simp)).cell 1 rfl
      clear hK K
      refine sched_step ?_
      repeat (go_big_quiet_step (fail))
      refine wpQuiet_nil ?_
      intro K hK
      rw [if_pos (by rfl)]
      go_simp
      refine (weight_sep hS9.out hG.out u v).mono ?_
      rintro e w8 ⟨rfl, hm⟩
      try dsimp only
      refine hK.out _ _ hm ?_
      have hS10 := Lib.hid (hS9.out.still hm)
      clear hm hS9 t0 t1
      clear hK K
      refine sched_step ?_
      repeat (go_big_quiet_step (fail))
      refine wpQuiet_nil ?_
      intro K hK
      rw [if_pos (by rfl)]
      go_simp
      refine (rweight_any N (Rd.own (hS10.out.pick 2 (by simp)).row) u v).mono ?_
      rintro e w8 ⟨rfl, hm⟩
      try dsimp only
      refine hK.out _ _ hm ?_
      have hS11 := Lib.hid (hS10.out.still hm)
      clear hm hS10
      have t0 : ∀ m : Fut (Mod []) w8, m.v.cell? ⟨T, 0, none⟩ = some (.int .i64 N) := fun m => (hS11.out.swap.blk.keep m.of (by simp)).cell 0 rfl
      have t1 : ∀ m : Fut (Mod []) w8, m.v.cell? ⟨T, 1, none⟩ = some (.slice ar L.length cr) := fun m => (hS11.out.swap.blk.keep m.of (by simp)).cell 1 rfl
      clear hK K
      refine sched_step ?_
      repeat (go_big_quiet_step (fail))
      refine wpQuiet_nil ?_
      intro K hK
      rw [if_pos (by rfl)]
      go_simp
      refine (degree_sep hS11.out hG.out u).mono ?_
      rintro e w8 ⟨rfl, rfl⟩
      try dsimp only
      refine hK.out _ _ (Mod.refl _ _) ?_
      clear t0 t1
      clear hK K
      refine sched_step ?_
      repeat (go_big_quiet_step (fail))
      refine wpQuiet_nil ?_
      intro K hK
      rw [if_pos (by rfl)]
      go_simp
      refine (rdegree_any (Rd.own (hS11.out.pick 2 (by simp)).row) hG.out u).mono ?_
      rintro e w8 ⟨rfl, hm⟩
      try dsimp only
      refine hK.out _ _ hm ?_
      have hS12 := Lib.hid (hS11.out.still hm)
      clear hm hS11
      have t0 : ∀ m : Fut (Mod []) w8, m.v.cell? ⟨T, 0, none⟩ = some (.int .i64 N) := fun m => (hS12.out.swap.blk.keep m.of (by simp)).cell 0 rfl
      have t1 : ∀ m : Fut (Mod []) w8, m.v.cell? ⟨T, 1, none⟩ = some (.slice ar L.length cr) := fun m => (hS12.out.swap.blk.keep m.of (by simp)).cell 1 rfl
      clear hK K
      refine sched_step ?_
      repeat (go_big_quiet_step (fail))
      refine wpQuiet_nil ?_
      intro K hK
      rw [if_pos (by rfl)]
      go_simp
      refine (near_made hS12.out hG.out u).mono ?_
      rintro e w8 ⟨a6, c6, rfl, hm⟩
      try dsimp only
      refine hK.out _ _ hm.mod ?_
      have hS13 := Lib.hid (hS12.out.made hm)
      clear hm hS12 t0 t1
      clear hK K
      refine sched_step ?_
      repeat (go_big_quiet_step (fail))
      refine wpQuiet_nil ?_
      intro K hK
      rw [if_pos (by rfl)]
      go_simp
      refine (rnear_any (Rd.own (hS13.out.pick 3 (by simp)).row) hG.out.le u).mono ?_
      rintro e w8 ⟨a7, c7, rfl, hm⟩
      try dsimp only
      refine hK.out _ _ hm.mod ?_
      have hS14 := Lib.hid (hS13.out.made hm)
      clear hm hS13
      clear hK K
      refine sched_step ?_
      repeat (go_big_quiet_step (fail))
      refine wpQuiet_nil ?_
      intro K hK
      rw [if_pos (by rfl)]
      go_simp
      refine (ints_rd hS14.out.swap.row hS14.out.row).mono ?_
      rintro e w8 ⟨rfl, hm⟩
      try dsimp only
      refine hK.out _ _ hm ?_
      have hS15 := Lib.hid (hS14.out.tail.tail.still hm)
      clear hm hS14
      have t0 : ∀ m : Fut (Mod []) w8, m.v.cell? ⟨T, 0, none⟩ = some (.int .i64 N) := fun m => (hS15.out.swap.blk.keep m.of (by simp)).cell 0 rfl
      have t1 : ∀ m : Fut (Mod []) w8, m.v.cell? ⟨T, 1, none⟩ = some (.slice ar L.length cr) := fun m => (hS15.out.swap.blk.keep m.of (by simp)).cell 1 rfl
      clear hK K
      refine sched_step ?_
      repeat (go_big_quiet_step (fail))
      refine wpQuiet_nil ?_
      intro K hK
      rw [if_pos (by rfl)]
      go_simp
      refine (total_sep hS15.out).mono ?_
      rintro e w8 ⟨rfl, rfl⟩
      try dsimp only
      refine hK.out _ _ (Mod.refl _ _) ?_
      clear t0 t1
      clear hK K
      refine sched_step ?_
      repeat (go_big_quiet_step (fail))
      refine wpQuiet_nil ?_
      intro K hK
      rw [if_pos (by rfl)]
      go_simp
      refine (rtotal_any (Rd.own (hS15.out.pick 2 (by simp)).row) hG.out).mono ?_
      rintro e w8 ⟨rfl, hm⟩
      try dsimp only
      refine hK.out _ _ hm ?_
      have hS16 := Lib.hid (hS15.out.still hm)
      clear hm hS15
      clear hK K
      refine sched_step ?_
      repeat (go_big_quiet_step (fail))
      refine wpQuiet_nil ?_
      intro K hK
      rw [if_pos (by rfl)]
      go_simp
      refine (haw.out _).mono ?_
      rintro e w8 ⟨rfl, hm⟩
      try dsimp only
      refine hK.out _ _ hm ?_
      have hend := Lib.hid (hm0.out.trans (hS16.out.mod.trans hm (by simp)) (by simp))
      clear hm hS16
      clear hK K
      refine sched_last ?_
      repeat (go_big_quiet_step (fail))
      refine wpQuiet_nil ?_
      go_wp2_with fail
      go_ret
      exact ⟨rfl, hend.out⟩
end Edge
end Go.Proofs.Ytkhbnopmeapfjaa
