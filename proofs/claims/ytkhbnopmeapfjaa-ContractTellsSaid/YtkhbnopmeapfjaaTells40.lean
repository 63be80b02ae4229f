/- ContractTells: the graph of a naming, and of two vertices put together; the reference's are the same. -/
import Derived.Test.YtkhbnopmeapfjaaAwake40
import Derived.Test.YtkhbnopmeapfjaaRefE4
set_option linter.unusedVariables false
set_option linter.unusedSimpArgs false
namespace Go.Proofs.Ytkhbnopmeapfjaa
open Go.RowKit
namespace Edge
theorem newE_bad4 {n : Int} {l : List Ed} (h : newE n l ≠ (0, 0)) : (newE n l).1 ≠ 0 := fun hz => h (by
  unfold newE at hz ⊢
  split at hz
  · cases hz
  · split at hz
    · cases hz
    · rw [if_neg (by assumption), if_neg (by assumption)]; exact checksE_at hz)
theorem same_rd4 {w : World} {a1 a2 : Option Addr} {c1 c2 : Nat} {L : List Ed} (ha : w.ownsRow 0 41 3 (.slice a1 L.length c1) L.length (flat encEd L)) (hb : w.ownsRow 0 41 3 (.slice a2 L.length c2) L.length (flat encEd L)) :
    Calls Try.prog 20 #[.slice a1 L.length c1, .slice a2 L.length c2] w fun e w' => e = .returned (.bool true) ∧ Mod [] w w' := by
  refine (rsame_any (Rd.own ha) (Rd.own hb)).mono ?_
  rintro e w' ⟨rfl, hd⟩
  exact ⟨by simp, hd⟩
theorem ints_rd4 {w : World} {n : Nat} {a1 a2 : Option Addr} {c1 c2 : Nat} {xs : List Int} (hl : xs.length = n) (ha : w.ownsRow 0 3 1 (.slice a1 n c1) n (i64s xs)) (hb : w.ownsRow 0 3 1 (.slice a2 n c2) n (i64s xs)) :
    Calls Try.prog 24 #[.slice a1 n c1, .slice a2 n c2] w fun e w' => e = .returned (.bool true) ∧ Mod [] w w' := by
  subst hl
  refine (ints_any (xs := xs) (ys := xs) (Reads.own ha) (Reads.own hb)).mono ?_
  rintro e w' ⟨rfl, hd⟩
  exact ⟨by simp [eqI], hd.mod⟩
/-- Parts of two lists, side by side. -/
theorem parts_join {w : World} : ∀ {A L : List Part} {F G : List Nat}, Parts w A F → Parts w L G → (∀ b ∈ F, b ∉ G) → Parts w (A ++ L) (F ++ G)
  | [], L, F, G, h, k, _ => by
    have e : F = [] := h
    subst e
    exact k
  | P :: A, L, F, G, h, k, hd => by
    obtain ⟨g, F1, F2, rfl, h1, h2, h3⟩ := h
    refine ⟨g, F1, F2 ++ G, by simp, h1, parts_join h2 k (fun b hb => hd b (by simp [hb])), fun b hb hb2 => ?_⟩
    rcases List.mem_append.1 hb2 with hb2 | hb2
    · exact h3 b hb hb2
    · exact hd b (by simp [hb]) hb2
/-- What is made behind one world lies beside what was there. -/
theorem sep_join {w0 w1 w2 : World} {A L : List Part} (h : Sep w0 w1 L) (k : Sep w1 w2 A) : Sep w0 w2 (A ++ L) := by
  obtain ⟨F, hp, hm, hb⟩ := k.out
  obtain ⟨G, q1, q2, q3⟩ := h.out
  refine ⟨F ++ G, parts_join hp (q1.keep hm (by simp)) (fun b hb1 hb2 => ?_), q2.trans hm (by simp), fun b hb1 => ?_⟩
  · have := hb b hb1
    have := q1.lt b hb2
    omega
  · rcases List.mem_append.1 hb1 with h5 | h5
    · exact Nat.le_trans q2.size (hb b h5)
    · exact q3 b h5
theorem pairE_zero {n : Nat} {u v : Int} (h : pairE n u v = 0) : (0 ≤ u ∧ u < n) ∧ (0 ≤ v ∧ v < n) ∧ u ≠ v := by
  unfold pairE at h
  split at h
  · omega
  · split at h
    · omega
    · omega
/-- Few edges, merged: none weighs too much to be split. -/
theorem few_ok {n : Nat} {l : List Ed} (he : newE n l = (0, 0)) (hl : l.length ≤ 60) : ((merged l).length : Int) * 2147483648 + total (merged l) ≤ 2251799813685248 := by
  obtain ⟨h1, h2, h3, h4⟩ := newE_ok he
  have hc : ∀ e ∈ l, 0 ≤ e.1 ∧ e.1 < (n : Int) ∧ 0 ≤ e.2.1 ∧ e.2.1 < (n : Int) ∧ 0 ≤ e.2.2 := fun e he => by have := checkE_ok.1 (h4 e he); omega
  obtain ⟨_, h6, h7⟩ := merged_gen hc
  have h8 := (total_le (l := l) (fun e he => by have := checkE_ok.1 (h4 e he); omega)).2
  omega
set_option maxRecDepth 100000 in
set_option maxHeartbeats 16000000 in
theorem tells40_any (n : Nat) (hn : n ≤ 255) (K u v : Int) {l : List Ed} {name : List Int} {vs vn : Value} {w : World} (h : Rd w 3 vs l.length (flat encEd l)) (hname : Rd w 1 vn name.length (i64s name)) :
    Calls Try.prog 8 #[.int .u8 n, vs, .agg #[.int .i64 K, vn, .int .i64 u, .int .i64 v]] w fun e w' => e = .returned (.bool true) ∧ Mod [] w w' := by
  obtain ⟨a, c, rfl⟩ := h.val
  obtain ⟨an, cn, rfl⟩ := hname.val
  have hle := h.le
  have hlen := hname.le
  have haw := Lib.hid (fun w => awake40 w)
  have hm0 := Lib.hid ((Mod.refl [] w).alloc (.cells #[.int .i64 K, .slice an name.length cn, .int .i64 u, .int .i64 v] 60))
  have hU := Lib.hid (Has.new w [.int .i64 K, .slice an name.length cn, .int .i64 u, .int .i64 v] 60)
  have hnw := Lib.hid (new_net (n : Int) (h.still hm0.out))
  have hrn := Lib.hid (fun W (m : Mod [] (w.alloc (.cells #[.int .i64 K, .slice an name.length cn, .int .i64 u, .int .i64 v] 60)) W) => rnew_any (n : Int) ((h.still hm0.out).still m))
  have hnm := Lib.hid (fun W (m : Mod [] (w.alloc (.cells #[.int .i64 K, .slice an name.length cn, .int .i64 u, .int .i64 v] 60)) W) => (hname.still hm0.out).still m)
  have u0 := hU.out.cell 0 rfl
  have u1 := hU.out.cell 1 rfl
  have ul := hU.out.lt
  by_cases hbig : 60 < l.length ∨ 300 < name.length ∨ 300 < K
  · have hbo : Hid (∀ W, Calls Try.prog 44 #[] W fun e w' => e = .returned (.bool true) ∧ Mod [] W w') := Lib.hid (fun W => awake40 W)
    rcases (show 60 < l.length ∨ (¬ 60 < l.length ∧ 300 < name.length) ∨ (¬ 60 < l.length ∧ ¬ 300 < name.length ∧ 300 < K) by omega) with h1 | ⟨h1, h2⟩ | ⟨h1, h2, h3⟩
    case' inl => have b1 : (60 : Int) < l.length := by omega
    case' inr.inl =>
      have b1 : ¬ (60 : Int) < l.length := by omega
      have b2 : (300 : Int) < name.length := by omega
    case' inr.inr =>
      have b1 : ¬ (60 : Int) < l.length := by omega
      have b2 : ¬ (300 : Int) < name.length := by omega
    all_goals
      clear h hname hbig hnw hrn hnm
      go_enter Try.func8, Try.ntmps8
      go_wp2_with fail
      refine (haw.out _).mono ?_
      rintro e w1 ⟨rfl, hm⟩
      try dsimp only
      go_wp2_with fail
      go_ret
      exact ⟨rfl, hm0.out.trans hm (by simp)⟩
  have b1 : ¬ (60 : Int) < l.length := by omega
  have b2 : ¬ (300 : Int) < name.length := by omega
  have b3 : ¬ (300 : Int) < K := by omega
  have hl60 : l.length ≤ 60 := by omega
  clear h hname hbig
  go_enter Try.func8, Try.ntmps8
  go_wp2_with fail
  refine hnw.out.mono ?_
  rintro e w1 hN
  clear u0 u1 ul
  rcases hN.out with ⟨hne, rfl, hm⟩ | ⟨he, b, rfl, hS⟩
  · have hz := newE_bad4 hne
    generalize (newE n l).1 = q at *
    generalize (newE n l).2 = q2 at *
    have hm1 := Lib.hid (hm0.out.trans hm (by simp))
    try dsimp only
    clear hN hne hnw hrn hm hU hnm
    have hz1 : (q == 0) = false := by simpa using hz
    have hz2 : (q != 0) = true := by simpa using hz
    clear hz
    go_wp2_with fail
    refine (of_none _).mono ?_
    rintro e w2 hO
    rcases hO.out with ⟨hbad, _⟩ | ⟨_, b2, rfl, hS2⟩
    · exact absurd ⟨rfl, ⟨by omega, by omega, by simp⟩, by simp, fun v hv => by omega⟩ hbad
    have hm2 := Lib.hid (hm1.out.trans hS2.mod (by simp))
    clear hO hS2 hm1
    try dsimp only
    go_wp2_with fail
    refine (pair_none _).mono ?_
    rintro e w3 hO
    rcases hO.out with ⟨_, rfl, hm3⟩ | ⟨hbad, _⟩
    case inr => exact absurd hbad (by decide)
    rw [show pairE 0 0 1 = 4 by decide]
    have hm4 := Lib.hid (hm2.out.trans hm3 (by simp))
    clear hO hm3 hm2
    try dsimp only
    go_wp2_with fail
    refine (haw.out _).mono ?_
    rintro e w4 ⟨rfl, hm5⟩
    try dsimp only
    go_wp2_with fail
    go_ret
    exact ⟨rfl, hm4.out.trans hm5 (by simp)⟩
  have hG := Lib.hid (new_ok he)
  have hP := Lib.hid (few_ok he hl60)
  rw [Int.toNat_natCast] at hG hS
  have hS1 := Lib.hid hS
  have he' := Lib.hid he
  have hrn1 := Lib.hid (hrn.out _ hS.mod)
  try dsimp only
  clear hN he hS hnw hrn
  go_wp2_with fail
  refine hrn1.out.mono ?_
  rintro e w3 hR
  rcases hR.out with ⟨hne, _⟩ | ⟨_, ar, cr, rfl, hmd⟩
  case inl => exact absurd he'.out hne
  generalize merged l = L at *
  have hMl : L.length ≤ 1048576 := hG.out.len
  have hS3 := Lib.hid ((((hS1.out.made hmd).box [.int .i64 n, .slice ar L.length cr] 36)).pick 2 (by simp))
  try dsimp only
  clear hR hmd hrn1 hS1
  go_upto_region 9 with fail
  generalize hW4 : w3.alloc (.cells #[.int .i64 n, .slice ar L.length cr] 36) = W4 at *
  have hS4 : Hid (Sep (w.alloc (.cells #[.int .i64 K, .slice an name.length cn, .int .i64 u, .int .i64 v] 60)) W4 [NetP b n L, Blk w3.heap.size [.int .i64 n, .slice ar L.length cr] 36, Row 41 3 L.length (.slice ar L.length cr) (flat encEd L)]) := hS3
  clear hW4 hS3
  generalize w3.heap.size = T at *
  have hU4 := hU.out.keep hS4.out.mod (by simp)
  have u0 := hU4.cell 0 rfl
  have u1 := hU4.cell 1 rfl
  have ul := hU4.lt
  have cof := Lib.hid (of_sep hS4.out hG.out hP.out K (hnm.out _ hS4.out.mod))
  clear hU4
  go_wp2_with fail
  refine cof.out.mono ?_
  rintro e w5 hO
  clear cof u0 u1 ul
  -- what the reference makes of the naming
  rcases hO.out with ⟨hno, rfl, hm5⟩ | ⟨hyes, b2, rfl, hA⟩
  case' inl =>
    have hno' := Lib.hid hno
    have hS5 := Lib.hid (hS4.out.still hm5)
    clear hO hno hm5 hS4
    have hU4 := hU.out.keep hS5.out.mod (by simp)
    have u0 := hU4.cell 0 rfl
    have u1 := hU4.cell 1 rfl
    have ul := hU4.lt
    have t0 := (hS5.out.blkAt 1 rfl).cell 0 rfl
    have t1 := (hS5.out.blkAt 1 rfl).cell 1 rfl
    have tl := (hS5.out.blkAt 1 rfl).lt
    have crf := Lib.hid (rof_any (n := n) (Rd.own (hS5.out.rowAt 2 rfl)) hG.out K (hnm.out _ hS5.out.mod))
    unfold netV at crf
    clear hU4
    try dsimp only
    go_wp2_with fail
    refine crf.out.mono ?_
    rintro e w6 hO
    rcases hO.out with ⟨_, rfl, hm6⟩ | ⟨hbad, _⟩
    case inr => exact absurd hbad hno'.out
    have hS6 := Lib.hid ((hS5.out.still hm6).box [.int .i64 0, .slice none 0 0, .int .i64 1] 66)
    clear hO hm6 hS5 crf u0 u1 ul t0 t1 tl
    try dsimp only
    go_upto_region 11 with fail
    generalize hW7 : w6.alloc (.cells [.int .i64 0, .slice none 0 0, .int .i64 1].toArray 66) = W7 at *
    have hW7' := Lib.hid hW7
    clear hW7
    try rw [hW7'.out]
    clear hW7'
    generalize w6.heap.size = X at *
    have e2 : ∀ m : Fut (Mod []) W7.drew, m.v.cell? ⟨X, 2, none⟩ = some (.int .i64 1) := fun m => ((hS6.out.blkAt 0 rfl).keep ((Mod.refl [] W7).drew.trans m.of (by simp)) (by simp)).cell 2 rfl
    refine region_sched (G := Mod []) [([0,1,2,3,4,5,6,7,8,9,10,11,12,13,14,15,17,18],16), ([19,20,21,23,24,25],22), ([],26)] [27,28,29,30] (by kernel_rfl) (by kernel_rfl) (by kernel_rfl) rfl (Mod.refl []) (fun _ _ _ h1 h2 => h1.trans h2 (by simp)) ?_
    simp only [stages, pickO, nthO, headO, List.append_eq, List.cons_append, List.nil_append]
    refine sched_step ?_
    repeat (go_big_quiet_step (fail))
    refine wpQuiet_nil ?_
    intro K' hK
    rw [if_neg (by exact Bool.false_ne_true)]
    go_simp
    refine hK.out _ _ (Mod.refl [] _) ?_
    clear hK K'
    refine sched_step ?_
    repeat (go_big_quiet_step (fail))
    refine wpQuiet_nil ?_
    intro K' hK
    rw [if_neg (by exact Bool.false_ne_true)]
    go_simp
    refine hK.out _ _ (Mod.refl [] _) ?_
    clear hK K'
    refine sched_step ?_
    refine wpQuiet_nil ?_
    intro K' hK
    rw [if_neg (by exact Bool.false_ne_true)]
    go_simp
    refine hK.out _ _ (Mod.refl [] _) ?_
    clear hK K'
    refine sched_last ?_
    repeat (go_big_quiet_step (fail))
    refine wpQuiet_nil ?_
    have hS9 := Lib.hid ((hS6.out.still (Mod.refl [] W7).drew).tail)
    clear hS6 e2
    generalize W7.drew = W9 at *
    go_upto_region 13 with fail
  case' inr =>
    obtain ⟨kk, rfl⟩ := Int.eq_ofNat_of_zero_le hyes.2.1.1
    have hyes' := Lib.hid hyes
    have hG2 := con_ok hG.out hyes
    rw [Int.toNat_natCast] at hA hG2
    have hMl2 := hG2.len
    obtain ⟨F2, hP2, hF2, _⟩ := hA.first
    have hS5 := Lib.hid (hS4.out.add hA.mod hP2 (fun x hx => (hF2 x hx).2))
    clear hO hyes hA hP2 hF2 hG2 hS4
    have hU4 := hU.out.keep hS5.out.mod (by simp)
    have u0 := hU4.cell 0 rfl
    have u1 := hU4.cell 1 rfl
    have ul := hU4.lt
    have t0 := (hS5.out.blkAt 2 rfl).cell 0 rfl
    have t1 := (hS5.out.blkAt 2 rfl).cell 1 rfl
    have tl := (hS5.out.blkAt 2 rfl).lt
    have crf := Lib.hid (rof_any (n := n) (Rd.own (hS5.out.rowAt 3 rfl)) hG.out (kk : Int) (hnm.out _ hS5.out.mod))
    unfold netV at crf
    clear hU4
    try dsimp only
    go_wp2_with fail
    refine crf.out.mono ?_
    rintro e w6 hO
    rcases hO.out with ⟨hbad, _⟩ | ⟨_, a6, c6, rfl, hmd6⟩
    case inl => exact absurd hyes'.out hbad
    generalize merged (mapL name L) = M at *
    have hS6 := Lib.hid ((hS5.out.made hmd6).box [.int .i64 (kk : Int), .slice a6 M.length c6, .int .i64 0] 66)
    clear hO hmd6 hS5 crf u0 u1 ul t0 t1 tl
    try dsimp only
    go_upto_region 11 with fail
    generalize hW7 : w6.alloc (.cells [.int .i64 (kk : Int), .slice a6 M.length c6, .int .i64 0].toArray 66) = W7 at *
    have hW7' := Lib.hid hW7
    clear hW7
    try rw [hW7'.out]
    clear hW7'
    generalize w6.heap.size = X at *
    have hU7 := Lib.hid (hU.out.keep hS6.out.mod (by simp))
    have e1 : ∀ m : Fut (Mod []) W7.drew, m.v.cell? ⟨X, 1, none⟩ = some (.slice a6 M.length c6) := fun m => ((hS6.out.blkAt 0 rfl).keep ((Mod.refl [] W7).drew.trans m.of (by simp)) (by simp)).cell 1 rfl
    have e2 : ∀ m : Fut (Mod []) W7.drew, m.v.cell? ⟨X, 2, none⟩ = some (.int .i64 0) := fun m => ((hS6.out.blkAt 0 rfl).keep ((Mod.refl [] W7).drew.trans m.of (by simp)) (by simp)).cell 2 rfl
    have e3 : ∀ m : Fut (Mod []) W7.drew, m.v.cell? ⟨w.heap.size, 0, none⟩ = some (.int .i64 (kk : Int)) := fun m => (hU7.out.keep ((Mod.refl [] W7).drew.trans m.of (by simp)) (by simp)).cell 0 rfl
    have hS7 := Lib.hid (hS6.out.still (Mod.refl [] W7).drew)
    clear hS6 hU7
    refine region_sched (G := Mod []) [([0,1,2,3,4,5,6,7,8,9,10,11,12,13,14,15,17,18],16), ([19,20,21,23,24,25],22), ([],26)] [27,28,29,30] (by kernel_rfl) (by kernel_rfl) (by kernel_rfl) rfl (Mod.refl []) (fun _ _ _ h1 h2 => h1.trans h2 (by simp)) ?_
    simp only [stages, pickO, nthO, headO, List.append_eq, List.cons_append, List.nil_append]
    refine sched_step ?_
    repeat (go_big_quiet_step (fail))
    refine wpQuiet_nil ?_
    intro K' hK
    rw [if_pos (by rfl)]
    go_simp
    refine (n_sep (hS7.out.pick 2 (by simp))).mono ?_
    rintro e w8 ⟨rfl, hw8⟩
    subst w8
    try dsimp only
    refine hK.out _ _ (Mod.refl _ _) ?_
    clear hK K'
    refine sched_step ?_
    repeat (go_big_quiet_step (fail))
    refine wpQuiet_nil ?_
    intro K' hK
    rw [if_pos (by rfl)]
    go_simp
    refine (edges_sep (hS7.out.pick 2 (by simp)) hMl2).mono ?_
    rintro e w8 ⟨a7, c7, rfl, hmd⟩
    try dsimp only
    refine hK.out _ _ hmd.mod ?_
    have hS8 := Lib.hid (hS7.out.made hmd)
    clear hmd hS7 e1 e2 e3
    clear hK K'
    refine sched_step ?_
    refine wpQuiet_nil ?_
    intro K' hK
    rw [if_pos (by rfl)]
    go_simp
    refine (same_rd4 (hS8.out.rowAt 0 rfl) (hS8.out.rowAt 2 rfl)).mono ?_
    rintro e w8 ⟨rfl, hm8⟩
    try dsimp only
    refine hK.out _ _ hm8 ?_
    have hS9 := Lib.hid ((hS8.out.still hm8).tail.tail.tail.tail)
    clear hm8 hS8
    clear hK K'
    refine sched_last ?_
    repeat (go_big_quiet_step (fail))
    refine wpQuiet_nil ?_
    rename World => W9
    go_upto_region 13 with fail
  all_goals
    have hU9 := hU.out.keep hS9.out.mod (by simp)
    have u2 := hU9.cell 2 rfl
    have u3 := hU9.cell 3 rfl
    have ul := hU9.lt
    have cpr := Lib.hid (pair_sep hS9.out hG.out hP.out u v)
    clear hU9
    go_wp2_with fail
    refine cpr.out.mono ?_
    rintro e w10 hO
    clear cpr u2 u3 ul
    rcases hO.out with ⟨hpe, rfl, hm10⟩ | ⟨hpe, hisN, b3, ap, cp, rfl, hA⟩
    · have hS10 := Lib.hid (hS9.out.still hm10)
      have hend := Lib.hid (hm0.out.trans hS10.out.mod (by simp))
      have hU10 := hU.out.keep hS10.out.mod (by simp)
      have u2 := hU10.cell 2 rfl
      have u3 := hU10.cell 3 rfl
      have ul := hU10.lt
      have cck := Lib.hid (fun W => rcheck25_any n u v W)
      have d1 : (pairE n u v == 0) = false := by simpa using hpe
      have d2 : (pairE n u v != 0) = true := by simpa using hpe
      generalize pairE n u v = pe at *
      have d3 : (pe != pe) = false := by simp
      clear hO hm10 hpe hS9 hS10 hU10
      try dsimp only
      go_wp2_with fail
      refine (cck.out _).mono ?_
      rintro e w11 ⟨rfl, hw11⟩
      subst w11
      try dsimp only
      go_wp2_with fail
      refine (haw.out _).mono ?_
      rintro e w12 ⟨rfl, hm12⟩
      try dsimp only
      go_wp2_with fail
      go_ret
      exact ⟨rfl, hend.out.trans hm12 (by simp)⟩
    · obtain ⟨hu, hv, huv⟩ := pairE_zero hpe
      have hG3 := con_ok hG.out ⟨pairN_len n u v, hisN⟩
      have hMl3 := hG3.len
      have hn4 : n ≤ 4096 := by omega
      obtain ⟨F3, hPF, hF3, _⟩ := hA.first
      obtain ⟨F4, ⟨hRF, rfl⟩, hF4, _⟩ := hA.swap.first
      have hS10 := Lib.hid (show Sep _ w10 (NetP b3 ((n : Int) - 1).toNat (merged (mapL (pairN n u v) L)) :: Row 3 1 n (.slice ap n cp) (i64s (pairN n u v)) :: [NetP b n L, Blk T [.int .i64 n, .slice ar L.length cr] 36, Row 41 3 L.length (.slice ar L.length cr) (flat encEd L)]) from sep_join hS9.out hA)
      have hcx := Lib.hid (fun W => rcheck25_any n u v W)
      rw [hpe] at hcx
      have hpx := Lib.hid (fun W => rpair_any n hn4 u v hu hv huv W)
      have hyes : Hid ((pairN n u v).length = n ∧ isN ((n : Int) - 1) (pairN n u v)) := Lib.hid ⟨pairN_len n u v, hisN⟩
      have hnp := Lib.hid (pairN_len n u v)
      have hU10 := hU.out.keep hS10.out.mod (by simp)
      have u2 := hU10.cell 2 rfl
      have u3 := hU10.cell 3 rfl
      have ul := hU10.lt
      have hn1 : 0 < n := by omega
      clear hO hpe hA hPF hRF hF3 hF4 hS9 hU10 hG3 hu hv huv hisN
      try dsimp only
      go_wp2_with fail
      refine (hcx.out _).mono ?_
      rintro e w11 ⟨rfl, hw11⟩
      subst w11
      try dsimp only
      go_wp2_with fail
      refine (hpx.out _).mono ?_
      rintro e w11 ⟨ax, cx, rfl, hmd⟩
      have hS11 := Lib.hid (hS10.out.made hmd)
      clear hmd hpx hcx hS10 u2 u3 ul
      try dsimp only
      go_upto_region 20 with fail
      generalize pairN n u v = pn at *
      generalize hMM : merged (mapL pn L) = M at *
      have hMM' := Lib.hid hMM
      have hS12 := Lib.hid (hS11.out.still (Mod.refl [] _).drew)
      have t0 : ∀ m : Fut (Mod []) w11.drew, m.v.cell? ⟨T, 0, none⟩ = some (.int .i64 n) := fun m => ((hS12.out.blkAt 4 rfl).keep m.of (by simp)).cell 0 rfl
      have t1 : ∀ m : Fut (Mod []) w11.drew, m.v.cell? ⟨T, 1, none⟩ = some (.slice ar L.length cr) := fun m => ((hS12.out.blkAt 4 rfl).keep m.of (by simp)).cell 1 rfl
      clear hS11 hMM
      refine region_sched (G := Mod []) [([0,1],2), ([3,4,5,6,7,8,10,11,12,13,14],9), ([],15), ([16,17],18), ([19,20],21)] [22,23] (by kernel_rfl) (by kernel_rfl) (by kernel_rfl) rfl (Mod.refl []) (fun _ _ _ h1 h2 => h1.trans h2 (by simp)) ?_
      simp only [stages, pickO, nthO, headO, List.append_eq, List.cons_append, List.nil_append]
      refine sched_step ?_
      repeat (go_big_quiet_step (fail))
      refine wpQuiet_nil ?_
      intro K' hK
      rw [if_pos (by rfl)]
      go_simp
      refine (ints_rd4 hnp.out (hS12.out.rowAt 2 rfl) (hS12.out.rowAt 0 rfl)).mono ?_
      rintro e w8 ⟨rfl, hm8⟩
      try dsimp only
      refine hK.out _ _ hm8 ?_
      have hS13 := Lib.hid (hS12.out.still hm8)
      clear t0 t1
      have t0 : ∀ m : Fut (Mod []) w8, m.v.cell? ⟨T, 0, none⟩ = some (.int .i64 n) := fun m => ((hS13.out.blkAt 4 rfl).keep m.of (by simp)).cell 0 rfl
      have t1 : ∀ m : Fut (Mod []) w8, m.v.cell? ⟨T, 1, none⟩ = some (.slice ar L.length cr) := fun m => ((hS13.out.blkAt 4 rfl).keep m.of (by simp)).cell 1 rfl
      clear hm8 hS12
      clear hK K'
      refine sched_step ?_
      repeat (go_big_quiet_step (fail))
      refine wpQuiet_nil ?_
      intro K' hK
      rw [if_pos (by rfl)]
      go_simp
      refine (edges_sep (hS13.out.pick 1 (by simp)) hMl3).mono ?_
      rintro e w8 ⟨a7, c7, rfl, hmd⟩
      try dsimp only
      refine hK.out _ _ hmd.mod ?_
      have hS14 := Lib.hid (hS13.out.made hmd)
      clear hmd hS13 t0 t1
      clear hK K'
      refine sched_step ?_
      refine wpQuiet_nil ?_
      intro K' hK
      rw [if_pos (by rfl)]
      go_simp
      refine (rof_any (n := n) (Rd.own (hS14.out.rowAt 6 rfl)) hG.out ((n : Int) - 1) (name := pn) (by rw [hnp.out]; exact Rd.own (hS14.out.rowAt 1 rfl))).mono ?_
      rintro e w8 hO
      rcases hO.out with ⟨hbad, _⟩ | ⟨_, a8, c8, rfl, hmd8⟩
      case inl => exact absurd hyes.out hbad
      rw [hMM'.out] at hmd8 ⊢
      try dsimp only
      refine hK.out _ _ hmd8.mod ?_
      have hS15 := Lib.hid (hS14.out.made hmd8)
      clear hK K' hO hmd8 hS14
      refine sched_step ?_
      repeat (go_big_quiet_step (fail))
      refine wpQuiet_nil ?_
      intro K' hK
      rw [if_pos (by rfl)]
      go_simp
      refine (same_rd4 (hS15.out.rowAt 1 rfl) (hS15.out.rowAt 0 rfl)).mono ?_
      rintro e w8 ⟨rfl, hm8⟩
      try dsimp only
      refine hK.out _ _ hm8 ?_
      have hS16 := Lib.hid (hS15.out.still hm8)
      clear hm8 hS15
      clear hK K'
      refine sched_step ?_
      repeat (go_big_quiet_step (fail))
      refine wpQuiet_nil ?_
      intro K' hK
      rw [if_pos (by rfl)]
      go_simp
      refine (haw.out _).mono ?_
      rintro e w8 ⟨rfl, hm8⟩
      try dsimp only
      refine hK.out _ _ hm8 ?_
      have hend := Lib.hid (hm0.out.trans (hS16.out.mod.trans hm8 (by simp)) (by simp))
      clear hm8 hS16
      clear hK K'
      refine sched_last ?_
      repeat (go_big_quiet_step (fail))
      refine wpQuiet_nil ?_
      go_wp2_with fail
      go_ret
      exact ⟨rfl, hend.out⟩
end Edge
end Go.Proofs.Ytkhbnopmeapfjaa
