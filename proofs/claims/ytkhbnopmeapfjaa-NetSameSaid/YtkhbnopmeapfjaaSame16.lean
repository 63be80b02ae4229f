/- NetSame: whether two graphs are the same. The walk of the law. -/
import Derived.Test.YtkhbnopmeapfjaaNetNil
import Derived.Test.YtkhbnopmeapfjaaTells16
import Derived.Test.YtkhbnopmeapfjaaRefSep
import Derived.Test.YtkhbnopmeapfjaaFork
import Derived.Laws.EntriesVeiled
set_option linter.unusedVariables false
set_option linter.unusedSimpArgs false
namespace Go.Proofs.Ytkhbnopmeapfjaa
open Go.RowKit
namespace Edge
theorem tail_three {P : Program} {Q : Exit → Act → World → Prop} {S : World → Prop} {l : List Oper} {n : Nat} {listed : Array Bool} {a : Act} {w : World} (b c d : Nat) {o o' o'' : Oper} (hr : Region.ready .any l.toArray listed = [b, c, d]) (ho : l[b]? = some o) (ho' : l[c]? = some o') (ho'' : l[d]? = some o'')
    (h1 : stepO P l Q S n listed b o a w) (h2 : stepO P l Q S n listed c o' a w) (h3 : stepO P l Q S n listed d o'' a w) : wpAnyH P .any l.toArray Q S (n + 1) listed a w :=
  wpAnyH_all hr (by simp) fun i hi => by
    simp only [List.mem_cons, List.mem_nil_iff, or_false] at hi
    rcases hi with rfl | rfl | rfl
    · exact op_of_step ho h1
    · exact op_of_step ho' h2
    · exact op_of_step ho'' h3
theorem leaf_wrap {goalP : World → Prop} {W0 Wx : World} {L : List Part} (h : Sep W0 Wx L) (hp : ∀ Wg, Sep W0 Wg L → goalP Wg) : goalP Wx := hp Wx h
theorem sep_mid {w0 w : World} {R L : List Part} {B : Part} (h : Sep w0 w (R ++ B :: L)) : Sep w0 w (B :: (R ++ L)) := h.perm List.perm_middle
theorem sep_mid2 {w0 w : World} {R L : List Part} {B C : Part} (h : Sep w0 w (R ++ B :: C :: L)) : Sep w0 w (B :: C :: (R ++ L)) := (sep_mid h).perm (List.Perm.cons B List.perm_middle)
set_option maxRecDepth 100000 in
set_option maxHeartbeats 8000000 in
theorem lawsame_any (n1 n2 : Int) {l1 l2 : List Ed} {v1 v2 : Value} {w : World} (h1 : Rd w 3 v1 l1.length (flat encEd l1)) (h2 : Rd w 3 v2 l2.length (flat encEd l2)) :
    Calls Try.prog 7 #[.agg #[.int .i64 n1, .int .i64 n2], v1, v2] w fun e w' => e = .returned (.bool true) ∧ Mod [] w w' := by
  obtain ⟨a1, c1, rfl⟩ := h1.val
  obtain ⟨a2, c2, rfl⟩ := h2.val
  have hle1 := h1.le
  have hle2 := h2.le
  have haw := Lib.hid (fun w => awake16 w)
  have hm0 := Lib.hid ((Mod.refl [] w).alloc (.cells #[.int .i64 n1, .int .i64 n2] 34))
  have hU := Lib.hid (Has.new w [.int .i64 n1, .int .i64 n2] 34)
  by_cases hbig : 100 < l1.length
  · have hbig1 : (100 : Int) < l1.length := by omega
    clear h1 h2
    go_enter Try.func7, Try.ntmps7
    go_wp2_with fail
    refine (haw.out _).mono ?_
    rintro e w1 ⟨rfl, hm⟩
    try dsimp only
    go_wp2_with fail
    go_ret
    exact ⟨rfl, hm0.out.trans hm (by simp)⟩
  by_cases hbig2 : 100 < l2.length
  · have hbig1 : (100 : Int) < l2.length := by omega
    have hbig3 : ¬ (100 : Int) < l1.length := by omega
    clear h1 h2
    go_enter Try.func7, Try.ntmps7
    go_wp2_with fail
    refine (haw.out _).mono ?_
    rintro e w1 ⟨rfl, hm⟩
    try dsimp only
    go_wp2_with fail
    go_ret
    exact ⟨rfl, hm0.out.trans hm (by simp)⟩
  have hbig3 : ¬ (100 : Int) < l1.length := by omega
  have hbig4 : ¬ (100 : Int) < l2.length := by omega
  have hnw1 := Lib.hid (new_net n1 (h1.still hm0.out))
  have hnw2 := Lib.hid (fun W (m : Mod [] (w.alloc (.cells #[.int .i64 n1, .int .i64 n2] 34)) W) => new_net n2 ((h2.still hm0.out).still m))
  have hrn1 := Lib.hid (fun W (m : Mod [] (w.alloc (.cells #[.int .i64 n1, .int .i64 n2] 34)) W) => rnew_any n1 ((h1.still hm0.out).still m))
  have hrn2 := Lib.hid (fun W (m : Mod [] (w.alloc (.cells #[.int .i64 n1, .int .i64 n2] 34)) W) => rnew_any n2 ((h2.still hm0.out).still m))
  have hq1 := Lib.hid (h1.still hm0.out)
  have hq2 := Lib.hid (h2.still hm0.out)
  have u0 := hU.out.cell 0 rfl
  have ul := hU.out.lt
  clear h1 h2
  go_enter Try.func7, Try.ntmps7
  go_wp2_with fail
  refine hnw1.out.mono ?_
  rintro e w1 hN1
  -- a graph's pointer, error and place; what is known of them
  obtain ⟨g1, q1, p1, rfl, hm1⟩ : ∃ (g1 : Option Addr) (q1 p1 : Int), e = .returned (.tuple #[.pointer g1, .int .i64 q1, .int .i64 p1]) ∧ Mod [] (w.alloc (.cells #[.int .i64 n1, .int .i64 n2] 34)) w1 := by
    rcases hN1.out with ⟨_, rfl, hm⟩ | ⟨_, b, rfl, hS⟩
    · exact ⟨_, _, _, rfl, hm⟩
    · exact ⟨_, _, _, rfl, hS.mod⟩
  try dsimp only
  have hU1 := hU.out.keep hm1 (by simp)
  have hU1' := Lib.hid hU1
  replace hq1 := Lib.hid (hq1.out.still hm1)
  have u2 := hU1.cell 1 rfl
  have ul1 := hU1.lt
  clear u0 ul
  go_wp2_with fail
  refine (hnw2.out _ hm1).mono ?_
  rintro e w2 hN2
  obtain ⟨g2, q2, p2, rfl, hm2⟩ : ∃ (g2 : Option Addr) (q2 p2 : Int), e = .returned (.tuple #[.pointer g2, .int .i64 q2, .int .i64 p2]) ∧ Mod [] w1 w2 := by
    rcases hN2.out with ⟨_, rfl, hm⟩ | ⟨_, b, rfl, hS⟩
    · exact ⟨_, _, _, rfl, hm⟩
    · exact ⟨_, _, _, rfl, hS.mod⟩
  try dsimp only
  go_upto_region 5 with fail
  have hR1 := Lib.hid (fun W (m : Mod [] w2.drew W) => ((hq1.out.still hm2).still (Mod.refl [] w2).drew).still m)
  have hR2 := Lib.hid (fun W (m : Mod [] w2.drew W) => ((hq2.out.still (hm1.trans hm2 (by simp))).still (Mod.refl [] w2).drew).still m)
  have hS0 := Lib.hid (Sep.empty w2.drew)
  have u0 : ∀ m : Fut (Mod []) w2.drew, m.v.cell? ⟨w.heap.size, 0, none⟩ = some (.int .i64 n1) := fun m => (hU1'.out.keep (hm2.trans ((Mod.refl [] w2).drew.trans m.of (by simp)) (by simp)) (by simp)).cell 0 rfl
  have u1 : ∀ m : Fut (Mod []) w2.drew, m.v.cell? ⟨w.heap.size, 1, none⟩ = some (.int .i64 n2) := fun m => (hU1'.out.keep (hm2.trans ((Mod.refl [] w2).drew.trans m.of (by simp)) (by simp)) (by simp)).cell 1 rfl
  go_cut [13, 14] (fun s13 s14 wc => ∃ (T1 T2 : Nat) (x0 : Int) (xa : Option Addr) (xk xc : Nat) (x2 x3 y0 : Int) (ya : Option Addr) (yk yc : Nat) (y2 y3 : Int) (R1 R2 : List Part), s13 = .pointer (some ⟨T1, 0, none⟩) ∧ s14 = .pointer (some ⟨T2, 0, none⟩) ∧ Hid (RN n1 l1 x0 xa xk xc x2 x3 R1) ∧ Hid (RN n2 l2 y0 ya yk yc y2 y3 R2) ∧ Hid (Sep w2.drew wc (Blk T1 [.int .i64 x0, .slice xa xk xc, .int .i64 x2, .int .i64 x3] 38 :: Blk T2 [.int .i64 y0, .slice ya yk yc, .int .i64 y2, .int .i64 y3] 38 :: (R2 ++ (R1 ++ [])))))
  case first =>
    refine region_head (G := Mod []) [0, 1, 2, 4, 5, 6] #[true, true, true, false, true, true, true, false, false, false, false, false] 6 (by kernel_rfl) (by kernel_rfl) (by kernel_rfl) rfl (Mod.refl []) ?_
    simp only [pickO, nthO, List.cons_append, List.nil_append]
    repeat (go_big_quiet_step (fail))
    refine wpQuiet_nil ?_
    clear u0 u1
    refine tail_three 3 8 9 (by kernel_rfl) rfl rfl rfl ?_ ?_ ?_
    · skip
      intro K hK
      rw [if_pos (by rfl)]
      go_simp
      refine (rnew_sep n1 (hR1.out _ hS0.out.mod) hS0.out).mono ?_
      rintro e w8 ⟨x0, xa, xk, xc, x2, x3, R1, rfl, hr1, hmm, hS⟩
      try dsimp only
      refine hK.out _ _ hS.mod ?_
      have hS1 := Lib.hid (hS)
      have hrn1 := Lib.hid hr1
      clear hK K hS hmm hr1 hS0
      refine tail_three 7 8 9 (by kernel_rfl) rfl rfl rfl ?_ ?_ ?_
      · skip
        intro K hK
        rw [if_pos (by rfl)]
        go_simp
        refine (rnew_sep n2 (hR2.out _ hS1.out.mod) hS1.out).mono ?_
        rintro e w8 ⟨y0, ya, yk, yc, y2, y3, R2, rfl, hr2, hmm, hS⟩
        try dsimp only
        refine hK.out _ _ hS.mod ?_
        have hS2 := Lib.hid (hS)
        have hrn2 := Lib.hid hr2
        clear hK K hS hmm hr2 hS1
        refine tail_two 8 9 (by kernel_rfl) rfl rfl ?_ ?_
        · skip
          intro K hK
          rw [if_pos (by rfl)]
          go_simp
          refine hK.out _ _ (hS2.out.box [.int .i64 0, .slice none 0 0, .int .i64 0, .int .i64 0] 38).mod ?_
          have hS3 := Lib.hid (hS2.out.box [.int .i64 0, .slice none 0 0, .int .i64 0, .int .i64 0] 38)
          clear hK K hS2
          refine tail_one 9 (by kernel_rfl) rfl ?_
          intro K hK
          rw [if_pos (by rfl)]
          go_simp
          refine hK.out _ _ (hS3.out.box [.int .i64 0, .slice none 0 0, .int .i64 0, .int .i64 0] 38).mod ?_
          have hS4 := Lib.hid ((hS3.out.box [.int .i64 0, .slice none 0 0, .int .i64 0, .int .i64 0] 38).swap)
          try rw [World.size_alloc] at hS4
          clear hK K hS3
          refine leaf_wrap (goalP := fun W => wpAnyH _ _ _ _ _ _ _ _ W) hS4.out ?_
          intro Wg hSg
          clear hS4
          have hb := hSg.blk
          have z0 := hb.cell 0 rfl
          have z1 := hb.cell 1 rfl
          have z2 := hb.cell 2 rfl
          have z3 := hb.cell 3 rfl
          have zf := hb.free
          have zl := hb.lt
          have hSh := Lib.hid (sep_set4 hSg (.int .i64 x0) (.slice xa xk xc) (.int .i64 x2) (.int .i64 x3)).swap
          clear hb hSg
          refine tail_one 10 (by kernel_rfl) rfl ?_
          intro K hK
          rw [if_pos (by rfl)]
          go_simp
          refine hK.out _ _ hSh.out.mod ?_
          clear hK K z0 z1 z2 z3 zf zl
          refine leaf_wrap (goalP := fun W => wpAnyH _ _ _ _ _ _ _ _ W) hSh.out ?_
          intro Wg2 hSg
          clear hSh
          have hb := hSg.blk
          have z0 := hb.cell 0 rfl
          have z1 := hb.cell 1 rfl
          have z2 := hb.cell 2 rfl
          have z3 := hb.cell 3 rfl
          have zf := hb.free
          have zl := hb.lt
          have hSh := Lib.hid (sep_set4 hSg (.int .i64 y0) (.slice ya yk yc) (.int .i64 y2) (.int .i64 y3)).swap
          clear hb hSg
          refine tail_one 11 (by kernel_rfl) rfl ?_
          intro K hK
          rw [if_pos (by rfl)]
          go_simp
          refine hK.out _ _ hSh.out.mod ?_
          clear hK K z0 z1 z2 z3 zf zl
          refine leaf_wrap (goalP := fun W => wpAnyH _ _ _ _ _ _ _ _ W) hSh.out ?_
          intro Wg2 hSg
          clear hSh
          refine tail_done (by kernel_rfl) ?_
          go_wp2_with fail
          go_meet
          exact ⟨_, _, x0, xa, xk, xc, x2, x3, y0, ya, yk, yc, y2, y3, R1, R2, rfl, rfl, hrn1, hrn2, Lib.hid hSg⟩
        · skip
          intro K hK
          rw [if_pos (by rfl)]
          go_simp
          refine hK.out _ _ (hS2.out.box [.int .i64 0, .slice none 0 0, .int .i64 0, .int .i64 0] 38).mod ?_
          have hS3 := Lib.hid (hS2.out.box [.int .i64 0, .slice none 0 0, .int .i64 0, .int .i64 0] 38)
          clear hK K hS2
          refine tail_one 8 (by kernel_rfl) rfl ?_
          intro K hK
          rw [if_pos (by rfl)]
          go_simp
          refine hK.out _ _ (hS3.out.box [.int .i64 0, .slice none 0 0, .int .i64 0, .int .i64 0] 38).mod ?_
          have hS4 := Lib.hid (hS3.out.box [.int .i64 0, .slice none 0 0, .int .i64 0, .int .i64 0] 38)
          try rw [World.size_alloc] at hS4
          clear hK K hS3
          refine leaf_wrap (goalP := fun W => wpAnyH _ _ _ _ _ _ _ _ W) hS4.out ?_
          intro Wg hSg
          clear hS4
          have hb := hSg.blk
          have z0 := hb.cell 0 rfl
          have z1 := hb.cell 1 rfl
          have z2 := hb.cell 2 rfl
          have z3 := hb.cell 3 rfl
          have zf := hb.free
          have zl := hb.lt
          have hSh := Lib.hid (sep_set4 hSg (.int .i64 x0) (.slice xa xk xc) (.int .i64 x2) (.int .i64 x3)).swap
          clear hb hSg
          refine tail_one 10 (by kernel_rfl) rfl ?_
          intro K hK
          rw [if_pos (by rfl)]
          go_simp
          refine hK.out _ _ hSh.out.mod ?_
          clear hK K z0 z1 z2 z3 zf zl
          refine leaf_wrap (goalP := fun W => wpAnyH _ _ _ _ _ _ _ _ W) hSh.out ?_
          intro Wg2 hSg
          clear hSh
          have hb := hSg.blk
          have z0 := hb.cell 0 rfl
          have z1 := hb.cell 1 rfl
          have z2 := hb.cell 2 rfl
          have z3 := hb.cell 3 rfl
          have zf := hb.free
          have zl := hb.lt
          have hSh := Lib.hid (sep_set4 hSg (.int .i64 y0) (.slice ya yk yc) (.int .i64 y2) (.int .i64 y3)).swap
          clear hb hSg
          refine tail_one 11 (by kernel_rfl) rfl ?_
          intro K hK
          rw [if_pos (by rfl)]
          go_simp
          refine hK.out _ _ hSh.out.mod ?_
          clear hK K z0 z1 z2 z3 zf zl
          refine leaf_wrap (goalP := fun W => wpAnyH _ _ _ _ _ _ _ _ W) hSh.out ?_
          intro Wg2 hSg
          clear hSh
          refine tail_done (by kernel_rfl) ?_
          go_wp2_with fail
          go_meet
          exact ⟨_, _, x0, xa, xk, xc, x2, x3, y0, ya, yk, yc, y2, y3, R1, R2, rfl, rfl, hrn1, hrn2, Lib.hid hSg⟩
      · skip
        intro K hK
        rw [if_pos (by rfl)]
        go_simp
        refine hK.out _ _ (hS1.out.box [.int .i64 0, .slice none 0 0, .int .i64 0, .int .i64 0] 38).mod ?_
        have hS2 := Lib.hid (hS1.out.box [.int .i64 0, .slice none 0 0, .int .i64 0, .int .i64 0] 38)
        clear hK K hS1
        refine tail_two 7 9 (by kernel_rfl) rfl rfl ?_ ?_
        · skip
          intro K hK
          rw [if_pos (by rfl)]
          go_simp
          refine (rnew_sep n2 (hR2.out _ hS2.out.mod) hS2.out).mono ?_
          rintro e w8 ⟨y0, ya, yk, yc, y2, y3, R2, rfl, hr2, hmm, hS⟩
          try dsimp only
          refine hK.out _ _ hS.mod ?_
          have hS3 := Lib.hid (sep_mid hS)
          have hrn2 := Lib.hid hr2
          clear hK K hS hmm hr2 hS2
          refine tail_one 9 (by kernel_rfl) rfl ?_
          intro K hK
          rw [if_pos (by rfl)]
          go_simp
          refine hK.out _ _ (hS3.out.box [.int .i64 0, .slice none 0 0, .int .i64 0, .int .i64 0] 38).mod ?_
          have hS4 := Lib.hid ((hS3.out.box [.int .i64 0, .slice none 0 0, .int .i64 0, .int .i64 0] 38).swap)
          try rw [World.size_alloc] at hS4
          clear hK K hS3
          refine leaf_wrap (goalP := fun W => wpAnyH _ _ _ _ _ _ _ _ W) hS4.out ?_
          intro Wg hSg
          clear hS4
          have hb := hSg.blk
          have z0 := hb.cell 0 rfl
          have z1 := hb.cell 1 rfl
          have z2 := hb.cell 2 rfl
          have z3 := hb.cell 3 rfl
          have zf := hb.free
          have zl := hb.lt
          have hSh := Lib.hid (sep_set4 hSg (.int .i64 x0) (.slice xa xk xc) (.int .i64 x2) (.int .i64 x3)).swap
          clear hb hSg
          refine tail_one 10 (by kernel_rfl) rfl ?_
          intro K hK
          rw [if_pos (by rfl)]
          go_simp
          refine hK.out _ _ hSh.out.mod ?_
          clear hK K z0 z1 z2 z3 zf zl
          refine leaf_wrap (goalP := fun W => wpAnyH _ _ _ _ _ _ _ _ W) hSh.out ?_
          intro Wg2 hSg
          clear hSh
          have hb := hSg.blk
          have z0 := hb.cell 0 rfl
          have z1 := hb.cell 1 rfl
          have z2 := hb.cell 2 rfl
          have z3 := hb.cell 3 rfl
          have zf := hb.free
          have zl := hb.lt
          have hSh := Lib.hid (sep_set4 hSg (.int .i64 y0) (.slice ya yk yc) (.int .i64 y2) (.int .i64 y3)).swap
          clear hb hSg
          refine tail_one 11 (by kernel_rfl) rfl ?_
          intro K hK
          rw [if_pos (by rfl)]
          go_simp
          refine hK.out _ _ hSh.out.mod ?_
          clear hK K z0 z1 z2 z3 zf zl
          refine leaf_wrap (goalP := fun W => wpAnyH _ _ _ _ _ _ _ _ W) hSh.out ?_
          intro Wg2 hSg
          clear hSh
          refine tail_done (by kernel_rfl) ?_
          go_wp2_with fail
          go_meet
          exact ⟨_, _, x0, xa, xk, xc, x2, x3, y0, ya, yk, yc, y2, y3, R1, R2, rfl, rfl, hrn1, hrn2, Lib.hid hSg⟩
        · skip
          intro K hK
          rw [if_pos (by rfl)]
          go_simp
          refine hK.out _ _ (hS2.out.box [.int .i64 0, .slice none 0 0, .int .i64 0, .int .i64 0] 38).mod ?_
          have hS3 := Lib.hid ((hS2.out.box [.int .i64 0, .slice none 0 0, .int .i64 0, .int .i64 0] 38).swap)
          try rw [World.size_alloc] at hS3
          clear hK K hS2
          refine tail_one 7 (by kernel_rfl) rfl ?_
          intro K hK
          rw [if_pos (by rfl)]
          go_simp
          refine (rnew_sep n2 (hR2.out _ hS3.out.mod) hS3.out).mono ?_
          rintro e w8 ⟨y0, ya, yk, yc, y2, y3, R2, rfl, hr2, hmm, hS⟩
          try dsimp only
          refine hK.out _ _ hS.mod ?_
          have hS4 := Lib.hid (sep_mid2 hS)
          have hrn2 := Lib.hid hr2
          clear hK K hS hmm hr2 hS3
          refine leaf_wrap (goalP := fun W => wpAnyH _ _ _ _ _ _ _ _ W) hS4.out ?_
          intro Wg hSg
          clear hS4
          have hb := hSg.blk
          have z0 := hb.cell 0 rfl
          have z1 := hb.cell 1 rfl
          have z2 := hb.cell 2 rfl
          have z3 := hb.cell 3 rfl
          have zf := hb.free
          have zl := hb.lt
          have hSh := Lib.hid (sep_set4 hSg (.int .i64 x0) (.slice xa xk xc) (.int .i64 x2) (.int .i64 x3)).swap
          clear hb hSg
          refine tail_one 10 (by kernel_rfl) rfl ?_
          intro K hK
          rw [if_pos (by rfl)]
          go_simp
          refine hK.out _ _ hSh.out.mod ?_
          clear hK K z0 z1 z2 z3 zf zl
          refine leaf_wrap (goalP := fun W => wpAnyH _ _ _ _ _ _ _ _ W) hSh.out ?_
          intro Wg2 hSg
          clear hSh
          have hb := hSg.blk
          have z0 := hb.cell 0 rfl
          have z1 := hb.cell 1 rfl
          have z2 := hb.cell 2 rfl
          have z3 := hb.cell 3 rfl
          have zf := hb.free
          have zl := hb.lt
          have hSh := Lib.hid (sep_set4 hSg (.int .i64 y0) (.slice ya yk yc) (.int .i64 y2) (.int .i64 y3)).swap
          clear hb hSg
          refine tail_one 11 (by kernel_rfl) rfl ?_
          intro K hK
          rw [if_pos (by rfl)]
          go_simp
          refine hK.out _ _ hSh.out.mod ?_
          clear hK K z0 z1 z2 z3 zf zl
          refine leaf_wrap (goalP := fun W => wpAnyH _ _ _ _ _ _ _ _ W) hSh.out ?_
          intro Wg2 hSg
          clear hSh
          refine tail_done (by kernel_rfl) ?_
          go_wp2_with fail
          go_meet
          exact ⟨_, _, x0, xa, xk, xc, x2, x3, y0, ya, yk, yc, y2, y3, R1, R2, rfl, rfl, hrn1, hrn2, Lib.hid hSg⟩
      · skip
        intro K hK
        rw [if_pos (by rfl)]
        go_simp
        refine hK.out _ _ (hS1.out.box [.int .i64 0, .slice none 0 0, .int .i64 0, .int .i64 0] 38).mod ?_
        have hS2 := Lib.hid (hS1.out.box [.int .i64 0, .slice none 0 0, .int .i64 0, .int .i64 0] 38)
        clear hK K hS1
        refine tail_two 7 8 (by kernel_rfl) rfl rfl ?_ ?_
        · skip
          intro K hK
          rw [if_pos (by rfl)]
          go_simp
          refine (rnew_sep n2 (hR2.out _ hS2.out.mod) hS2.out).mono ?_
          rintro e w8 ⟨y0, ya, yk, yc, y2, y3, R2, rfl, hr2, hmm, hS⟩
          try dsimp only
          refine hK.out _ _ hS.mod ?_
          have hS3 := Lib.hid (sep_mid hS)
          have hrn2 := Lib.hid hr2
          clear hK K hS hmm hr2 hS2
          refine tail_one 8 (by kernel_rfl) rfl ?_
          intro K hK
          rw [if_pos (by rfl)]
          go_simp
          refine hK.out _ _ (hS3.out.box [.int .i64 0, .slice none 0 0, .int .i64 0, .int .i64 0] 38).mod ?_
          have hS4 := Lib.hid (hS3.out.box [.int .i64 0, .slice none 0 0, .int .i64 0, .int .i64 0] 38)
          try rw [World.size_alloc] at hS4
          clear hK K hS3
          refine leaf_wrap (goalP := fun W => wpAnyH _ _ _ _ _ _ _ _ W) hS4.out ?_
          intro Wg hSg
          clear hS4
          have hb := hSg.blk
          have z0 := hb.cell 0 rfl
          have z1 := hb.cell 1 rfl
          have z2 := hb.cell 2 rfl
          have z3 := hb.cell 3 rfl
          have zf := hb.free
          have zl := hb.lt
          have hSh := Lib.hid (sep_set4 hSg (.int .i64 x0) (.slice xa xk xc) (.int .i64 x2) (.int .i64 x3)).swap
          clear hb hSg
          refine tail_one 10 (by kernel_rfl) rfl ?_
          intro K hK
          rw [if_pos (by rfl)]
          go_simp
          refine hK.out _ _ hSh.out.mod ?_
          clear hK K z0 z1 z2 z3 zf zl
          refine leaf_wrap (goalP := fun W => wpAnyH _ _ _ _ _ _ _ _ W) hSh.out ?_
          intro Wg2 hSg
          clear hSh
          have hb := hSg.blk
          have z0 := hb.cell 0 rfl
          have z1 := hb.cell 1 rfl
          have z2 := hb.cell 2 rfl
          have z3 := hb.cell 3 rfl
          have zf := hb.free
          have zl := hb.lt
          have hSh := Lib.hid (sep_set4 hSg (.int .i64 y0) (.slice ya yk yc) (.int .i64 y2) (.int .i64 y3)).swap
          clear hb hSg
          refine tail_one 11 (by kernel_rfl) rfl ?_
          intro K hK
          rw [if_pos (by rfl)]
          go_simp
          refine hK.out _ _ hSh.out.mod ?_
          clear hK K z0 z1 z2 z3 zf zl
          refine leaf_wrap (goalP := fun W => wpAnyH _ _ _ _ _ _ _ _ W) hSh.out ?_
          intro Wg2 hSg
          clear hSh
          refine tail_done (by kernel_rfl) ?_
          go_wp2_with fail
          go_meet
          exact ⟨_, _, x0, xa, xk, xc, x2, x3, y0, ya, yk, yc, y2, y3, R1, R2, rfl, rfl, hrn1, hrn2, Lib.hid hSg⟩
        · skip
          intro K hK
          rw [if_pos (by rfl)]
          go_simp
          refine hK.out _ _ (hS2.out.box [.int .i64 0, .slice none 0 0, .int .i64 0, .int .i64 0] 38).mod ?_
          have hS3 := Lib.hid (hS2.out.box [.int .i64 0, .slice none 0 0, .int .i64 0, .int .i64 0] 38)
          try rw [World.size_alloc] at hS3
          clear hK K hS2
          refine tail_one 7 (by kernel_rfl) rfl ?_
          intro K hK
          rw [if_pos (by rfl)]
          go_simp
          refine (rnew_sep n2 (hR2.out _ hS3.out.mod) hS3.out).mono ?_
          rintro e w8 ⟨y0, ya, yk, yc, y2, y3, R2, rfl, hr2, hmm, hS⟩
          try dsimp only
          refine hK.out _ _ hS.mod ?_
          have hS4 := Lib.hid (sep_mid2 hS)
          have hrn2 := Lib.hid hr2
          clear hK K hS hmm hr2 hS3
          refine leaf_wrap (goalP := fun W => wpAnyH _ _ _ _ _ _ _ _ W) hS4.out ?_
          intro Wg hSg
          clear hS4
          have hb := hSg.blk
          have z0 := hb.cell 0 rfl
          have z1 := hb.cell 1 rfl
          have z2 := hb.cell 2 rfl
          have z3 := hb.cell 3 rfl
          have zf := hb.free
          have zl := hb.lt
          have hSh := Lib.hid (sep_set4 hSg (.int .i64 x0) (.slice xa xk xc) (.int .i64 x2) (.int .i64 x3)).swap
          clear hb hSg
          refine tail_one 10 (by kernel_rfl) rfl ?_
          intro K hK
          rw [if_pos (by rfl)]
          go_simp
          refine hK.out _ _ hSh.out.mod ?_
          clear hK K z0 z1 z2 z3 zf zl
          refine leaf_wrap (goalP := fun W => wpAnyH _ _ _ _ _ _ _ _ W) hSh.out ?_
          intro Wg2 hSg
          clear hSh
          have hb := hSg.blk
          have z0 := hb.cell 0 rfl
          have z1 := hb.cell 1 rfl
          have z2 := hb.cell 2 rfl
          have z3 := hb.cell 3 rfl
          have zf := hb.free
          have zl := hb.lt
          have hSh := Lib.hid (sep_set4 hSg (.int .i64 y0) (.slice ya yk yc) (.int .i64 y2) (.int .i64 y3)).swap
          clear hb hSg
          refine tail_one 11 (by kernel_rfl) rfl ?_
          intro K hK
          rw [if_pos (by rfl)]
          go_simp
          refine hK.out _ _ hSh.out.mod ?_
          clear hK K z0 z1 z2 z3 zf zl
          refine leaf_wrap (goalP := fun W => wpAnyH _ _ _ _ _ _ _ _ W) hSh.out ?_
          intro Wg2 hSg
          clear hSh
          refine tail_done (by kernel_rfl) ?_
          go_wp2_with fail
          go_meet
          exact ⟨_, _, x0, xa, xk, xc, x2, x3, y0, ya, yk, yc, y2, y3, R1, R2, rfl, rfl, hrn1, hrn2, Lib.hid hSg⟩
    · skip
      intro K hK
      rw [if_pos (by rfl)]
      go_simp
      refine hK.out _ _ (hS0.out.box [.int .i64 0, .slice none 0 0, .int .i64 0, .int .i64 0] 38).mod ?_
      have hS1 := Lib.hid (hS0.out.box [.int .i64 0, .slice none 0 0, .int .i64 0, .int .i64 0] 38)
      try rw [show w2.drew.heap.size = w2.heap.size from rfl] at hS1
      clear hK K hS0
      refine tail_two 3 9 (by kernel_rfl) rfl rfl ?_ ?_
      · skip
        intro K hK
        rw [if_pos (by rfl)]
        go_simp
        refine (rnew_sep n1 (hR1.out _ hS1.out.mod) hS1.out).mono ?_
        rintro e w8 ⟨x0, xa, xk, xc, x2, x3, R1, rfl, hr1, hmm, hS⟩
        try dsimp only
        refine hK.out _ _ hS.mod ?_
        have hS2 := Lib.hid (sep_mid hS)
        have hrn1 := Lib.hid hr1
        clear hK K hS hmm hr1 hS1
        refine tail_two 7 9 (by kernel_rfl) rfl rfl ?_ ?_
        · skip
          intro K hK
          rw [if_pos (by rfl)]
          go_simp
          refine (rnew_sep n2 (hR2.out _ hS2.out.mod) hS2.out).mono ?_
          rintro e w8 ⟨y0, ya, yk, yc, y2, y3, R2, rfl, hr2, hmm, hS⟩
          try dsimp only
          refine hK.out _ _ hS.mod ?_
          have hS3 := Lib.hid (sep_mid hS)
          have hrn2 := Lib.hid hr2
          clear hK K hS hmm hr2 hS2
          refine tail_one 9 (by kernel_rfl) rfl ?_
          intro K hK
          rw [if_pos (by rfl)]
          go_simp
          refine hK.out _ _ (hS3.out.box [.int .i64 0, .slice none 0 0, .int .i64 0, .int .i64 0] 38).mod ?_
          have hS4 := Lib.hid ((hS3.out.box [.int .i64 0, .slice none 0 0, .int .i64 0, .int .i64 0] 38).swap)
          try rw [World.size_alloc] at hS4
          clear hK K hS3
          refine leaf_wrap (goalP := fun W => wpAnyH _ _ _ _ _ _ _ _ W) hS4.out ?_
          intro Wg hSg
          clear hS4
          have hb := hSg.blk
          have z0 := hb.cell 0 rfl
          have z1 := hb.cell 1 rfl
          have z2 := hb.cell 2 rfl
          have z3 := hb.cell 3 rfl
          have zf := hb.free
          have zl := hb.lt
          have hSh := Lib.hid (sep_set4 hSg (.int .i64 x0) (.slice xa xk xc) (.int .i64 x2) (.int .i64 x3)).swap
          clear hb hSg
          refine tail_one 10 (by kernel_rfl) rfl ?_
          intro K hK
          rw [if_pos (by rfl)]
          go_simp
          refine hK.out _ _ hSh.out.mod ?_
          clear hK K z0 z1 z2 z3 zf zl
          refine leaf_wrap (goalP := fun W => wpAnyH _ _ _ _ _ _ _ _ W) hSh.out ?_
          intro Wg2 hSg
          clear hSh
          have hb := hSg.blk
          have z0 := hb.cell 0 rfl
          have z1 := hb.cell 1 rfl
          have z2 := hb.cell 2 rfl
          have z3 := hb.cell 3 rfl
          have zf := hb.free
          have zl := hb.lt
          have hSh := Lib.hid (sep_set4 hSg (.int .i64 y0) (.slice ya yk yc) (.int .i64 y2) (.int .i64 y3)).swap
          clear hb hSg
          refine tail_one 11 (by kernel_rfl) rfl ?_
          intro K hK
          rw [if_pos (by rfl)]
          go_simp
          refine hK.out _ _ hSh.out.mod ?_
          clear hK K z0 z1 z2 z3 zf zl
          refine leaf_wrap (goalP := fun W => wpAnyH _ _ _ _ _ _ _ _ W) hSh.out ?_
          intro Wg2 hSg
          clear hSh
          refine tail_done (by kernel_rfl) ?_
          go_wp2_with fail
          go_meet
          exact ⟨_, _, x0, xa, xk, xc, x2, x3, y0, ya, yk, yc, y2, y3, R1, R2, rfl, rfl, hrn1, hrn2, Lib.hid hSg⟩
        · skip
          intro K hK
          rw [if_pos (by rfl)]
          go_simp
          refine hK.out _ _ (hS2.out.box [.int .i64 0, .slice none 0 0, .int .i64 0, .int .i64 0] 38).mod ?_
          have hS3 := Lib.hid ((hS2.out.box [.int .i64 0, .slice none 0 0, .int .i64 0, .int .i64 0] 38).swap)
          try rw [World.size_alloc] at hS3
          clear hK K hS2
          refine tail_one 7 (by kernel_rfl) rfl ?_
          intro K hK
          rw [if_pos (by rfl)]
          go_simp
          refine (rnew_sep n2 (hR2.out _ hS3.out.mod) hS3.out).mono ?_
          rintro e w8 ⟨y0, ya, yk, yc, y2, y3, R2, rfl, hr2, hmm, hS⟩
          try dsimp only
          refine hK.out _ _ hS.mod ?_
          have hS4 := Lib.hid (sep_mid2 hS)
          have hrn2 := Lib.hid hr2
          clear hK K hS hmm hr2 hS3
          refine leaf_wrap (goalP := fun W => wpAnyH _ _ _ _ _ _ _ _ W) hS4.out ?_
          intro Wg hSg
          clear hS4
          have hb := hSg.blk
          have z0 := hb.cell 0 rfl
          have z1 := hb.cell 1 rfl
          have z2 := hb.cell 2 rfl
          have z3 := hb.cell 3 rfl
          have zf := hb.free
          have zl := hb.lt
          have hSh := Lib.hid (sep_set4 hSg (.int .i64 x0) (.slice xa xk xc) (.int .i64 x2) (.int .i64 x3)).swap
          clear hb hSg
          refine tail_one 10 (by kernel_rfl) rfl ?_
          intro K hK
          rw [if_pos (by rfl)]
          go_simp
          refine hK.out _ _ hSh.out.mod ?_
          clear hK K z0 z1 z2 z3 zf zl
          refine leaf_wrap (goalP := fun W => wpAnyH _ _ _ _ _ _ _ _ W) hSh.out ?_
          intro Wg2 hSg
          clear hSh
          have hb := hSg.blk
          have z0 := hb.cell 0 rfl
          have z1 := hb.cell 1 rfl
          have z2 := hb.cell 2 rfl
          have z3 := hb.cell 3 rfl
          have zf := hb.free
          have zl := hb.lt
          have hSh := Lib.hid (sep_set4 hSg (.int .i64 y0) (.slice ya yk yc) (.int .i64 y2) (.int .i64 y3)).swap
          clear hb hSg
          refine tail_one 11 (by kernel_rfl) rfl ?_
          intro K hK
          rw [if_pos (by rfl)]
          go_simp
          refine hK.out _ _ hSh.out.mod ?_
          clear hK K z0 z1 z2 z3 zf zl
          refine leaf_wrap (goalP := fun W => wpAnyH _ _ _ _ _ _ _ _ W) hSh.out ?_
          intro Wg2 hSg
          clear hSh
          refine tail_done (by kernel_rfl) ?_
          go_wp2_with fail
          go_meet
          exact ⟨_, _, x0, xa, xk, xc, x2, x3, y0, ya, yk, yc, y2, y3, R1, R2, rfl, rfl, hrn1, hrn2, Lib.hid hSg⟩
      · skip
        intro K hK
        rw [if_pos (by rfl)]
        go_simp
        refine hK.out _ _ (hS1.out.box [.int .i64 0, .slice none 0 0, .int .i64 0, .int .i64 0] 38).mod ?_
        have hS2 := Lib.hid ((hS1.out.box [.int .i64 0, .slice none 0 0, .int .i64 0, .int .i64 0] 38).swap)
        try rw [World.size_alloc] at hS2
        try rw [show w2.drew.heap.size = w2.heap.size from rfl] at hS2
        clear hK K hS1
        refine tail_one 3 (by kernel_rfl) rfl ?_
        intro K hK
        rw [if_pos (by rfl)]
        go_simp
        refine (rnew_sep n1 (hR1.out _ hS2.out.mod) hS2.out).mono ?_
        rintro e w8 ⟨x0, xa, xk, xc, x2, x3, R1, rfl, hr1, hmm, hS⟩
        try dsimp only
        refine hK.out _ _ hS.mod ?_
        have hS3 := Lib.hid (sep_mid2 hS)
        have hrn1 := Lib.hid hr1
        clear hK K hS hmm hr1 hS2
        refine tail_one 7 (by kernel_rfl) rfl ?_
        intro K hK
        rw [if_pos (by rfl)]
        go_simp
        refine (rnew_sep n2 (hR2.out _ hS3.out.mod) hS3.out).mono ?_
        rintro e w8 ⟨y0, ya, yk, yc, y2, y3, R2, rfl, hr2, hmm, hS⟩
        try dsimp only
        refine hK.out _ _ hS.mod ?_
        have hS4 := Lib.hid (sep_mid2 hS)
        have hrn2 := Lib.hid hr2
        clear hK K hS hmm hr2 hS3
        refine leaf_wrap (goalP := fun W => wpAnyH _ _ _ _ _ _ _ _ W) hS4.out ?_
        intro Wg hSg
        clear hS4
        have hb := hSg.blk
        have z0 := hb.cell 0 rfl
        have z1 := hb.cell 1 rfl
        have z2 := hb.cell 2 rfl
        have z3 := hb.cell 3 rfl
        have zf := hb.free
        have zl := hb.lt
        have hSh := Lib.hid (sep_set4 hSg (.int .i64 x0) (.slice xa xk xc) (.int .i64 x2) (.int .i64 x3)).swap
        clear hb hSg
        refine tail_one 10 (by kernel_rfl) rfl ?_
        intro K hK
        rw [if_pos (by rfl)]
        go_simp
        refine hK.out _ _ hSh.out.mod ?_
        clear hK K z0 z1 z2 z3 zf zl
        refine leaf_wrap (goalP := fun W => wpAnyH _ _ _ _ _ _ _ _ W) hSh.out ?_
        intro Wg2 hSg
        clear hSh
        have hb := hSg.blk
        have z0 := hb.cell 0 rfl
        have z1 := hb.cell 1 rfl
        have z2 := hb.cell 2 rfl
        have z3 := hb.cell 3 rfl
        have zf := hb.free
        have zl := hb.lt
        have hSh := Lib.hid (sep_set4 hSg (.int .i64 y0) (.slice ya yk yc) (.int .i64 y2) (.int .i64 y3)).swap
        clear hb hSg
        refine tail_one 11 (by kernel_rfl) rfl ?_
        intro K hK
        rw [if_pos (by rfl)]
        go_simp
        refine hK.out _ _ hSh.out.mod ?_
        clear hK K z0 z1 z2 z3 zf zl
        refine leaf_wrap (goalP := fun W => wpAnyH _ _ _ _ _ _ _ _ W) hSh.out ?_
        intro Wg2 hSg
        clear hSh
        refine tail_done (by kernel_rfl) ?_
        go_wp2_with fail
        go_meet
        exact ⟨_, _, x0, xa, xk, xc, x2, x3, y0, ya, yk, yc, y2, y3, R1, R2, rfl, rfl, hrn1, hrn2, Lib.hid hSg⟩
    · skip
      intro K hK
      rw [if_pos (by rfl)]
      go_simp
      refine hK.out _ _ (hS0.out.box [.int .i64 0, .slice none 0 0, .int .i64 0, .int .i64 0] 38).mod ?_
      have hS1 := Lib.hid (hS0.out.box [.int .i64 0, .slice none 0 0, .int .i64 0, .int .i64 0] 38)
      try rw [show w2.drew.heap.size = w2.heap.size from rfl] at hS1
      clear hK K hS0
      refine tail_two 3 8 (by kernel_rfl) rfl rfl ?_ ?_
      · skip
        intro K hK
        rw [if_pos (by rfl)]
        go_simp
        refine (rnew_sep n1 (hR1.out _ hS1.out.mod) hS1.out).mono ?_
        rintro e w8 ⟨x0, xa, xk, xc, x2, x3, R1, rfl, hr1, hmm, hS⟩
        try dsimp only
        refine hK.out _ _ hS.mod ?_
        have hS2 := Lib.hid (sep_mid hS)
        have hrn1 := Lib.hid hr1
        clear hK K hS hmm hr1 hS1
        refine tail_two 7 8 (by kernel_rfl) rfl rfl ?_ ?_
        · skip
          intro K hK
          rw [if_pos (by rfl)]
          go_simp
          refine (rnew_sep n2 (hR2.out _ hS2.out.mod) hS2.out).mono ?_
          rintro e w8 ⟨y0, ya, yk, yc, y2, y3, R2, rfl, hr2, hmm, hS⟩
          try dsimp only
          refine hK.out _ _ hS.mod ?_
          have hS3 := Lib.hid (sep_mid hS)
          have hrn2 := Lib.hid hr2
          clear hK K hS hmm hr2 hS2
          refine tail_one 8 (by kernel_rfl) rfl ?_
          intro K hK
          rw [if_pos (by rfl)]
          go_simp
          refine hK.out _ _ (hS3.out.box [.int .i64 0, .slice none 0 0, .int .i64 0, .int .i64 0] 38).mod ?_
          have hS4 := Lib.hid (hS3.out.box [.int .i64 0, .slice none 0 0, .int .i64 0, .int .i64 0] 38)
          try rw [World.size_alloc] at hS4
          clear hK K hS3
          refine leaf_wrap (goalP := fun W => wpAnyH _ _ _ _ _ _ _ _ W) hS4.out ?_
          intro Wg hSg
          clear hS4
          have hb := hSg.blk
          have z0 := hb.cell 0 rfl
          have z1 := hb.cell 1 rfl
          have z2 := hb.cell 2 rfl
          have z3 := hb.cell 3 rfl
          have zf := hb.free
          have zl := hb.lt
          have hSh := Lib.hid (sep_set4 hSg (.int .i64 x0) (.slice xa xk xc) (.int .i64 x2) (.int .i64 x3)).swap
          clear hb hSg
          refine tail_one 10 (by kernel_rfl) rfl ?_
          intro K hK
          rw [if_pos (by rfl)]
          go_simp
          refine hK.out _ _ hSh.out.mod ?_
          clear hK K z0 z1 z2 z3 zf zl
          refine leaf_wrap (goalP := fun W => wpAnyH _ _ _ _ _ _ _ _ W) hSh.out ?_
          intro Wg2 hSg
          clear hSh
          have hb := hSg.blk
          have z0 := hb.cell 0 rfl
          have z1 := hb.cell 1 rfl
          have z2 := hb.cell 2 rfl
          have z3 := hb.cell 3 rfl
          have zf := hb.free
          have zl := hb.lt
          have hSh := Lib.hid (sep_set4 hSg (.int .i64 y0) (.slice ya yk yc) (.int .i64 y2) (.int .i64 y3)).swap
          clear hb hSg
          refine tail_one 11 (by kernel_rfl) rfl ?_
          intro K hK
          rw [if_pos (by rfl)]
          go_simp
          refine hK.out _ _ hSh.out.mod ?_
          clear hK K z0 z1 z2 z3 zf zl
          refine leaf_wrap (goalP := fun W => wpAnyH _ _ _ _ _ _ _ _ W) hSh.out ?_
          intro Wg2 hSg
          clear hSh
          refine tail_done (by kernel_rfl) ?_
          go_wp2_with fail
          go_meet
          exact ⟨_, _, x0, xa, xk, xc, x2, x3, y0, ya, yk, yc, y2, y3, R1, R2, rfl, rfl, hrn1, hrn2, Lib.hid hSg⟩
        · skip
          intro K hK
          rw [if_pos (by rfl)]
          go_simp
          refine hK.out _ _ (hS2.out.box [.int .i64 0, .slice none 0 0, .int .i64 0, .int .i64 0] 38).mod ?_
          have hS3 := Lib.hid (hS2.out.box [.int .i64 0, .slice none 0 0, .int .i64 0, .int .i64 0] 38)
          try rw [World.size_alloc] at hS3
          clear hK K hS2
          refine tail_one 7 (by kernel_rfl) rfl ?_
          intro K hK
          rw [if_pos (by rfl)]
          go_simp
          refine (rnew_sep n2 (hR2.out _ hS3.out.mod) hS3.out).mono ?_
          rintro e w8 ⟨y0, ya, yk, yc, y2, y3, R2, rfl, hr2, hmm, hS⟩
          try dsimp only
          refine hK.out _ _ hS.mod ?_
          have hS4 := Lib.hid (sep_mid2 hS)
          have hrn2 := Lib.hid hr2
          clear hK K hS hmm hr2 hS3
          refine leaf_wrap (goalP := fun W => wpAnyH _ _ _ _ _ _ _ _ W) hS4.out ?_
          intro Wg hSg
          clear hS4
          have hb := hSg.blk
          have z0 := hb.cell 0 rfl
          have z1 := hb.cell 1 rfl
          have z2 := hb.cell 2 rfl
          have z3 := hb.cell 3 rfl
          have zf := hb.free
          have zl := hb.lt
          have hSh := Lib.hid (sep_set4 hSg (.int .i64 x0) (.slice xa xk xc) (.int .i64 x2) (.int .i64 x3)).swap
          clear hb hSg
          refine tail_one 10 (by kernel_rfl) rfl ?_
          intro K hK
          rw [if_pos (by rfl)]
          go_simp
          refine hK.out _ _ hSh.out.mod ?_
          clear hK K z0 z1 z2 z3 zf zl
          refine leaf_wrap (goalP := fun W => wpAnyH _ _ _ _ _ _ _ _ W) hSh.out ?_
          intro Wg2 hSg
          clear hSh
          have hb := hSg.blk
          have z0 := hb.cell 0 rfl
          have z1 := hb.cell 1 rfl
          have z2 := hb.cell 2 rfl
          have z3 := hb.cell 3 rfl
          have zf := hb.free
          have zl := hb.lt
          have hSh := Lib.hid (sep_set4 hSg (.int .i64 y0) (.slice ya yk yc) (.int .i64 y2) (.int .i64 y3)).swap
          clear hb hSg
          refine tail_one 11 (by kernel_rfl) rfl ?_
          intro K hK
          rw [if_pos (by rfl)]
          go_simp
          refine hK.out _ _ hSh.out.mod ?_
          clear hK K z0 z1 z2 z3 zf zl
          refine leaf_wrap (goalP := fun W => wpAnyH _ _ _ _ _ _ _ _ W) hSh.out ?_
          intro Wg2 hSg
          clear hSh
          refine tail_done (by kernel_rfl) ?_
          go_wp2_with fail
          go_meet
          exact ⟨_, _, x0, xa, xk, xc, x2, x3, y0, ya, yk, yc, y2, y3, R1, R2, rfl, rfl, hrn1, hrn2, Lib.hid hSg⟩
      · skip
        intro K hK
        rw [if_pos (by rfl)]
        go_simp
        refine hK.out _ _ (hS1.out.box [.int .i64 0, .slice none 0 0, .int .i64 0, .int .i64 0] 38).mod ?_
        have hS2 := Lib.hid (hS1.out.box [.int .i64 0, .slice none 0 0, .int .i64 0, .int .i64 0] 38)
        try rw [World.size_alloc] at hS2
        try rw [show w2.drew.heap.size = w2.heap.size from rfl] at hS2
        clear hK K hS1
        refine tail_one 3 (by kernel_rfl) rfl ?_
        intro K hK
        rw [if_pos (by rfl)]
        go_simp
        refine (rnew_sep n1 (hR1.out _ hS2.out.mod) hS2.out).mono ?_
        rintro e w8 ⟨x0, xa, xk, xc, x2, x3, R1, rfl, hr1, hmm, hS⟩
        try dsimp only
        refine hK.out _ _ hS.mod ?_
        have hS3 := Lib.hid (sep_mid2 hS)
        have hrn1 := Lib.hid hr1
        clear hK K hS hmm hr1 hS2
        refine tail_one 7 (by kernel_rfl) rfl ?_
        intro K hK
        rw [if_pos (by rfl)]
        go_simp
        refine (rnew_sep n2 (hR2.out _ hS3.out.mod) hS3.out).mono ?_
        rintro e w8 ⟨y0, ya, yk, yc, y2, y3, R2, rfl, hr2, hmm, hS⟩
        try dsimp only
        refine hK.out _ _ hS.mod ?_
        have hS4 := Lib.hid (sep_mid2 hS)
        have hrn2 := Lib.hid hr2
        clear hK K hS hmm hr2 hS3
        refine leaf_wrap (goalP := fun W => wpAnyH _ _ _ _ _ _ _ _ W) hS4.out ?_
        intro Wg hSg
        clear hS4
        have hb := hSg.blk
        have z0 := hb.cell 0 rfl
        have z1 := hb.cell 1 rfl
        have z2 := hb.cell 2 rfl
        have z3 := hb.cell 3 rfl
        have zf := hb.free
        have zl := hb.lt
        have hSh := Lib.hid (sep_set4 hSg (.int .i64 x0) (.slice xa xk xc) (.int .i64 x2) (.int .i64 x3)).swap
        clear hb hSg
        refine tail_one 10 (by kernel_rfl) rfl ?_
        intro K hK
        rw [if_pos (by rfl)]
        go_simp
        refine hK.out _ _ hSh.out.mod ?_
        clear hK K z0 z1 z2 z3 zf zl
        refine leaf_wrap (goalP := fun W => wpAnyH _ _ _ _ _ _ _ _ W) hSh.out ?_
        intro Wg2 hSg
        clear hSh
        have hb := hSg.blk
        have z0 := hb.cell 0 rfl
        have z1 := hb.cell 1 rfl
        have z2 := hb.cell 2 rfl
        have z3 := hb.cell 3 rfl
        have zf := hb.free
        have zl := hb.lt
        have hSh := Lib.hid (sep_set4 hSg (.int .i64 y0) (.slice ya yk yc) (.int .i64 y2) (.int .i64 y3)).swap
        clear hb hSg
        refine tail_one 11 (by kernel_rfl) rfl ?_
        intro K hK
        rw [if_pos (by rfl)]
        go_simp
        refine hK.out _ _ hSh.out.mod ?_
        clear hK K z0 z1 z2 z3 zf zl
        refine leaf_wrap (goalP := fun W => wpAnyH _ _ _ _ _ _ _ _ W) hSh.out ?_
        intro Wg2 hSg
        clear hSh
        refine tail_done (by kernel_rfl) ?_
        go_wp2_with fail
        go_meet
        exact ⟨_, _, x0, xa, xk, xc, x2, x3, y0, ya, yk, yc, y2, y3, R1, R2, rfl, rfl, hrn1, hrn2, Lib.hid hSg⟩
  case rest =>
    obtain ⟨T1, T2, x0, xa, xk, xc, x2, x3, y0, ya, yk, yc, y2, y3, R1, R2, rfl, rfl, hr1, hr2, hS⟩ := hcut
    clear hR1 hR2 hS0 u0 u1 hnw1 hnw2 hrn1 hrn2 hq1 hq2
    go_wp2_with fail
    refine (edge_nil _).mono ?_
    rintro e w4 ⟨rfl, hm4⟩
    have hS4 := Lib.hid (hS.out.still hm4)
    clear hS hm4
    try dsimp only
    go_upto_region 8 with fail
    generalize hW5 : w4.alloc (.cells #[.int .i64 0, .int .i64 0, .int .i64 0] 41) = W5
    have hS5 := Lib.hid (show Sep w2.drew W5 _ by rw [← hW5]; exact hS4.out.still ((Mod.refl [] w4).alloc _))
    clear hW5 hS4
    go_upto_region 10 with (first
      | (go_at_call 18; refine (n_nil _).mono ?_; rintro e w6 ⟨rfl, hw6⟩; subst w6)
      | (go_at_call 19; refine (m_nil _).mono ?_; rintro e w6 ⟨rfl, hw6⟩; subst w6)
      | (go_at_call 21; refine (edges_nil _).mono ?_; rintro e w6 ⟨rfl, hw6⟩; subst w6)
      | (go_at_call 14; refine (weight_nil 0 1 _).mono ?_; rintro e w6 ⟨rfl, hw6⟩; subst w6)
      | (go_at_call 12; refine (degree_nil _).mono ?_; rintro e w6 ⟨rfl, hw6⟩; subst w6)
      | (go_at_call 13; refine (near_nil _).mono ?_; rintro e w6 ⟨rfl, hw6⟩; subst w6)
      | (go_at_call 15; refine (total_nil _).mono ?_; rintro e w6 ⟨rfl, hw6⟩; subst w6)
      | (go_at_call 43; refine (same_nil none _).mono ?_; rintro e w6 ⟨rfl, hw6⟩; subst w6))
    have hend := Lib.hid (show Mod [] w W5 from hm0.out.trans (hm1.trans (hm2.trans ((Mod.refl [] w2).drew.trans hS5.out.mod (by simp)) (by simp)) (by simp)) (by simp))
    rcases hN1.out with ⟨hne, hv, hmm⟩ | ⟨he1, b1, hv, hG1⟩
    · simp only [Ending.returned.injEq, Value.tuple.injEq, Array.mk.injEq, List.cons.injEq, Value.pointer.injEq, Value.int.injEq, true_and, and_true] at hv
      obtain ⟨rfl, rfl, rfl⟩ := hv
      have hz := newE_bad hne
      generalize (newE n1 l1).1 = q1 at *
      have hz1 : (q1 == 0) = false := by simpa using hz
      have hz2 : (q1 != 0) = true := by simpa using hz
      obtain ⟨g, hg⟩ : ∃ b : Bool, (q2 != 0) = b ∧ g2.isNone = b := by
        rcases hN2.out with ⟨hne2, hv2, _⟩ | ⟨_, b2, hv2, _⟩
        · simp only [Ending.returned.injEq, Value.tuple.injEq, Array.mk.injEq, List.cons.injEq, Value.pointer.injEq, Value.int.injEq, true_and, and_true] at hv2
          obtain ⟨rfl, rfl, rfl⟩ := hv2
          exact ⟨true, by simpa using newE_bad hne2, rfl⟩
        · simp only [Ending.returned.injEq, Value.tuple.injEq, Array.mk.injEq, List.cons.injEq, Value.pointer.injEq, Value.int.injEq, true_and, and_true] at hv2
          obtain ⟨rfl, rfl, rfl⟩ := hv2
          exact ⟨false, rfl, rfl⟩
      obtain ⟨hg1, hg2⟩ := hg
      have hg2' := Lib.hid hg2
      clear hN1 hN2 hr1 hr2 hS5 hmm hm1 hm2 hne hz hg2
      cases g
      all_goals
        go_wp2_with (first
          | (go_at_call 43; refine (same_nil g2 _).mono ?_; rintro e w6 ⟨rfl, hw6⟩; subst w6; rw [hg2'.out])
          | (go_at_call 10; refine (haw.out _).mono ?_; rintro e w7 ⟨rfl, hm7⟩))
        go_ret
        exact ⟨rfl, hend.out.trans hm7 (by simp)⟩
    · simp only [Ending.returned.injEq, Value.tuple.injEq, Array.mk.injEq, List.cons.injEq, Value.pointer.injEq, Value.int.injEq, true_and, and_true] at hv
      obtain ⟨rfl, rfl, rfl⟩ := hv
      rcases hN2.out with ⟨hne2, hv2, _⟩ | ⟨he2, b2, hv2, hG2⟩
      · simp only [Ending.returned.injEq, Value.tuple.injEq, Array.mk.injEq, List.cons.injEq, Value.pointer.injEq, Value.int.injEq, true_and, and_true] at hv2
        obtain ⟨rfl, rfl, rfl⟩ := hv2
        have hz := newE_bad hne2
        generalize (newE n2 l2).1 = q2 at *
        have hz1 : (q2 == 0) = false := by simpa using hz
        have hz2 : (q2 != 0) = true := by simpa using hz
        clear hN1 hN2 hr1 hr2 hS5 hm1 hm2 hne2 hz hG1
        go_wp2_with (first
          | (go_at_call 43; refine (same_nil2 _ _).mono ?_; rintro e w6 ⟨rfl, hw6⟩; subst w6)
          | (go_at_call 10; refine (haw.out _).mono ?_; rintro e w7 ⟨rfl, hm7⟩))
        go_ret
        exact ⟨rfl, hend.out.trans hm7 (by simp)⟩
      · simp only [Ending.returned.injEq, Value.tuple.injEq, Array.mk.injEq, List.cons.injEq, Value.pointer.injEq, Value.int.injEq, true_and, and_true] at hv2
        obtain ⟨rfl, rfl, rfl⟩ := hv2
        rcases hr1.out with ⟨hne, _⟩ | ⟨_, hx0, rfl, rfl, rfl, hR1⟩
        · exact absurd he1 hne
        rcases hr2.out with ⟨hne, _⟩ | ⟨_, hy0, rfl, rfl, rfl, hR2⟩
        · exact absurd he2 hne
        subst x0
        subst y0
        rw [hR1, hR2] at hS5
        simp only [List.cons_append, List.nil_append] at hS5
        have k1 := newE_ok he1
        have k2 := newE_ok he2
        obtain ⟨F1, hP1, _⟩ := hG1.first
        obtain ⟨F2, hP2, _⟩ := hG2.first
        have hP1' := Lib.hid (fun W (m : Mod [] W5 W) => Good.keep hP1 (hm2.trans ((Mod.refl [] w2).drew.trans (hS5.out.mod.trans m (by simp)) (by simp)) (by simp)) (by simp))
        have hP2' := Lib.hid (fun W (m : Mod [] W5 W) => Good.keep hP2 ((Mod.refl [] w2).drew.trans (hS5.out.mod.trans m (by simp)) (by simp)) (by simp))
        have hsm := Lib.hid (rsame_any (Rd.own (hS5.out.pick 3 (by simp)).row) (Rd.own (hS5.out.pick 2 (by simp)).row))
        have hB1 := hS5.out.blk
        have hB2 := hS5.out.swap.blk
        have z0 := hB1.cell 0 rfl
        have z1 := hB1.cell 1 rfl
        have zl := hB1.lt
        have v0 := hB2.cell 0 rfl
        have v1 := hB2.cell 1 rfl
        have vl := hB2.lt
        have hd : decide (n1.toNat = n2.toNat ∧ merged l1 = merged l2) = (decide (n1 = n2) && decide (merged l1 = merged l2)) := by
          rw [Bool.eq_iff_iff]
          simp only [decide_eq_true_eq, Bool.and_eq_true]
          constructor
          · rintro ⟨e1, e2⟩; exact ⟨by omega, e2⟩
          · rintro ⟨e1, e2⟩; exact ⟨by omega, e2⟩
        have hsg := Lib.hid (fun W m => same_net (hP1'.out W m) (hP2'.out W m))
        have hsg2 := Lib.hid (fun W m => same_net (hP1'.out W m) (hP1'.out W m))
        simp only [hd] at hsg
        simp only [and_self, decide_true] at hsg2
        generalize decide (merged l1 = merged l2) = r at *
        clear hN1 hN2 hr1 hr2 hS5 hm1 hm2 hG1 hG2 hP1 hP2 hP1' hP2' hB1 hB2 k1 k2 hd he1 he2 hR1 hR2
        by_cases hn : n1 = n2
        · have t1 : (n1 == n2) = true := by simp [hn]
          simp only [hn, decide_true, Bool.true_and] at hsg
          clear hn
          go_wp2_with (first
            | (go_at_call 20; refine hsm.out.mono ?_; rintro e w6 ⟨rfl, hm6⟩; have hm6' := Lib.hid hm6; clear hm6; cases r))
          all_goals
            go_wp2_with fail
            refine (hsg.out _ hm6'.out).mono ?_
            rintro e w7 ⟨rfl, hm7⟩
            have hm7' := Lib.hid (hm6'.out.trans hm7 (by simp))
            try dsimp only
            go_wp2_with fail
            refine (hsg2.out _ hm7'.out).mono ?_
            rintro e w8 ⟨rfl, hm8⟩
            have hm8' := Lib.hid (hm7'.out.trans hm8 (by simp))
            try dsimp only
            go_wp2_with fail
            refine (haw.out _).mono ?_
            rintro e w9 ⟨rfl, hm9⟩
            try dsimp only
            go_wp2_with fail
            go_ret
            exact ⟨rfl, hend.out.trans (hm8'.out.trans hm9 (by simp)) (by simp)⟩
        · have t1 : (n1 == n2) = false := by simp [hn]
          simp only [hn, decide_false, Bool.false_and] at hsg
          clear hn
          go_wp2_with fail
          refine (hsg.out _ (Mod.refl _ _)).mono ?_
          rintro e w7 ⟨rfl, hm7⟩
          have hm7' := Lib.hid hm7
          try dsimp only
          go_wp2_with fail
          refine (hsg2.out _ hm7'.out).mono ?_
          rintro e w8 ⟨rfl, hm8⟩
          have hm8' := Lib.hid (hm7'.out.trans hm8 (by simp))
          try dsimp only
          go_wp2_with fail
          refine (haw.out _).mono ?_
          rintro e w9 ⟨rfl, hm9⟩
          try dsimp only
          go_wp2_with fail
          go_ret
          exact ⟨rfl, hend.out.trans (hm8'.out.trans hm9 (by simp)) (by simp)⟩
end Edge
end Go.Proofs.Ytkhbnopmeapfjaa
