/- A pairing heap: pair, its walk. -/
import Derived.Test.YtmkbinbggiocaaaHp5
import Derived.Test.YtmkbinbggiocaaaReader4
import Derived.WalkMore
set_option linter.unusedVariables false
set_option linter.unusedSimpArgs false
namespace Go.Proofs.Ytmkbinbggiocaaa
open Go.RowKit Arena
namespace Hp
open Go.Proofs.Ytmkbinbggiocaaa.Code
def lenOf : Value → Nat
  | .slice _ n _ => n
  | _ => 0
theorem ones_step {H H' : Hp} {rt r : Int} {T : List Int} {j : Nat} (hj : j < T.length) (h : onesT H rt (T.take (j + 1)).reverse = some (H', r)) :
    ∃ H2 r2, linkT H (T.getD j 0) rt = some (H2, r2) ∧ onesT H2 r2 (T.take j).reverse = some (H', r) := by
  have e : (T.take (j + 1)).reverse = T.getD j 0 :: (T.take j).reverse := by
    rw [List.take_add_one, List.getElem?_eq_getElem hj, List.reverse_append, List.getD_eq_getElem?_getD, List.getElem?_eq_getElem hj]
    rfl
  rw [e] at h
  unfold onesT at h
  simp only [Option.bind_eq_some_iff] at h
  obtain ⟨⟨H2, r2⟩, h1, h2⟩ := h
  exact ⟨H2, r2, h1, h2⟩
theorem lone1_any {w : World} {bh : Nat} {H H' : Hp} {F : List Nat} (h : HAt w bh H F) (n : Int) (hT : loneT H n = some H') :
    Calls Try.prog 136 #[.pointer (some ⟨bh, 0, none⟩), .int .i64 n, .func (.func 172) #[] #[]] w fun e w' => e = .returned (.tuple #[]) ∧ HAt w' bh H' F ∧ Mod F w w' := by
  unfold loneT at hT
  simp only [Option.map_eq_some_iff] at hT
  obtain ⟨x, hx, rfl⟩ := hT
  exact turn_any h n x _ hx 172 #[] (fun B w => by simp [go_sem]) (pair1_makes _ x)
theorem lone2_any {w : World} {bh : Nat} {H H' : Hp} {F : List Nat} (h : HAt w bh H F) (n : Int) (hT : loneT H n = some H') :
    Calls Try.prog 136 #[.pointer (some ⟨bh, 0, none⟩), .int .i64 n, .func (.func 173) #[] #[]] w fun e w' => e = .returned (.tuple #[]) ∧ HAt w' bh H' F ∧ Mod F w w' := by
  unfold loneT at hT
  simp only [Option.map_eq_some_iff] at hT
  obtain ⟨x, hx, rfl⟩ := hT
  exact turn_any h n x _ hx 173 #[] (fun B w => by simp [go_sem]) (pair2_makes _ x)
set_option maxRecDepth 100000 in
set_option maxHeartbeats 8000000 in
theorem pair_any {w : World} {bh : Nat} {H H' : Hp} {F : List Nat} (h : HAt w bh H F) (n r : Int) (fuel : Nat) (hT : pairT fuel H n = some (H', r)) (hl0 : 0 ≤ H.links) (hl1 : H.links + 2 * fuel < 4611686018427387904) (hfu : fuel ≤ 1048576) :
    Calls Try.prog 146 #[.pointer (some ⟨bh, 0, none⟩), .int .i64 n] w fun e w' => e = .returned (.int .i64 r) ∧ HAt w' bh H' F ∧ Mod F w w' := by
  have hix0 : ∀ (a b : Int) (w : World), (Instr.index 227 (.agg #[.int .i64 a, .int .i64 b]) (.int .i64 0)).run Try.prog w = .ok (.int .i64 a) w := fun _ _ _ => by kernel_rfl
  have hix1 : ∀ (a b : Int) (w : World), (Instr.index 227 (.agg #[.int .i64 a, .int .i64 b]) (.int .i64 1)).run Try.prog w = .ok (.int .i64 b) w := fun _ _ _ => by kernel_rfl
  unfold pairT at hT
  simp only [Option.bind_eq_some_iff] at hT
  obtain ⟨⟨Hm, T⟩, hT1, hT2⟩ := hT
  have hT2' := Lib.hid hT2
  have hP0 := Lib.hid (show PSt w w bh H F none 0 [] from ⟨h, Mod.refl _ _, World.ownsRow_nil _ _ _ _, by simp [Value.ownBlock], h.lt⟩)
  have hT1' := Lib.hid hT1
  clear h hT1 hT2
  go_enter Try.func146, Try.ntmps146
  go_wp2_with fail
  go_step3
  go_wp2_with fail
  go_step3
  go_wp2_with fail
  go_loopw [1, 5] (fun nv tv wr => ∃ (n : Int) (H : Hp) (k : Nat) (trees : List Int) (av : Option Addr) (cv : Nat), nv = .int .i64 n ∧ tv = .slice av trees.length cv ∧ trees.length + k = fuel ∧ Hid (PSt w wr bh H F av cv trees) ∧ Hid (twosT k H n trees = some (Hm, T)) ∧ Hid (0 ≤ H.links ∧ H.links + 2 * k + trees.length < 4611686018427387904)) (fun _ tv _ => fuel - lenOf tv)
  case atStart => exact ⟨n, H, fuel, [], none, 0, rfl, rfl, by simp, hP0, hT1', Lib.hid ⟨hl0, by simpa using hl1⟩⟩
  case round =>
    clear hP0 hT1' hl0 hl1
    obtain ⟨n, H, k, trees, av, cv, rfl, rfl, hfk, hP, hTw, hlk⟩ := hrel
    by_cases hn : n = -1
    case' pos =>
      subst hn
      have e := hTw.out
      rw [twos_end] at e
      simp only [Option.some.injEq, Prod.mk.injEq] at e
      obtain ⟨rfl, hT⟩ := e
      have hPE := Lib.hid (show PSt w wr bh H F av cv T by rw [← hT]; exact hP.out)
      have hLE := Lib.hid (show 0 ≤ H.links ∧ H.links + T.length < 4611686018427387904 by rw [← hT]; have := hlk.out; omega)
      clear hTw hP hlk
      go_upto_region 15 with fail
      rw [hT]
      clear hT hfk
      generalize av = av2 at *
      generalize cv = cv2 at *
    case' neg =>
      have hn1 : (n != -1) = true := by simpa using hn
      obtain ⟨k', x, rfl, hx, hend⟩ := twos_step hn hTw.out
      have hg := Lib.hid (get_any hP.out.heap n x hx)
      have hend' := Lib.hid hend
      clear hend hTw hn
      go_wp2_with fail
      refine hg.out.mono ?_
      rintro e w1 ⟨rfl, hm1⟩
      try dsimp only
      unfold Nd.val
      have hP1 := Lib.hid (hP.out.still hm1)
      clear hg hP hm1 hx
      rcases hend'.out with ⟨hc, hlone, hT⟩ | ⟨hc, y, H1, H2, H3, rr, hy, h1, h2, h3, h4⟩
    case' inl =>
      have hc1 : (x.next == -1) = true := by simp [hc]
      have hl1 := Lib.hid (lone1_any hP1.out.heap n hlone)
      have hsame := Lib.hid (lone_same hlone)
      clear hend' hc hlone
      go_wp2_with fail
      refine hl1.out.mono ?_
      rintro e w2 ⟨rfl, hH2, hm2⟩
      try dsimp only
      have hP2 := hP1.out.step hH2 hm2
      clear hl1 hP1 hH2 hm2
      go_upto_region 15 with (at_builtin; refine app_own rfl (.tmp 24) (.tmp 26) 36 3 _ 1 8 rfl Try.underlying36 infoInt rfl (by omega) (by omega) (.slice av trees.length cv) trees.length 1 (vi64 trees) [.int .i64 n] rfl rfl rfl rfl (by simp [Value.oneCell']) hP2.own (by omega) ?_; intro aA cA wA hownA hmA hvA)
      have e : (trees ++ [n]).length = trees.length + 1 := by simp
      have hPE := Lib.hid (show PSt w wA bh Hm F aA cA T by rw [hT]; exact hP2.push n hownA hmA hvA)
      have hLE := Lib.hid (show 0 ≤ Hm.links ∧ Hm.links + T.length < 4611686018427387904 by
        have := hlk.out; have h8 := hsame.out.lo; have h9 := hsame.out.hi
        rw [hT, e]
        omega)
      rw [← e, ← hT]
      clear hT hfk hP2 hownA hmA hvA hlk hsame e
      generalize aA = av2 at *
      generalize cA = cv2 at *
    case inr =>
      have hc1 : (x.next == -1) = false := by simpa using hc
      have hg2 := Lib.hid (get_any hP1.out.heap x.next y hy)
      have l1' := Lib.hid h1
      have l2' := Lib.hid h2
      have l3' := Lib.hid h3
      have l4' := Lib.hid h4
      clear hend' hc hy h1 h2 h3 h4 hT2'
      go_wp2_with fail
      refine hg2.out.mono ?_
      rintro e w2 ⟨rfl, hm2⟩
      try dsimp only
      unfold Nd.val
      have hP2 := Lib.hid (hP1.out.still hm2)
      clear hP1 hm2 hg2
      go_wp2_with fail
      go_loopw [9, 35] (fun _ iv wr => Hid ((iv = .int .i64 0 ∧ PSt w wr bh H F av cv trees) ∨ (iv = .int .i64 1 ∧ PSt w wr bh H1 F av cv trees) ∨ (iv = .int .i64 2 ∧ PSt w wr bh H2 F av cv trees))) (fun _ iv _ => (2 - intOf iv).toNat)
      case atStart => exact Lib.hid (.inl ⟨rfl, hP2.out⟩)
      case round =>
        clear hP2
        rcases hrel.out with ⟨rfl, hP3⟩ | ⟨rfl, hP3⟩ | ⟨rfl, hP3⟩
        · have hl := Lib.hid (lone2_any hP3.heap n l1'.out)
          have hP3' := Lib.hid hP3
          clear hrel hP3
          go_wp2_with fail
          refine hl.out.mono ?_
          rintro e w4 ⟨rfl, hH4, hm4⟩
          try dsimp only
          have hP4 := Lib.hid (hP3'.out.step hH4 hm4)
          clear hH4 hm4 hl hP3'
          go_wp2_with fail
          go_roundw
          case rel => exact Lib.hid (.inr (.inl ⟨rfl, hP4.out⟩))
          case measure => simp [intOf]
        · have hl := Lib.hid (lone2_any hP3.heap x.next l2'.out)
          have hP3' := Lib.hid hP3
          clear hrel hP3
          go_wp2_with fail
          refine hl.out.mono ?_
          rintro e w4 ⟨rfl, hH4, hm4⟩
          try dsimp only
          have hP4 := Lib.hid (hP3'.out.step hH4 hm4)
          clear hH4 hm4 hl hP3'
          go_wp2_with fail
          go_roundw
          case rel => exact Lib.hid (.inr (.inr ⟨rfl, hP4.out⟩))
          case measure => simp [intOf]
        · have hs1 := lone_same l1'.out
          have hs2 := lone_same l2'.out
          have hs3 := link_same l3'.out
          have hl := Lib.hid (link_any hP3.heap n x.next rr l3'.out (by have := hlk.out; have := hs1.lo; have := hs2.lo; omega) (by have := hlk.out; have := hs1.hi; have := hs2.hi; omega))
          have hbd := Lib.hid (show 0 ≤ H3.links ∧ H3.links + 2 * k' + (trees.length + 1 : Nat) < 4611686018427387904 by
            have := hlk.out; have := hs1.hi; have := hs2.hi; have := hs3.hi; have := hs1.lo; have := hs2.lo; have := hs3.lo; omega)
          have hP3' := Lib.hid hP3
          clear hrel hP3 hs1 hs2 hs3 l1' l2' l3' hlk
          go_wp2_with fail
          refine hl.out.mono ?_
          rintro e w4 ⟨rfl, hH4, hm4⟩
          try dsimp only
          have hP4 := hP3'.out.step hH4 hm4
          clear hH4 hm4 hl hP3'
          go_wp2_with (at_builtin; refine app_own rfl (.tmp 42) (.tmp 47) 36 3 _ 1 8 rfl Try.underlying36 infoInt rfl (by omega) (by omega) (.slice av trees.length cv) trees.length 1 (vi64 trees) [.int .i64 rr] rfl rfl rfl rfl (by simp [Value.oneCell']) hP4.own (by omega) ?_; intro aA cA wA hownA hmA hvA)
          have e : (trees ++ [rr]).length = trees.length + 1 := by simp
          have hP5 := Lib.hid (hP4.push rr hownA hmA hvA)
          clear hP4 hownA hmA hvA
          go_roundw
          case rel => exact ⟨y.next, H3, k', trees ++ [rr], aA, cA, rfl, by rw [e], by rw [e]; omega, hP5, l4', Lib.hid (by rw [e]; exact hbd.out)⟩
          case measure =>
            show fuel - (trees.length + 1) < fuel - trees.length
            omega
    all_goals
      have hTl : (T.length : Int) < 4611686018427387904 := by have := hLE.out; omega
      have hw1 : IntKind.i64.wrap ((T.length : Int) - 1) = (T.length : Int) - 1 := IntWalk.i64_in _ (by omega)
      go_wp2_with fail
      go_loopw [10, 11] (fun rv iv wr => ∃ (H : Hp) (rt : Int) (k : Nat), rv = .int .i64 rt ∧ iv = .int .i64 ((k : Int) - 1) ∧ k ≤ T.length ∧ Hid (PSt w wr bh H F av2 cv2 T) ∧ Hid (onesT H rt (T.take k).reverse = some (H', r)) ∧ Hid (0 ≤ H.links ∧ H.links + k < 4611686018427387904)) (fun _ iv _ => (intOf iv + 1).toNat)
      case atStart => exact ⟨_, -1, T.length, rfl, rfl, Nat.le_refl _, hPE, Lib.hid (by rw [List.take_length]; exact hT2'.out), hLE⟩
      case round =>
        clear hPE hLE hT2'
        obtain ⟨H, rt, k, rfl, rfl, hk, hP, hO, hl⟩ := hrel
        by_cases h0 : k = 0
        · subst h0
          have e := hO.out
          rw [List.take_zero] at e
          unfold onesT at e
          simp only [Option.some.injEq, Prod.mk.injEq, List.reverse_nil] at e
          obtain ⟨rfl, rfl⟩ := e
          have hz : (((0 : Nat) : Int) - 1) = -1 := by omega
          rw [hz]
          have hfin := Lib.hid (show HAt wr bh H F ∧ Mod F w wr from ⟨hP.out.heap, hP.out.mod⟩)
          clear hP hO hl hz
          go_wp2_with fail
          try rw [Exit.noGoto_ret]
          go_ret
          exact ⟨rfl, hfin.out⟩
        · obtain ⟨j, rfl⟩ : ∃ j, k = j + 1 := ⟨k - 1, by omega⟩
          have hi : (((j + 1 : Nat) : Int) - 1) = (j : Int) := by omega
          rw [hi]
          have hjl : j < T.length := by omega
          obtain ⟨H2, r2, hl1, hl2⟩ := ones_step hjl hO.out
          obtain ⟨gT, capT, hform⟩ := Ref11.row_form hP.out.own hjl
          injection hform with e1 e2 e3
          subst e1; subst e3
          have hcell := Ref11.row_at hP.out.own j (u := .int .i64 (T.getD j 0)) (by simp [vi64, List.getElem?_eq_getElem hjl, List.getD_eq_getElem?_getD])
          have hjl1 : (j : Int) < T.length := by omega
          have hlk := Lib.hid (link_any hP.out.heap (T.getD j 0) rt r2 hl1 hl.out.1 (by have := hl.out.2; omega))
          have hsame := Lib.hid (link_same hl1)
          have hl2' := Lib.hid hl2
          clear hO hl1 hl2 hi h0 e2
          generalize T.getD j 0 = t at *
          go_wp2_with fail
          refine hlk.out.mono ?_
          rintro e w5 ⟨rfl, hH5, hm5⟩
          try dsimp only
          have hP5 := Lib.hid (hP.out.step hH5 hm5)
          have hl5 := Lib.hid (show 0 ≤ H2.links ∧ H2.links + j < 4611686018427387904 by
            have := hl.out; have h8 := hsame.out.lo; have h9 := hsame.out.hi; omega)
          clear hH5 hm5 hlk hP hcell hl hsame
          go_wp2_with fail
          go_roundw
          case rel => exact ⟨H2, r2, j, rfl, by go_num, by omega, hP5, hl2', hl5⟩
          case measure => first | (simp [intOf]; done) | (simp [intOf]; omega)
end Hp
end Go.Proofs.Ytmkbinbggiocaaa
