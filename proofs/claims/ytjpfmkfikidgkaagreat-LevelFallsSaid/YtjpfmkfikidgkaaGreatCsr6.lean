/- The arcs of a graph are made: New. -/
import Derived.Test.YtjpfmkfikidgkaaGreatCsr5
import Derived.Test.YtjpfmkfikidgkaaGreatFork
import Derived.StillTailTactics
import Derived.Test.YtjpfmkfikidgkaaGreatStepApp
set_option linter.unusedVariables false
set_option linter.unusedSimpArgs false
namespace Go.Proofs.YtjpfmkfikidgkaaGreat
open Go.RowKit
namespace Edge
/-- Arcs that are being made: the variable, the object, the row of arcs, the row of beginnings; behind them others. -/
def newP (pa b gf : Nat) (va vo : Value) (n m : Nat) (xs : List (Int × Int)) (fs : List Int) (R : List Part) : List Part :=
  Blk pa [.pointer (some ⟨b, 0, none⟩)] 47 :: Blk b [va, .slice (some ⟨gf, 0, none⟩) (n + 1) (n + 1), vo] 184 :: Row 198 2 m va (flat encA xs) :: Row 3 1 (n + 1) (.slice (some ⟨gf, 0, none⟩) (n + 1) (n + 1)) (i64s fs) :: R
theorem arcsL_snoc {L : List Ed} {k : Nat} (hk : k < L.length) : flat encA (arcsL (L.take (k + 1))) = flat encA (arcsL (L.take k)) ++ [.int .i64 L[k].2.1, .int .i64 L[k].2.2, .int .i64 L[k].1, .int .i64 L[k].2.2] := by
  rw [take_step hk, arcsL_append, flat_append]
  simp [arcsL, flat, encA]
theorem infoI : (Tryz.prog.info? 3).map (fun i => (i.zero, i.size, i.bytes)) = some (some (.int .i64 0), 1, 8) := by kernel_rfl
theorem sep_wrap {goalP : World → Prop} {W0 Wx : World} {L : List Part} (h : Sep W0 Wx L) (hp : ∀ Wg, Sep W0 Wg L → goalP Wg) : goalP Wx := hp Wx h
theorem nilRow {w0 w : World} {L : List Part} (h : Sep w0 w L) (e size : Nat) : Sep w0 w (Row e size 0 (.slice none 0 0) [] :: L) :=
  h.add (P := Row e size 0 (.slice none 0 0) []) (Mod.refl _ _) (F := []) ⟨World.ownsRow_nil w 0 _ size, by simp [Value.ownBlock]⟩ (by simp)
theorem new_start (w : World) (L : List Ed) (n : Nat) (hn : n ≤ 4096) : Sep w (((w.alloc (.cells (madeCells #[.int .i64 0] (n + 1)) 3)).alloc (.cells #[.slice none 0 0, .slice (some ⟨w.heap.size, 0, none⟩) (n + 1) (n + 1), .slice none 0 0] 184)).alloc (.cells #[.pointer (some ⟨w.heap.size + 1, 0, none⟩)] 47))
    (newP (w.heap.size + 1 + 1) (w.heap.size + 1) w.heap.size (.slice none 0 0) (.slice none 0 0) n 0 [] (fromL n (cntF L 0)) []) := by
  have h1 := ((nilRow ((Sep.empty w).made (made_made w 3 (.int .i64 0) (n + 1) (by omega))) 198 2).box [.slice none 0 0, .slice (some ⟨w.heap.size, 0, none⟩) (n + 1) (n + 1), .slice none 0 0] 184).box [.pointer (some ⟨w.heap.size + 1, 0, none⟩)] 47
  simp only [World.size_alloc] at h1
  unfold newP
  rw [cntF_zero]
  have e : i64s (List.replicate (n + 1) 0) = List.replicate (n + 1) (.int .i64 0) := by simp [i64s]
  rw [e]
  exact h1
set_option maxRecDepth 100000 in
set_option maxHeartbeats 16000000 in
theorem acsr_new {w : World} {q : Option Addr} {n : Nat} {L : List Ed} (hG : GOk n L)
    (hN : ∀ W, Mod [] w W → Calls Tryz.prog 72 #[.pointer q] W fun e w' => e = .returned (.int .i64 n) ∧ w' = W)
    (hE : ∀ W, Mod [] w W → Calls Tryz.prog 92 #[.pointer q] W fun e w' => ∃ a c, e = .returned (.slice a L.length c) ∧ Made W w' 146 3 a L.length c (flat encEd L)) :
    Calls Tryz.prog 104 #[.pointer q] w fun e w' => ∃ b, e = .returned (.pointer (some ⟨b, 0, none⟩)) ∧ Sep w w' [ArcP b n L] := by
  have hn4 := hG.le
  have hl := hG.len
  have hN' := Lib.hid hN
  have hE' := Lib.hid hE
  have hG' := Lib.hid hG
  have hmk := make_run (P := Tryz.prog) 51 3 (.int .i64 0) 8 Tryz.underlying51 infoI rfl (by omega) (n + 1) (by omega)
  simp only [Int.natCast_add, Int.natCast_one] at hmk
  have hmk' := Lib.hid hmk
  clear hN hE hG hmk
  go_enter Tryz.func104, Tryz.ntmps104
  go_wp2_with fail
  refine (hN'.out _ (Mod.refl _ _)).mono ?_
  rintro e w1 ⟨rfl, hw1⟩
  subst w1
  have hmk := hmk'.out
  try dsimp only
  go_upto_region 2 with fail
  have hS := Lib.hid (new_start w L n (by omega))
  clear hmk hmk'
  generalize hW1 : (((w.alloc (.cells (madeCells #[.int .i64 0] (n + 1)) 3)).alloc (.cells #[.slice none 0 0, .slice (some ⟨w.heap.size, 0, none⟩) (n + 1) (n + 1), .slice none 0 0] 184)).alloc (.cells #[.pointer (some ⟨w.heap.size + 1, 0, none⟩)] 47)) = W1 at *
  clear hW1
  generalize w.heap.size + 1 + 1 = pa at *
  generalize w.heap.size + 1 = b at *
  generalize w.heap.size = gf at *
  go_wp2_with fail
  refine (hE'.out _ hS.out.mod).mono ?_
  rintro e w2 ⟨ae, ce, rfl, hm⟩
  have hS2 := Lib.hid (hS.out.made hm).rot
  clear hm hS hE'
  try dsimp only
  go_wp2_with fail
  go_loopw [21] (fun i wr => ∃ (k : Nat) (aa : Option Addr) (ca : Nat), k ≤ L.length ∧ i = .int .i64 k ∧ Hid (Sep w wr (newP pa b gf (.slice aa (2 * k) ca) (.slice none 0 0) n (2 * k) (arcsL (L.take k)) (fromL n (cntF L 0)) [Row 146 3 L.length (.slice ae L.length ce) (flat encEd L)]))) (fun i _ => L.length - (intOf i).toNat)
  case atStart => exact ⟨0, none, 0, Nat.zero_le _, rfl, hS2⟩
  case round =>
    clear hS2
    obtain ⟨k, aa, ca, hk, rfl, hS⟩ := hrel
    by_cases hlt : k < L.length
    · have hlt1 : (k : Int) < L.length := by omega
      obtain ⟨ge, rfl, hge, _, q0, q1, q2⟩ := ed_row (hS.out.rowAt 4 rfl) hlt
      have hsn := Lib.hid (arcsL_snoc hlt)
      have hlen := Lib.hid (show (flat encA (arcsL (L.take k))).length = 2 * k * 2 by rw [flat_length encA_len, arcsL_len, List.length_take]; omega)
      generalize L[k] = e at *
      obtain ⟨eu, ev, ew⟩ := e
      simp only at q0 q1 q2 hsn
      have hS1 := Lib.hid (hS.out.box [.int .i64 eu, .int .i64 ev, .int .i64 ew] 146)
      have hSt := Lib.hid (hS1.out.still (Mod.refl [] _).drew)
      have he := hS1.out.blkAt 0 rfl
      have hp := hS1.out.blkAt 1 rfl
      have hb := hS1.out.blkAt 2 rfl
      have hrow := Lib.hid (hSt.out.rowAt 3 rfl)
      have n1 := hS1.out.blkblk 1 2 (by omega) rfl rfl
      have n2 := hS1.out.blkblk 0 2 (by omega) rfl rfl
      have n3 := hS1.out.blkrow 0 3 (by omega) rfl rfl
      have n4 := hS1.out.blkrow 1 3 (by omega) rfl rfl
      generalize hWe : wr.alloc (.cells [.int .i64 eu, .int .i64 ev, .int .i64 ew].toArray 146) = We at *
      have hWe' := Lib.hid hWe
      obtain ⟨F, hF⟩ : ∃ F, F = b :: (Value.slice aa (2 * k) ca).ownBlock.toList := ⟨_, rfl⟩
      have hpF : pa ∉ F := by
        rw [hF, List.mem_cons, Option.mem_toList, not_or]
        exact ⟨n1, n4⟩
      have heF : wr.heap.size ∉ F := by
        rw [hF, List.mem_cons, Option.mem_toList, not_or]
        exact ⟨n2, n3⟩
      have hp' := Lib.hid hp
      have he' := Lib.hid he
      have hb' := Lib.hid hb
      have y1 : ∀ (o : Obj), (We.drew.alloc o).cell? ⟨b, 0, none⟩ = some (.slice aa (2 * k) ca) := fun o => (hb'.out.drew.alloc o).cell 0 rfl
      have y0 : We.drew.cell? ⟨b, 0, none⟩ = some (.slice aa (2 * k) ca) := hb'.out.drew.cell 0 rfl
      have yb := hb.cell 0 rfl
      have lb := hb.lt
      have lp := hp.lt
      have le := he.lt
      clear hS hp hb he n1 n2 n3 n4 hWe hS1
      go_upto_region 5 with fail
      rw [hWe'.out]
      clear hWe' q0 q1 q2 hge
      generalize wr.heap.size = eb at *
      have fp : ∀ m : Fut (Mod F) We.drew, m.v.cell? ⟨pa, 0, none⟩ = some (.pointer (some ⟨b, 0, none⟩)) := fun m => (hp'.out.drew.keep m.of hpF).cell 0 rfl
      have f0 : ∀ m : Fut (Mod F) We.drew, m.v.cell? ⟨eb, 0, none⟩ = some (.int .i64 eu) := fun m => (he'.out.drew.keep m.of heF).cell 0 rfl
      have f1 : ∀ m : Fut (Mod F) We.drew, m.v.cell? ⟨eb, 1, none⟩ = some (.int .i64 ev) := fun m => (he'.out.drew.keep m.of heF).cell 1 rfl
      have f2 : ∀ m : Fut (Mod F) We.drew, m.v.cell? ⟨eb, 2, none⟩ = some (.int .i64 ew) := fun m => (he'.out.drew.keep m.of heF).cell 2 rfl
      have hF' := Lib.hid hF
      clear hF hpF heF
      refine region_head (G := Mod F) [0, 1, 2, 3, 5, 6, 7, 8, 9, 10, 11, 12, 13, 14] #[true, true, true, true, false, true, true, true, true, true, true, true, true, true, true, false, false, false, false, false] 6 (by kernel_rfl) (by kernel_rfl) (by kernel_rfl) rfl (Mod.refl F) ?_
      simp only [pickO, nthO, List.cons_append, List.nil_append]
      repeat (go_big_quiet_step (fail))
      refine wpQuiet_nil ?_
      clear fp f0 f1 f2
      refine tail_two 4 15 (by kernel_rfl) rfl rfl ?_ ?_
      case' refine_1 =>
        intro K hK
        rw [if_pos (by rfl)]
        go_simp
        refine hK.out _ _ (Mod.refl _ _) ?_
        clear hK K
        refine tail_one 15 (by kernel_rfl) rfl ?_
        intro K hK
        rw [if_pos (by rfl)]
        go_simp
        refine hK.out _ _ ((Mod.refl _ _).alloc _) ?_
        clear hK K
      case' refine_2 =>
        intro K hK
        rw [if_pos (by rfl)]
        go_simp
        refine hK.out _ _ ((Mod.refl _ _).alloc _) ?_
        clear hK K
        refine tail_one 4 (by kernel_rfl) rfl ?_
        intro K hK
        rw [if_pos (by rfl)]
        go_simp
        refine hK.out _ _ ((Mod.refl _ _).alloc _) ?_
        clear hK K
      all_goals
        refine tail_one 16 (by kernel_rfl) rfl ?_
        intro K hK
        refine step_appS (W := We.drew) rfl (.tmp 29) (.tmp 40) 182 198 _ 2 16 rfl Tryz.underlying182 infoA rfl (by omega) (by omega) (.slice aa (2 * k) ca) (2 * k) 2 (flat encA (arcsL (L.take k))) [.int .i64 ev, .int .i64 ew, .int .i64 eu, .int .i64 ew] rfl rfl rfl rfl (by simp [Value.oneCell']) hrow.out (by omega) ?_
        intro a1 c1 w3 hown hm hv
        have hmF := Lib.hid (show Mod F We.drew w3 from hm.mono (fun g hg => by rw [hF'.out]; exact List.mem_cons_of_mem _ hg))
        refine hK.out _ _ hmF.out ?_
        clear hK K
        rw [← hsn.out] at hown
        have hS3 := Lib.hid (hSt.out.growAt 3 rfl hown hm hv)
        clear hown hm hv
        have hb3 := hS3.out.blkAt 2 rfl
        have gc := hb3.cell 0 rfl
        have gz := hb3.free 0
        have gl := hb3.lt
        clear hb3
        refine tail_one 17 (by kernel_rfl) rfl ?_
        intro K hK
        rw [if_pos (by rfl)]
        go_simp
        refine hK.out _ _ hmF.out ?_
        clear hK K
        refine tail_one 18 (by kernel_rfl) rfl ?_
        intro K hK
        rw [if_pos (by rfl)]
        go_simp
        refine hK.out _ _ hmF.out ?_
        clear hK K
        refine tail_one 19 (by kernel_rfl) rfl ?_
        intro K hK
        rw [if_pos (by rfl)]
        go_simp
        refine hK.out _ _ (hmF.out.setCell _ _ (fun _ => by rw [hF'.out]; simp)) ?_
        clear hK K
        refine tail_done (by kernel_rfl) ?_
        have hS4 := Lib.hid (hS3.out.setAt 2 rfl 0 (.slice a1 (2 * k + 2) c1)).tail
        clear hmF gc gz gl y1 y0 yb lb lp le hS3
        generalize w3.setCell ⟨b, 0, none⟩ (.slice a1 (2 * k + 2) c1) = w4 at *
        go_wp2_with fail
        go_roundw
        case rel => exact ⟨k + 1, a1, c1, by omega, by go_num, hS4⟩
        case measure => simp [intOf]; omega
    · have hkM : k = L.length := by omega
      have hS3 := Lib.hid (show Sep w wr (newP pa b gf (.slice aa (2 * L.length) ca) (.slice none 0 0) n (2 * L.length) (arcsL L) (fromL n (cntF L 0)) []) by
        have h5 := hS.out.dropAt 4 (by simp [newP])
        rw [hkM, List.take_length] at h5
        exact h5)
      clear hS hk hkM
      obtain ⟨m, hm⟩ : ∃ m, 2 * L.length = m := ⟨_, rfl⟩
      have hml : m ≤ 2097152 := by omega
      rw [hm] at hS3
      have hm' := Lib.hid hm
      have hma := Lib.hid (show (arcsL L).length = m by rw [arcsL_len, hm])
      clear hm
      obtain ⟨va, hva⟩ : ∃ va, va = Value.slice aa m ca := ⟨_, rfl⟩
      have hva' := Lib.hid hva
      have hS4 := hS3
      have p0 := (hS3.out.blkAt 0 rfl).cell 0 rfl
      have b0 := (hS3.out.blkAt 1 rfl).cell 0 rfl
      have lp := (hS3.out.blkAt 0 rfl).lt
      have lb := (hS3.out.blkAt 1 rfl).lt
      clear hS3 hva
      go_wp2_with fail
      clear p0 b0 lp lb hlt
      go_loopw [50] (fun i wr => ∃ k : Nat, k ≤ m ∧ i = .int .i64 k ∧ Hid (Sep w wr (newP pa b gf (.slice aa m ca) (.slice none 0 0) n m (arcsL L) (fromL n (cntF L k)) []))) (fun i _ => m - (intOf i).toNat)
      case atStart => exact ⟨0, Nat.zero_le _, rfl, hS4⟩
      case round =>
        clear hS4
        obtain ⟨k, hk, rfl, hS⟩ := hrel
        by_cases hlt : k < m
        · have hlt1 : (k : Int) < m := by omega
          have hkL : k < 2 * L.length := by rw [hm'.out]; exact hlt
          obtain ⟨t, ht⟩ : ∃ t : Nat, tailE L k = (t : Int) := ⟨(tailE L k).toNat, by have := tail_in hG'.out hkL; omega⟩
          have htn : t < n := by have := tail_in hG'.out hkL; omega
          have ct := Lib.hid (atail_any (hS.out.still (Mod.refl [] wr).drew |>.blkAt 1 rfl) (hS.out.still (Mod.refl [] wr).drew |>.rowAt 2 rfl) hma.out hml (k : Int) (by omega))
          rw [show tailI L (k : Int) = (t : Int) by unfold tailI; rw [if_neg (by omega), Int.toNat_natCast, ht]] at ct
          have hst := Lib.hid (cntF_step (n := n) ht)
          have hle := ofU_le L k t
          obtain ⟨c, hc⟩ : ∃ c, cntF L k (t + 1) = c := ⟨_, rfl⟩
          have hcl : c ≤ m := by rw [← hc]; unfold cntF; rw [if_neg (by omega), Nat.add_sub_cancel]; omega
          have c9 : wr.drew.cell? ⟨gf, t + 1, none⟩ = some (.int .i64 (c : Int)) := by
            have := (hS.out.rowAt 3 rfl).cellAt (t + 1) (by omega)
            rw [i64s_got (fromL_get (f := cntF L k) (show t + 1 ≤ n by omega)), hc] at this
            exact this
          have f9 : wr.drew.frozen? ⟨gf, t + 1, none⟩ = false := (hS.out.rowAt 3 rfl).frozenAt (t + 1)
          have l9 : gf < wr.drew.heap.size := own_lt (hS.out.rowAt 3 rfl) (g := gf) rfl
          have n1 : pa ≠ gf := fun e => hS.out.blkrow 0 3 (by omega) rfl rfl (by rw [e]; rfl)
          have n2 : b ≠ gf := fun e => hS.out.blkrow 1 3 (by omega) rfl rfl (by rw [e]; rfl)
          have hp' := Lib.hid (hS.out.blkAt 0 rfl)
          have hb' := Lib.hid (hS.out.blkAt 1 rfl)
          have hSn := Lib.hid (show Sep w (wr.setCell ⟨gf, t + 1, none⟩ (.int .i64 ((c : Int) + 1))).drew (newP pa b gf (.slice aa m ca) (.slice none 0 0) n m (arcsL L) (fromL n (cntF L (k + 1))) []) by
            have h5 := hS.out.rowsetAt 3 rfl (t + 1) (.int .i64 ((c : Int) + 1))
            rw [i64s_set, show ((c : Int) + 1) = ((cntF L k (t + 1) + 1 : Nat) : Int) by rw [hc]; rfl, hst.out] at h5
            rw [show ((c : Int) + 1) = ((cntF L k (t + 1) + 1 : Nat) : Int) by rw [hc]; rfl]
            exact h5.still (Mod.refl [] _).drew)
          have fp : ∀ m : Fut (Mod [gf]) wr.drew, m.v.cell? ⟨pa, 0, none⟩ = some (.pointer (some ⟨b, 0, none⟩)) := fun m => (hp'.out.drew.keep m.of (by simpa using n1)).cell 0 rfl
          have fb : ∀ m : Fut (Mod [gf]) wr.drew, m.v.cell? ⟨b, 1, none⟩ = some (.slice (some ⟨gf, 0, none⟩) (n + 1) (n + 1)) := fun m => (hb'.out.drew.keep m.of (by simpa using n2)).cell 1 rfl
          have ht1 : (t : Int) + 1 < (n : Int) + 1 := by omega
          clear hS ht hst hc hkL n1 n2 hp' hb' hle
          go_upto_region 10 with fail
          refine region_sched (G := Mod [gf]) [([0,1,2,3,4,5],6), ([7,8],9), ([10,11],12)] [] (by kernel_rfl) (by kernel_rfl) (by kernel_rfl) rfl (Mod.refl _) (fun _ _ _ h1 h2 => h1.trans h2 (fun b hb _ => hb)) ?_
          simp only [stages, pickO, nthO, headO, List.append_eq, List.cons_append, List.nil_append]
          refine sched_step ?_
          repeat (go_big_quiet_step (fail))
          refine wpQuiet_nil ?_
          intro K hK
          rw [if_pos (by rfl)]
          go_simp
          refine ct.out.mono ?_
          rintro e w5 ⟨rfl, hw5⟩
          subst w5
          try dsimp only
          refine hK.out _ _ (Mod.refl _ _) ?_
          clear hK K ct
          refine sched_step ?_
          repeat (go_big_quiet_step (fail))
          refine wpQuiet_nil ?_
          intro K hK
          rw [if_pos (by rfl)]
          go_simp
          refine hK.out _ _ (Mod.refl _ _) ?_
          clear hK K
          refine sched_step ?_
          repeat (go_big_quiet_step (fail))
          refine wpQuiet_nil ?_
          intro K hK
          rw [if_pos (by rfl)]
          go_simp
          refine hK.out _ _ ((Mod.refl _ _).setCell _ _ (fun _ => by simp)) ?_
          clear hK K fp fb c9 f9 l9
          refine sched_last ?_
          refine wpQuiet_nil ?_
          go_wp2_with fail
          go_roundw
          case rel => exact ⟨k + 1, by omega, by go_num, hSn⟩
          case measure => simp [intOf]; omega
        · have hkM : k = m := by omega
          have hS5 := Lib.hid (show Sep w wr (newP pa b gf (.slice aa m ca) (.slice none 0 0) n m (arcsL L) (fromL n (preF L 0)) []) by
            rw [← cntF_all, hm'.out, ← hkM]; exact hkM ▸ hS.out)
          clear hS hk hkM
          have hN3 := hN'.out
          go_wp2_with fail
          refine (hN'.out _ hS5.out.mod).mono ?_
          rintro e w5 ⟨rfl, hw5⟩
          subst w5
          try dsimp only
          clear hlt hN3
          go_wp2_with fail
          go_loopw [68] (fun i wr => ∃ j : Nat, j ≤ n ∧ i = .int .i64 j ∧ Hid (Sep w wr (newP pa b gf (.slice aa m ca) (.slice none 0 0) n m (arcsL L) (fromL n (preF L j)) []))) (fun i _ => n - (intOf i).toNat)
          case atStart => exact ⟨0, Nat.zero_le _, rfl, hS5⟩
          case round =>
            clear hS5
            obtain ⟨j, hj, rfl, hS⟩ := hrel
            by_cases hlt : j < n
            · have hlt1 : (j : Int) < n := by omega
              have hlt2 : (j : Int) + 1 < (n : Int) + 1 := by omega
              have hlt3 : (j : Int) < (n : Int) + 1 := by omega
              have hst := Lib.hid (preF_step (n := n) (L := L) (j := j))
              obtain ⟨c, hc⟩ : ∃ c, preF L j (j + 1) = c := ⟨_, rfl⟩
              obtain ⟨d, hd⟩ : ∃ d, preF L j j = d := ⟨_, rfl⟩
              have hcl : c ≤ m := by rw [← hc, ← hm'.out]; unfold preF; rw [if_neg (by omega), Nat.add_sub_cancel]; exact ofU_le _ _ _
              have hdl : d ≤ m := by rw [← hd, ← hm'.out]; unfold preF; rw [if_pos (Nat.le_refl _)]; exact posF_le hG'.out (by omega)
              have c7 : wr.drew.cell? ⟨gf, j + 1, none⟩ = some (.int .i64 (c : Int)) := by
                have := (hS.out.rowAt 3 rfl).cellAt (j + 1) (by omega)
                rw [i64s_got (fromL_get (f := preF L j) (show j + 1 ≤ n by omega)), hc] at this
                exact this
              have c8 : wr.cell? ⟨gf, j, none⟩ = some (.int .i64 (d : Int)) := by
                have := (hS.out.rowAt 3 rfl).cellAt j (by omega)
                rw [i64s_got (fromL_get (f := preF L j) (show j ≤ n by omega)), hd] at this
                exact this
              have f9 : wr.drew.frozen? ⟨gf, j + 1, none⟩ = false := (hS.out.rowAt 3 rfl).frozenAt (j + 1)
              have l9 : gf < wr.drew.heap.size := own_lt (hS.out.rowAt 3 rfl) (g := gf) rfl
              have p0 := (hS.out.blkAt 0 rfl).cell 0 rfl
              have b1 := (hS.out.blkAt 1 rfl).cell 1 rfl
              have lp := (hS.out.blkAt 0 rfl).lt
              have lb := (hS.out.blkAt 1 rfl).lt
              have hSs := Lib.hid (hS.out.rowsetAt 3 rfl (j + 1) (.int .i64 ((c : Int) + (d : Int))))
              have q0 := Lib.hid ((hSs.out.blkAt 0 rfl).cell 0 rfl)
              have q1 := Lib.hid ((hSs.out.blkAt 1 rfl).cell 1 rfl)
              have q2 : Hid (((wr.setCell ⟨gf, j + 1, none⟩ (.int .i64 ((c : Int) + (d : Int)))).cell? ⟨gf, j, none⟩ = some (.int .i64 (d : Int)))) := Lib.hid (by
                have h6 := (hSs.out.rowAt 3 rfl).cellAt j (by omega)
                rw [List.getElem?_set_ne (by omega), i64s_got (fromL_get (f := preF L j) (show j ≤ n by omega)), hd] at h6
                exact h6)
              have hSn := Lib.hid (show Sep w (wr.setCell ⟨gf, j + 1, none⟩ (.int .i64 ((c : Int) + (d : Int)))).drew (newP pa b gf (.slice aa m ca) (.slice none 0 0) n m (arcsL L) (fromL n (preF L (j + 1))) []) by
                have h5 := hSs.out
                rw [i64s_set, show ((c : Int) + (d : Int)) = ((preF L j (j + 1) + preF L j j : Nat) : Int) by rw [hc, hd]; rfl, hst.out] at h5
                rw [show ((c : Int) + (d : Int)) = ((preF L j (j + 1) + preF L j j : Nat) : Int) by rw [hc, hd]; rfl]
                exact h5.still (Mod.refl [] _).drew)
              have k0 := KC.one (w := wr.drew) (L := [(⟨pa, 0, none⟩, .pointer (some ⟨b, 0, none⟩)), (⟨b, 1, none⟩, .slice (some ⟨gf, 0, none⟩) (n + 1) (n + 1)), (⟨gf, j, none⟩, .int .i64 (d : Int))]) p0 (by simp)
              have k1 := KC.one (w := wr.drew) (L := [(⟨pa, 0, none⟩, .pointer (some ⟨b, 0, none⟩)), (⟨b, 1, none⟩, .slice (some ⟨gf, 0, none⟩) (n + 1) (n + 1)), (⟨gf, j, none⟩, .int .i64 (d : Int))]) b1 (by simp)
              have k2 := KC.one (w := wr.drew) (L := [(⟨pa, 0, none⟩, .pointer (some ⟨b, 0, none⟩)), (⟨b, 1, none⟩, .slice (some ⟨gf, 0, none⟩) (n + 1) (n + 1)), (⟨gf, j, none⟩, .int .i64 (d : Int))]) c8 (by simp)
              clear hS hst hc hd hSs p0 b1 c8
              go_upto_region 15 with fail
              refine region_sched (G := KC [(⟨pa, 0, none⟩, .pointer (some ⟨b, 0, none⟩)), (⟨b, 1, none⟩, .slice (some ⟨gf, 0, none⟩) (n + 1) (n + 1)), (⟨gf, j, none⟩, .int .i64 (d : Int))]) [([0,1,2,3,4,5,6,8,9,10,11,12,13,14],7), ([15,16],17)] [] (by kernel_rfl) (by kernel_rfl) (by kernel_rfl) rfl (KC.refl _) (KC.trans _) ?_
              simp only [stages, pickO, nthO, headO, List.append_eq, List.cons_append, List.nil_append]
              refine sched_step ?_
              repeat (go_big_quiet_step (fail))
              refine wpQuiet_nil ?_
              intro K hK
              rw [if_pos (by rfl)]
              go_simp
              refine hK.out _ _ (KC.refl _ _) ?_
              clear hK K
              refine sched_step ?_
              repeat (go_big_quiet_step (fail))
              refine wpQuiet_nil ?_
              intro K hK
              rw [if_pos (by rfl)]
              go_simp
              refine hK.out _ _ (fun p hp _ => by
                simp only [List.mem_cons, List.mem_nil_iff, or_false] at hp
                rcases hp with rfl | rfl | rfl
                · exact q0.out
                · exact q1.out
                · exact q2.out) ?_
              clear hK K k0 k1 k2 c7 f9 l9 q0 q1 q2 lp lb
              refine sched_last ?_
              refine wpQuiet_nil ?_
              go_wp2_with fail
              go_roundw
              case rel => exact ⟨j + 1, by omega, by go_num, hSn⟩
              case measure => simp [intOf]; omega
            · have hjn : j = n := by omega
              have hS6 := Lib.hid (show Sep w wr (newP pa b gf (.slice aa m ca) (.slice none 0 0) n m (arcsL L) (fromL n (posF L)) []) by
                rw [← preF_all]; exact hjn ▸ hS.out)
              clear hS hj hjn
              have hmk := make_run (P := Tryz.prog) 51 3 (.int .i64 0) 8 Tryz.underlying51 infoI rfl (by omega) m (by omega)
              have p0 := (hS6.out.blkAt 0 rfl).cell 0 rfl
              have b0 := (hS6.out.blkAt 1 rfl).cell 0 rfl
              have lp := (hS6.out.blkAt 0 rfl).lt
              have lb := (hS6.out.blkAt 1 rfl).lt
              have k0 := KC.one (w := wr.drew) (L := [(⟨pa, 0, none⟩, .pointer (some ⟨b, 0, none⟩)), (⟨b, 0, none⟩, .slice aa m ca)]) p0 (by simp)
              have k1 := KC.one (w := wr.drew) (L := [(⟨pa, 0, none⟩, .pointer (some ⟨b, 0, none⟩)), (⟨b, 0, none⟩, .slice aa m ca)]) b0 (by simp)
              have hSa := Lib.hid ((hS6.out.still (Mod.refl [] wr).drew).made (made_made wr.drew 3 (.int .i64 0) m (by omega)))
              clear hS6
              go_upto_region 17 with fail
              refine region_sched (G := KC [(⟨pa, 0, none⟩, .pointer (some ⟨b, 0, none⟩)), (⟨b, 0, none⟩, .slice aa m ca)]) [([0,1,2,3,4,5],6), ([7,8],9)] [] (by kernel_rfl) (by kernel_rfl) (by kernel_rfl) rfl (KC.refl _) (KC.trans _) ?_
              simp only [stages, pickO, nthO, headO, List.append_eq, List.cons_append, List.nil_append]
              refine sched_step ?_
              repeat (go_big_quiet_step (fail))
              refine wpQuiet_nil ?_
              intro K hK
              rw [if_pos (by rfl)]
              go_simp
              refine hK.out _ _ (fun p hp _ => by
                simp only [List.mem_cons, List.mem_nil_iff, or_false] at hp
                rcases hp with rfl | rfl
                · exact (hSa.out.blkAt 1 rfl).cell 0 rfl
                · exact (hSa.out.blkAt 2 rfl).cell 0 rfl) ?_
              clear hK K k0 k1 p0 b0 lp lb hlt hmk
              refine sep_wrap (goalP := fun W => wpSched _ _ _ _ _ _ _ W) hSa.out ?_
              intro Wg hSg
              clear hSa
              rw [show wr.drew.heap.size = wr.heap.size from rfl] at hSg
              generalize wr.heap.size = go at *
              have gz := (hSg.blkAt 2 rfl).free 2
              have gc := (hSg.blkAt 2 rfl).cell 2 rfl
              have gl := (hSg.blkAt 2 rfl).lt
              have hSc := Lib.hid (hSg.setAt 2 rfl 2 (.slice (some ⟨go, 0, none⟩) m m)).rot
              clear hSg
              refine sched_step ?_
              repeat (go_big_quiet_step (fail))
              refine wpQuiet_nil ?_
              intro K hK
              rw [if_pos (by rfl)]
              go_simp
              refine hK.out _ _ (fun p hp _ => by
                simp only [List.mem_cons, List.mem_nil_iff, or_false] at hp
                rcases hp with rfl | rfl
                · exact (hSc.out.blkAt 0 rfl).cell 0 rfl
                · exact (hSc.out.blkAt 1 rfl).cell 0 rfl) ?_
              clear hK K gz gc gl
              generalize Wg.setCell ⟨b, 2, none⟩ (.slice (some ⟨go, 0, none⟩) m m) = W7 at *
              have hS7 := Lib.hid (show Sep w W7 (newP pa b gf (.slice aa m ca) (.slice (some ⟨go, 0, none⟩) m m) n m (arcsL L) (fromL n (posF L)) [Row 3 1 m (.slice (some ⟨go, 0, none⟩) m m) (i64s (fillL n L 0).flatten)]) by
                rw [fill_zero hG'.out, hm'.out]
                have e : i64s (List.replicate m 0) = List.replicate m (.int .i64 0) := by simp [i64s]
                rw [e]
                exact hSc.out)
              clear hSc
              refine sched_last ?_
              refine wpQuiet_nil ?_
              have p0 := (hS7.out.blkAt 0 rfl).cell 0 rfl
              have b1 := (hS7.out.blkAt 1 rfl).cell 1 rfl
              have lp := (hS7.out.blkAt 0 rfl).lt
              have lb := (hS7.out.blkAt 1 rfl).lt
              go_wp2_with fail
              have hfl : (fromL n (posF L)).length = n + 1 := fromL_len _ _
              have hcl := cloneI_any (w := W7) (a := some ⟨gf, 0, none⟩) (c := n + 1) (xs := fromL n (posF L)) (by rw [hfl]; exact Reads.own (hS7.out.rowAt 3 rfl)) (by omega)
              rw [hfl] at hcl
              refine hcl.mono ?_
              rintro e w8 ⟨an, cn, rfl, hmd⟩
              obtain ⟨gn, rfl, _⟩ := row_form hmd.own (by omega)
              have hS8 := Lib.hid (hS7.out.made hmd).rot
              clear hmd hS7 p0 b1 lp lb hcl hfl
              try dsimp only
              have p0 := (hS8.out.blkAt 0 rfl).cell 0 rfl
              have b0 := (hS8.out.blkAt 1 rfl).cell 0 rfl
              have lp := (hS8.out.blkAt 0 rfl).lt
              have lb := (hS8.out.blkAt 1 rfl).lt
              go_wp2_with fail
              clear p0 b0 lp lb
              have hS9 := Lib.hid (show Sep w w8 (newP pa b gf (.slice aa m ca) (.slice (some ⟨go, 0, none⟩) m m) n m (arcsL L) (fromL n (posF L)) [Row 3 1 m (.slice (some ⟨go, 0, none⟩) m m) (i64s (fillL n L 0).flatten), Row 3 1 (n + 1) (.slice (some ⟨gn, 0, none⟩) (n + 1) cn) (i64s (fromL n (nextF L 0)))]) by
                rw [nextF_zero]; exact hS8.out)
              clear hS8
              go_loopw [108] (fun i wr => ∃ k : Nat, k ≤ m ∧ i = .int .i64 k ∧ Hid (Sep w wr (newP pa b gf (.slice aa m ca) (.slice (some ⟨go, 0, none⟩) m m) n m (arcsL L) (fromL n (posF L)) [Row 3 1 m (.slice (some ⟨go, 0, none⟩) m m) (i64s (fillL n L k).flatten), Row 3 1 (n + 1) (.slice (some ⟨gn, 0, none⟩) (n + 1) cn) (i64s (fromL n (nextF L k)))]))) (fun i _ => m - (intOf i).toNat)
              case atStart => exact ⟨0, Nat.zero_le _, rfl, hS9⟩
              case round =>
                clear hS9
                obtain ⟨k, hk, rfl, hS⟩ := hrel
                by_cases hlt : k < m
                · have hlt1 : (k : Int) < m := by omega
                  have hkL : k < 2 * L.length := by rw [hm'.out]; exact hlt
                  obtain ⟨t, ht⟩ : ∃ t : Nat, tailE L k = (t : Int) := ⟨(tailE L k).toNat, by have := tail_in hG'.out hkL; omega⟩
                  have htn : t < n := by have := tail_in hG'.out hkL; omega
                  have ct := Lib.hid (atail_any (hS.out.blkAt 1 rfl) (hS.out.rowAt 2 rfl) hma.out hml (k : Int) (by omega))
                  rw [show tailI L (k : Int) = (t : Int) by unfold tailI; rw [if_neg (by omega), Int.toNat_natCast, ht]] at ct
                  have hst := Lib.hid (fill_step hG'.out hkL ht)
                  have hsn := Lib.hid (nextF_step (n := n) ht)
                  obtain ⟨x, hx⟩ : ∃ x, nextF L k t = x := ⟨_, rfl⟩
                  have hxm : x < m := by
                    have h1 := ofU_lt_cnt hkL ht
                    have h2 := posF_le hG'.out (v := t + 1) (by omega)
                    rw [posF_succ, hm'.out] at h2
                    rw [← hx]; unfold nextF; omega
                  have c9 : ∀ W, Sep w W (newP pa b gf (.slice aa m ca) (.slice (some ⟨go, 0, none⟩) m m) n m (arcsL L) (fromL n (posF L)) [Row 3 1 m (.slice (some ⟨go, 0, none⟩) m m) (i64s (fillL n L (k + 1)).flatten), Row 3 1 (n + 1) (.slice (some ⟨gn, 0, none⟩) (n + 1) cn) (i64s (fromL n (nextF L k)))]) → W.cell? ⟨gn, t, none⟩ = some (.int .i64 (x : Int)) := fun W h => by
                    have := (h.rowAt 5 rfl).cellAt t (by omega)
                    rw [i64s_got (fromL_get (f := nextF L k) (show t ≤ n by omega)), hx] at this
                    exact this
                  have c8 : wr.cell? ⟨gn, t, none⟩ = some (.int .i64 (x : Int)) := by
                    have := (hS.out.rowAt 5 rfl).cellAt t (by omega)
                    rw [i64s_got (fromL_get (f := nextF L k) (show t ≤ n by omega)), hx] at this
                    exact this
                  have lnx := own_lt (hS.out.rowAt 5 rfl) (g := gn) rfl
                  have ogc : ∃ u, wr.drew.cell? ⟨go, x, none⟩ = some u := by
                    have h1 := (hS.out.rowAt 4 rfl).cellAt x (by omega)
                    have h2 := (hS.out.rowAt 4 rfl).1
                    rw [List.getElem?_eq_getElem (by omega)] at h1
                    exact ⟨_, h1⟩
                  obtain ⟨ou, ogc⟩ := ogc
                  have ogz : wr.drew.frozen? ⟨go, x, none⟩ = false := (hS.out.rowAt 4 rfl).frozenAt x
                  have ogl : go < wr.drew.heap.size := own_lt (hS.out.rowAt 4 rfl) (g := go) rfl
                  have p0 := (hS.out.blkAt 0 rfl).cell 0 rfl
                  have b2 := (hS.out.blkAt 1 rfl).cell 2 rfl
                  have lp := (hS.out.blkAt 0 rfl).lt
                  have lb := (hS.out.blkAt 1 rfl).lt
                  have hS1 := Lib.hid (show Sep w (wr.setCell ⟨go, x, none⟩ (.int .i64 (k : Int))).drew (newP pa b gf (.slice aa m ca) (.slice (some ⟨go, 0, none⟩) m m) n m (arcsL L) (fromL n (posF L)) [Row 3 1 m (.slice (some ⟨go, 0, none⟩) m m) (i64s (fillL n L (k + 1)).flatten), Row 3 1 (n + 1) (.slice (some ⟨gn, 0, none⟩) (n + 1) cn) (i64s (fromL n (nextF L k)))]) by
                    have h5 := hS.out.rowsetAt 4 rfl x (.int .i64 (k : Int))
                    rw [i64s_set, show x = posF L t + (ofU L k t).length by rw [← hx]; rfl, hst.out] at h5
                    rw [show x = posF L t + (ofU L k t).length by rw [← hx]; rfl]
                    exact h5.still (Mod.refl [] _).drew)
                  have k0 := KC.one (w := wr.drew) (L := [(⟨pa, 0, none⟩, .pointer (some ⟨b, 0, none⟩)), (⟨b, 2, none⟩, .slice (some ⟨go, 0, none⟩) m m), (⟨gn, t, none⟩, .int .i64 (x : Int))]) p0 (by simp)
                  have k1 := KC.one (w := wr.drew) (L := [(⟨pa, 0, none⟩, .pointer (some ⟨b, 0, none⟩)), (⟨b, 2, none⟩, .slice (some ⟨go, 0, none⟩) m m), (⟨gn, t, none⟩, .int .i64 (x : Int))]) b2 (by simp)
                  have k2 := KC.one (w := wr.drew) (L := [(⟨pa, 0, none⟩, .pointer (some ⟨b, 0, none⟩)), (⟨b, 2, none⟩, .slice (some ⟨go, 0, none⟩) m m), (⟨gn, t, none⟩, .int .i64 (x : Int))]) c8 (by simp)
                  have c9' := Lib.hid c9
                  have ht1 : (t : Int) < (n : Int) + 1 := by omega
                  have hx1 : (x : Int) < m := by omega
                  have hx' := Lib.hid hx
                  clear hS hst c9 b2 c8 hx ht
                  go_upto_region 23 with (go_at_call 38; refine ct.out.mono ?_; rintro e w9 ⟨rfl, hw9⟩; subst w9)
                  refine region_sched (G := KC [(⟨pa, 0, none⟩, .pointer (some ⟨b, 0, none⟩)), (⟨b, 2, none⟩, .slice (some ⟨go, 0, none⟩) m m), (⟨gn, t, none⟩, .int .i64 (x : Int))]) [([0,1,2,3,4,5,6,7,8,9],10)] [] (by kernel_rfl) (by kernel_rfl) (by kernel_rfl) rfl (KC.refl _) (KC.trans _) ?_
                  simp only [stages, pickO, nthO, headO, List.append_eq, List.cons_append, List.nil_append]
                  refine sched_step ?_
                  repeat (go_big_quiet_step (fail))
                  refine wpQuiet_nil ?_
                  intro K hK
                  rw [if_pos (by rfl)]
                  go_simp
                  refine hK.out _ _ (fun p hp _ => by
                    simp only [List.mem_cons, List.mem_nil_iff, or_false] at hp
                    rcases hp with rfl | rfl | rfl
                    · exact (hS1.out.blkAt 0 rfl).cell 0 rfl
                    · exact (hS1.out.blkAt 1 rfl).cell 2 rfl
                    · exact c9'.out _ hS1.out) ?_
                  clear hK K k0 k1 k2 ogc ogz ogl p0 lp lb ct lnx
                  generalize (wr.setCell ⟨go, x, none⟩ (.int .i64 (k : Int))).drew = W1 at *
                  refine sched_last ?_
                  refine wpQuiet_nil ?_
                  have nc := c9'.out _ hS1.out
                  have nz := (hS1.out.rowAt 5 rfl).frozenAt t
                  have nl := own_lt (hS1.out.rowAt 5 rfl) (g := gn) rfl
                  have hS2 := Lib.hid (show Sep w (W1.setCell ⟨gn, t, none⟩ (.int .i64 ((x : Int) + 1))) (newP pa b gf (.slice aa m ca) (.slice (some ⟨go, 0, none⟩) m m) n m (arcsL L) (fromL n (posF L)) [Row 3 1 m (.slice (some ⟨go, 0, none⟩) m m) (i64s (fillL n L (k + 1)).flatten), Row 3 1 (n + 1) (.slice (some ⟨gn, 0, none⟩) (n + 1) cn) (i64s (fromL n (nextF L (k + 1))))]) by
                    have h5 := hS1.out.rowsetAt 5 rfl t (.int .i64 ((x : Int) + 1))
                    rw [i64s_set, show ((x : Int) + 1) = ((nextF L k t + 1 : Nat) : Int) by rw [hx'.out]; rfl, hsn.out] at h5
                    rw [show ((x : Int) + 1) = ((nextF L k t + 1 : Nat) : Int) by rw [hx'.out]; rfl]
                    exact h5)
                  clear hS1 c9'
                  go_wp2_with fail
                  go_roundw
                  case rel => exact ⟨k + 1, by omega, by go_num, hS2⟩
                  case measure => simp [intOf]; omega
                · have hkm : k = m := by omega
                  have hS2 := Lib.hid (show Sep w wr (newP pa b gf (.slice aa m ca) (.slice (some ⟨go, 0, none⟩) m m) n m (arcsL L) (fromL n (posF L)) [Row 3 1 m (.slice (some ⟨go, 0, none⟩) m m) (i64s (mixO n L 0).flatten)]) by
                    have h5 := hS.out.dropAt 5 (by simp [newP])
                    rw [hkm, ← hm'.out, fill_all, hm'.out] at h5
                    exact h5)
                  clear hS hk hkm
                  go_wp2_with fail
                  refine (hN'.out _ hS2.out.mod).mono ?_
                  rintro e w5 ⟨rfl, hw5⟩
                  subst w5
                  try dsimp only
                  clear hlt
                  go_wp2_with fail
                  go_loopw [133] (fun i wr => ∃ j : Nat, j ≤ n ∧ i = .int .i64 j ∧ Hid (Sep w wr (newP pa b gf (.slice aa m ca) (.slice (some ⟨go, 0, none⟩) m m) n m (arcsL L) (fromL n (posF L)) [Row 3 1 m (.slice (some ⟨go, 0, none⟩) m m) (i64s (mixO n L j).flatten)]))) (fun i _ => n - (intOf i).toNat)
                  case atStart => exact ⟨0, Nat.zero_le _, rfl, hS2⟩
                  case round =>
                    clear hS2
                    obtain ⟨j, hj, rfl, hS⟩ := hrel
                    by_cases hlt : j < n
                    · have hlt1 : (j : Int) < n := by omega
                      have hof := Lib.hid (aof_any hG'.out hm'.out hlt (hS.out.blkAt 1 rfl) (hS.out.rowAt 3 rfl))
                      obtain ⟨A, B, eA, eB, lA⟩ := mixO_cut hG'.out hlt
                      have hsort := Lib.hid (fun W (hm : Mod [] wr W) => sort_win (A := A) (B := B) (d := ofU L (2 * L.length) j) (hS.out.still hm |>.blkAt 0 rfl) (hS.out.still hm |>.blkAt 1 rfl) (hS.out.still hm |>.rowAt 2 rfl) hma.out hml (by have := (hS.out.still hm).rowAt 4 rfl; rw [eA] at this; exact this) (fun i hi => by rw [← hm'.out]; exact (mem_ofU.1 hi).1)
                        (fun e => (hS.out.blkrow 0 4 (by omega) rfl rfl) (by rw [e]; rfl)) (fun e => (hS.out.blkrow 1 4 (by omega) rfl rfl) (by rw [e]; rfl)) (fun e => (hS.out.rowrow 2 4 (by omega) rfl rfl e) rfl))
                      rw [lA, show (ofU L (2 * L.length) j).length = cntE L j from rfl] at hsort
                      have hSg := Lib.hid (fun W (hm : Mod [] wr W) W2 (ho : W2.ownsRow 0 3 1 (.slice (some ⟨go, 0, none⟩) m m) m (i64s (mixO n L (j + 1)).flatten)) (m2 : Mod [go] W W2) => (hS.out.still hm).growAt 4 rfl ho m2 (.inl rfl))
                      have eB' := Lib.hid eB
                      have p0 := (hS.out.blkAt 0 rfl).cell 0 rfl
                      have lp := (hS.out.blkAt 0 rfl).lt
                      generalize winV go (posF L j) (cntE L j) = wv at *
                      clear hS eA eB lA
                      go_wp2_with fail
                      refine hof.out.mono ?_
                      rintro e w6 ⟨rfl, hm6⟩
                      have hs2 := Lib.hid (hsort.out _ hm6)
                      have hSg2 := Lib.hid (hSg.out _ hm6)
                      clear hof hsort hSg hm6 p0
                      try dsimp only
                      go_wp2_with fail
                      refine hs2.out.mono ?_
                      rintro e w7 ⟨rfl, d', hp', hs', ho', hm7⟩
                      have hdd := sort_ofS hG'.out hp' hs'
                      have hS7 := Lib.hid (hSg2.out w7 (by rw [eB'.out, ← hdd]; exact ho') hm7)
                      clear hs2 hSg2 hp' hs' ho' hm7 hdd eB' lp
                      try dsimp only
                      go_wp2_with fail
                      go_roundw
                      case rel => exact ⟨j + 1, by omega, by go_num, hS7⟩
                      case measure => simp [intOf]; omega
                    · have hjn : j = n := by omega
                      have p0 := (hS.out.blkAt 0 rfl).cell 0 rfl
                      have lp := (hS.out.blkAt 0 rfl).lt
                      have hfin : Hid (Sep w wr [ArcP b n L]) := by
                        have h5 := hS.out.dropAt 0 (by simp [newP])
                        rw [hjn] at h5
                        obtain ⟨F, q1, q2, q3⟩ := h5.out
                        refine Lib.hid ⟨F, ⟨inferInstance, F, [], by simp, ⟨gf, go, aa, ca, ?_⟩, rfl, by simp⟩, q2, q3⟩
                        rw [hm'.out]
                        exact q1
                      clear hS hj hjn
                      go_wp2_with fail
                      go_ret
                      exact ⟨b, rfl, hfin.out⟩
end Edge
end Go.Proofs.YtjpfmkfikidgkaaGreat
