/- The reference's graph of a naming. -/
import Derived.Test.YtkhbnopmeapfjaaCon5
import Derived.Test.YtkhbnopmeapfjaaRefN3
set_option linter.unusedVariables false
set_option linter.unusedSimpArgs false
namespace Go.Proofs.Ytkhbnopmeapfjaa
open Go.RowKit
namespace Edge
/-- What the reference's Of answers. -/
structure ROfOut (k : Int) (name : List Int) (n : Nat) (L : List Ed) (w : World) (e : Ending) (w' : World) : Prop where
  mk ::
  out : (¬ (name.length = n ∧ isN k name) ∧ e = .returned (.agg #[.int .i64 0, .slice none 0 0, .int .i64 1]) ∧ Mod [] w w') ∨
    ((name.length = n ∧ isN k name) ∧ ∃ a c, e = .returned (.agg #[.int .i64 k, .slice a (merged (mapL name L)).length c, .int .i64 0]) ∧ Made w w' 41 3 a (merged (mapL name L)).length c (flat encEd (merged (mapL name L))))
theorem mapL_snoc {name : List Int} {L : List Ed} {j : Nat} (hj : j < L.length) : flat encEd (mapL name (L.take (j + 1))) = flat encEd (mapL name (L.take j)) ++ encEd (mapE name L[j]) := by
  unfold mapL
  rw [List.take_succ_eq_append_getElem hj, List.map_append, flat_append]
  simp [flat]
set_option maxRecDepth 100000 in
set_option maxHeartbeats 8000000 in
theorem rof_any {n : Nat} {L : List Ed} {a : Option Addr} {c : Nat} {w : World} (hL : Rd w 3 (.slice a L.length c) L.length (flat encEd L)) (hG : GOk n L)
    (k : Int) {name : List Int} {va : Value} (h : Rd w 1 va name.length (i64s name)) :
    Calls Try.prog 47 #[netV n a L.length c, .int .i64 k, va] w (ROfOut k name n L w) := by
  obtain ⟨an, cn, rfl⟩ := h.val
  have hle := h.le
  have hmod := Lib.hid (((Mod.refl [] w).alloc (.cells #[.int .i64 n, .slice a L.length c] 36)).alloc (.cells #[.int .i64 0, .slice none 0 0, .int .i64 0] 66))
  have hS0 := Lib.hid (((Sep.empty w).box [.int .i64 n, .slice a L.length c] 36).box [.int .i64 0, .slice none 0 0, .int .i64 0] 66)
  have hL' := Lib.hid (fun W (m : Mod [] w W) => hL.still m)
  have h' := Lib.hid (fun W (m : Mod [] w W) => h.still m)
  have hG' := Lib.hid hG
  have hl := hG.len
  unfold netV
  clear hL h hG hmod
  rw [World.size_alloc] at hS0
  go_enter Try.func47, Try.ntmps47
  go_upto_region 1 with fail
  generalize hW1 : (w.alloc (.cells [.int .i64 n, .slice a L.length c].toArray 36)).alloc (.cells [.int .i64 0, .slice none 0 0, .int .i64 0].toArray 66) = w1 at *
  have hW1' := Lib.hid hW1
  clear hW1
  try rw [hW1'.out]
  clear hW1'
  generalize w.heap.size + 1 = tb at *
  generalize w.heap.size = nb at *
  have n0 := (hS0.out.blkAt 1 rfl).cell 0 rfl
  have nl := (hS0.out.blkAt 1 rfl).lt
  have t0 := (hS0.out.blkAt 0 rfl).cell 0 rfl
  have t1 := (hS0.out.blkAt 0 rfl).cell 1 rfl
  have t2 := (hS0.out.blkAt 0 rfl).cell 2 rfl
  have tl := (hS0.out.blkAt 0 rfl).lt
  have tf := (hS0.out.blkAt 0 rfl).free
  by_cases hnl : name.length = n
  case neg =>
    have d1 : ((name.length : Int) != (n : Int)) = true := by simp; omega
    have hno : Hid (¬ (name.length = n ∧ isN k name)) := Lib.hid (fun hh => hnl hh.1)
    have hS9 := ((hS0.out.set 0 (.int .i64 0)).set 1 (.slice none 0 0)).set 2 (.int .i64 1)
    have s0 := hS9.blk.cell 0 rfl
    have s1 := hS9.blk.cell 1 rfl
    have s2 := hS9.blk.cell 2 rfl
    have hfin := Lib.hid (ROfOut.mk (k := k) (name := name) (n := n) (L := L) (w := w) (e := .returned (.agg #[.int .i64 0, .slice none 0 0, .int .i64 1])) (.inl ⟨hno.out, rfl, hS9.mod⟩))
    clear hS9
    clear hnl hL' h' hS0
    go_wp2_with fail
    generalize ((w1.setCell ⟨tb, 0, none⟩ (.int .i64 0)).setCell ⟨tb, 1, none⟩ (.slice none 0 0)).setCell ⟨tb, 2, none⟩ (.int .i64 1) = wf at *
    refine bodyPost_ret (v := .agg #[.int .i64 0, .slice none 0 0, .int .i64 1]) ?_ rfl hfin.out
    simp [results, Try.results47, go_sem, s0, s1, s2]
  have d1 : ((name.length : Int) != (n : Int)) = false := by simp; omega
  have hnl' := Lib.hid hnl
  have hnm := Lib.hid (rnaming_any k (h'.out w1 hS0.out.mod))
  clear hnl
  go_wp2_with fail
  refine hnm.out.mono ?_
  rintro e w2 hb
  obtain ⟨bb, hbi, rfl, hm1⟩ := hb.out
  have hS1 := Lib.hid (hS0.out.still hm1)
  clear hb hm1 hnm n0 nl t0 t1 t2 tl tf hS0
  try dsimp only
  have t0 := (hS1.out.blkAt 0 rfl).cell 0 rfl
  have t1 := (hS1.out.blkAt 0 rfl).cell 1 rfl
  have t2 := (hS1.out.blkAt 0 rfl).cell 2 rfl
  have tl := (hS1.out.blkAt 0 rfl).lt
  have tf := (hS1.out.blkAt 0 rfl).free
  cases bb with
  | false =>
    have hno : Hid (¬ (name.length = n ∧ isN k name)) := Lib.hid (fun hh => by have := hbi.2 hh.2; simp at this)
    have hS9 := ((hS1.out.set 0 (.int .i64 0)).set 1 (.slice none 0 0)).set 2 (.int .i64 1)
    have s0 := hS9.blk.cell 0 rfl
    have s1 := hS9.blk.cell 1 rfl
    have s2 := hS9.blk.cell 2 rfl
    have hfin := Lib.hid (ROfOut.mk (k := k) (name := name) (n := n) (L := L) (w := w) (e := .returned (.agg #[.int .i64 0, .slice none 0 0, .int .i64 1])) (.inl ⟨hno.out, rfl, hS9.mod⟩))
    clear hS9
    clear hbi hS1
    go_wp2_with fail
    generalize ((w2.setCell ⟨tb, 0, none⟩ (.int .i64 0)).setCell ⟨tb, 1, none⟩ (.slice none 0 0)).setCell ⟨tb, 2, none⟩ (.int .i64 1) = wf at *
    refine bodyPost_ret (v := .agg #[.int .i64 0, .slice none 0 0, .int .i64 1]) ?_ rfl hfin.out
    simp [results, Try.results47, go_sem, s0, s1, s2]
  | true =>
    have hyes := Lib.hid (hbi.1 rfl)
    clear hbi t0 t1 t2 tl tf
    have hSo := Lib.hid (show Sep w w2 [Row 41 3 0 (.slice none 0 0) (flat encEd (mapL name (L.take 0))), Blk tb [.int .i64 0, .slice none 0 0, .int .i64 0] 66, Blk nb [.int .i64 n, .slice a L.length c] 36] from nilRow9 hS1.out 41 3)
    clear hS1
    go_wp2_with fail
    go_loopw [7, 8] (fun s7 i wr => ∃ (j : Nat) (ao : Option Addr) (co : Nat), j ≤ L.length ∧ i = .int .i64 j ∧ s7 = .slice ao j co ∧ Hid (Sep w wr [Row 41 3 j (.slice ao j co) (flat encEd (mapL name (L.take j))), Blk tb [.int .i64 0, .slice none 0 0, .int .i64 0] 66, Blk nb [.int .i64 n, .slice a L.length c] 36])) (fun _ i _ => L.length - (intOf i).toNat)
    case atStart => exact ⟨0, none, 0, Nat.zero_le _, rfl, rfl, hSo⟩
    case round =>
      clear hSo
      obtain ⟨j, ao, co, hj, rfl, rfl, hS⟩ := hrel
      have n0 := (hS.out.blkAt 2 rfl).cell 0 rfl
      have n1 := (hS.out.blkAt 2 rfl).cell 1 rfl
      have nl := (hS.out.blkAt 2 rfl).lt
      by_cases hlt : j < L.length
      · have hlt1 : (j : Int) < L.length := by omega
        obtain ⟨g, o, rfl, hg, hcell⟩ := ed_cells (hL'.out w (Mod.refl _ _)) hlt
        have hends := hG'.out.ends L[j] (List.getElem_mem hlt)
        have hsn := Lib.hid (mapL_snoc (name := name) hlt)
        have hme : mapE name L[j] = (name.getD L[j].1.toNat 0, name.getD L[j].2.1.toNat 0, L[j].2.2) := rfl
        rw [hme] at hsn
        have hq := Lib.hid hcell
        generalize L[j] = e at *
        obtain ⟨eu, ev, ew⟩ := e
        simp only at hends hsn hq
        obtain ⟨u, rfl⟩ := Int.eq_ofNat_of_zero_le hends.1
        obtain ⟨v, rfl⟩ := Int.eq_ofNat_of_zero_le (show 0 ≤ ev by omega)
        simp only [Int.toNat_natCast] at hsn
        have hu : u < name.length := by have := hnl'.out; omega
        have hv : v < name.length := by have := hnl'.out; omega
        obtain ⟨gn, on, rfl, hgn, hcn⟩ := rd_cell (h'.out w (Mod.refl _ _)) hu
        have hcu := Lib.hid (fun W (m : Mod [] w W) => hcn W u (.int .i64 (name.getD u 0)) m (by rw [i64s_get hu, List.getD_eq_getElem?_getD, List.getElem?_eq_getElem hu]; rfl))
        have hcv := Lib.hid (fun W (m : Mod [] w W) => hcn W v (.int .i64 (name.getD v 0)) m (by rw [i64s_get hv, List.getD_eq_getElem?_getD, List.getElem?_eq_getElem hv]; rfl))
        generalize name.getD u 0 = nu at *
        generalize name.getD v 0 = nv at *
        have hgl : g < wr.heap.size := Nat.lt_of_lt_of_le hg hS.out.mod.size
        have gnl : gn < wr.heap.size := Nat.lt_of_lt_of_le hgn hS.out.mod.size
        have hu1 : (u : Int) < name.length := by omega
        have hv1 : (v : Int) < name.length := by omega
        have hSd := Lib.hid (hS.out.still (Mod.refl [] wr).drew)
        have x0 := (hq.out wr.drew hSd.out.mod).1
        have x1 := (hq.out wr.drew hSd.out.mod).2.1
        have x2 := (hq.out wr.drew hSd.out.mod).2.2
        have y0 := hcu.out wr.drew hSd.out.mod
        have y1 := hcv.out wr.drew hSd.out.mod
        have m1 := (hSd.out.blkAt 2 rfl).cell 1 rfl
        obtain ⟨KL, hKL⟩ : ∃ KL : List (Addr × Value), KL = [(⟨nb, 1, none⟩, .slice (some ⟨g, o, none⟩) L.length c), (⟨g, o + j * 3, none⟩, .int .i64 (u : Int)), (⟨g, o + j * 3 + 1, none⟩, .int .i64 (v : Int)), (⟨g, o + j * 3 + 2, none⟩, .int .i64 ew), (⟨gn, on + u, none⟩, .int .i64 nu), (⟨gn, on + v, none⟩, .int .i64 nv)] := ⟨_, rfl⟩
        have k0 := KC.one (L := KL) m1 (by rw [hKL]; simp)
        have k1 := KC.one (L := KL) x0 (by rw [hKL]; simp)
        have k2 := KC.one (L := KL) x1 (by rw [hKL]; simp)
        have k3 := KC.one (L := KL) x2 (by rw [hKL]; simp)
        have k4 := KC.one (L := KL) y0 (by rw [hKL]; simp)
        have k5 := KC.one (L := KL) y1 (by rw [hKL]; simp)
        have hkc : Hid (∀ W W' : World, Sep w W' [Row 41 3 j (.slice ao j co) (flat encEd (mapL name (L.take j))), Blk tb [.int .i64 0, .slice none 0 0, .int .i64 0] 66, Blk nb [.int .i64 n, .slice (some ⟨g, o, none⟩) L.length c] 36] → KC KL W W') := Lib.hid (fun W W' hs p hp _ => by
          rw [hKL] at hp
          simp only [List.mem_cons, List.mem_nil_iff, or_false] at hp
          rcases hp with rfl | rfl | rfl | rfl | rfl | rfl
          · exact (hs.blkAt 2 rfl).cell 1 rfl
          · exact (hq.out _ hs.mod).1
          · exact (hq.out _ hs.mod).2.1
          · exact (hq.out _ hs.mod).2.2
          · exact hcu.out _ hs.mod
          · exact hcv.out _ hs.mod)
        have hkc2 : Hid (∀ (W W' : World) (a1 : Option Addr) (c1 : Nat), Sep w W' [Row 41 3 (j + 1) (.slice a1 (j + 1) c1) (flat encEd (mapL name (L.take (j + 1)))), Blk tb [.int .i64 0, .slice none 0 0, .int .i64 0] 66, Blk nb [.int .i64 n, .slice (some ⟨g, o, none⟩) L.length c] 36] → KC KL W W') := Lib.hid (fun W W' a1 c1 hs p hp _ => by
          rw [hKL] at hp
          simp only [List.mem_cons, List.mem_nil_iff, or_false] at hp
          rcases hp with rfl | rfl | rfl | rfl | rfl | rfl
          · exact (hs.blkAt 2 rfl).cell 1 rfl
          · exact (hq.out _ hs.mod).1
          · exact (hq.out _ hs.mod).2.1
          · exact (hq.out _ hs.mod).2.2
          · exact hcu.out _ hs.mod
          · exact hcv.out _ hs.mod)
        clear hS hcell hcn hends hme hu hv x0 x1 x2 y0 y1 m1 hKL hq hcu hcv
        go_upto_region 7 with fail
        refine region_sched (G := KC KL) [([0,1,2,3,4,5,6,7,8,9,10,11,12,13,14,15,16,17,18,19,20,21,22,23,24,25],26), ([],27)] [28] (by kernel_rfl) (by kernel_rfl) (by kernel_rfl) rfl (KC.refl _) (KC.trans _) ?_
        simp only [stages, pickO, nthO, headO, List.append_eq, List.cons_append, List.nil_append]
        refine sched_step ?_
        repeat (go_big_quiet_step (fail))
        refine wpQuiet_nil ?_
        intro K hK
        rw [if_pos (by rfl)]
        go_simp
        refine hK.out _ _ (hkc.out _ _ (hSd.out.still ((Mod.refl [] _).alloc _))) ?_
        clear hK K k0 k1 k2 k3 k4 k5
        refine sched_step ?_
        refine wpQuiet_nil ?_
        intro K hK
        refine step_appS (W := wr.drew) rfl (.tmp 28) (.tmp 54) 22 41 _ 3 24 rfl Try.underlying22 infoEd rfl (by omega) (by omega) (.slice ao j co) j 1 (flat encEd (mapL name (L.take j))) (encEd (nu, nv, ew)) rfl rfl rfl rfl (by simp [encEd, Value.oneCell']) (hSd.out.rowAt 0 rfl) (by omega) ?_
        intro a1 c1 w6 ho6 hm6 hb6
        rw [← hsn.out] at ho6
        have hS6 := Lib.hid (hSd.out.growAt 0 rfl ho6 hm6 hb6)
        clear ho6 hm6 hb6
        refine hK.out _ _ (hkc2.out _ _ a1 c1 hS6.out) ?_
        clear hK K hkc hkc2 hSd
        refine sched_last ?_
        try go_simp
        repeat (go_big_quiet_step (fail))
        refine wpQuiet_nil ?_
        go_wp2_with fail
        go_roundw
        case rel => exact ⟨j + 1, a1, c1, by omega, by go_num, rfl, hS6⟩
        case measure => simp [intOf]; omega
      · have hjL : j = L.length := by omega
        subst hjL
        have hml : (mapL name L).length = L.length := by simp [mapL]
        have hok := mapL_ok hG'.out hnl'.out hyes.out.2.1
        have hrow := hS.out.rowAt 0 rfl
        have htm := total_map name L
        have htot := hG'.out.tot
        rw [List.take_length] at hrow
        have hmg := Lib.hid (rmerge_tot (l := mapL name L) (v := .slice ao L.length co) (w := wr) (by rw [hml]; exact Rd.own hrow) (by omega) (fun e he => (hok e he).2.2.2.2) (by omega))
        have hSt := Lib.hid hS.out.tail
        clear hS hj hml hok hrow htm htot
        go_wp2_with fail
        clear n0 n1 nl hlt
        refine hmg.out.mono ?_
        rintro e w3 hM
        obtain ⟨a3, c3, rfl, hmd3⟩ := hM.out
        have hS3 := Lib.hid (hSt.out.made hmd3)
        have t0 := (hS3.out.blkAt 1 rfl).cell 0 rfl
        have t1 := (hS3.out.blkAt 1 rfl).cell 1 rfl
        have t2 := (hS3.out.blkAt 1 rfl).cell 2 rfl
        have tl := (hS3.out.blkAt 1 rfl).lt
        have tf := (hS3.out.blkAt 1 rfl).free
        obtain ⟨mm, hmm⟩ : ∃ mm, merged (mapL name L) = mm := ⟨_, rfl⟩
        have hmm' := Lib.hid hmm
        rw [hmm] at hS3 ⊢
        have hS9 := ((hS3.out.setAt 1 rfl 0 (.int .i64 k)).setAt 1 rfl 1 (.slice a3 mm.length c3)).setAt 1 rfl 2 (.int .i64 0)
        have s0 := (hS9.blkAt 1 rfl).cell 0 rfl
        have s1 := (hS9.blkAt 1 rfl).cell 1 rfl
        have s2 := (hS9.blkAt 1 rfl).cell 2 rfl
        have hfin := Lib.hid (ROfOut.mk (k := k) (name := name) (n := n) (L := L) (w := w) (e := .returned (.agg #[.int .i64 k, .slice a3 mm.length c3, .int .i64 0])) (.inr ⟨⟨hnl'.out, hyes.out⟩, a3, c3, by rw [hmm'.out], by rw [hmm'.out]; exact hS9.toMade⟩))
        clear hM hmd3 hmg hSt hS3 hmm hS9
        try dsimp only
        go_wp2_with fail
        generalize ((w3.setCell ⟨tb, 0, none⟩ (.int .i64 k)).setCell ⟨tb, 1, none⟩ (.slice a3 mm.length c3)).setCell ⟨tb, 2, none⟩ (.int .i64 0) = wf at *
        refine bodyPost_ret (v := .agg #[.int .i64 k, .slice a3 mm.length c3, .int .i64 0]) ?_ rfl hfin.out
        simp [results, Try.results47, go_sem, s0, s1, s2]
end Edge
end Go.Proofs.Ytkhbnopmeapfjaa
