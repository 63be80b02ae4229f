/- The graph of a naming. -/
import Derived.Test.YtkhbnopmeapfjaaCon2
import Derived.Test.YtkhbnopmeapfjaaNetNil
set_option linter.unusedVariables false
set_option linter.unusedSimpArgs false
namespace Go.Proofs.Ytkhbnopmeapfjaa
open Go.RowKit
namespace Edge
theorem Sep.before {w w1 w2 : World} {L : List Part} (h : Sep w1 w2 L) (m : Mod [] w w1) : Sep w w2 L := by
  obtain ⟨F, h1, h2, h3⟩ := h.out
  exact ⟨F, h1, m.trans h2 (by simp), fun b hb => Nat.le_trans m.size (h3 b hb)⟩
theorem row_cell {w : World} {e size n g c i : Nat} {xs : List Value} (h : w.ownsRow 0 e size (.slice (some ⟨g, 0, none⟩) n c) n xs) (hi : i < n * size) : ∃ u, w.cell? ⟨g, i, none⟩ = some u := by
  have h1 := h.cellAt i hi
  rw [List.getElem?_eq_getElem (by rw [h.1]; exact hi)] at h1
  exact ⟨_, h1⟩
theorem flat_set01 {Y : List Ed} {k : Nat} (hk : k < Y.length) (a b : Int) : ((flat encEd Y).set (k * 3) (.int .i64 a)).set (k * 3 + 1) (.int .i64 b) = flat encEd (Y.set k (a, b, Y[k].2.2)) := by
  rw [flat_split Y k hk, show k * 3 = k * 3 + 0 from rfl, mid_set _ _ _ (k * 3) 0 _ (flat_take_length encEd_len Y k hk) (by simp [encEd]), mid_set _ _ _ (k * 3) 1 _ (flat_take_length encEd_len Y k hk) (by simp [encEd]), ← flat_mid Y k hk]
  rfl
theorem sep_wrap7 {goalP : World → Prop} {W0 Wx : World} {L : List Part} (h : Sep W0 Wx L) (hp : ∀ Wg, Sep W0 Wg L → goalP Wg) : goalP Wx := hp Wx h
/-- The edges of which the first k are named anew. -/
def halfM (name : List Int) (L : List Ed) (k : Nat) : List Ed := mapL name (L.take k) ++ L.drop k
theorem halfM_len (name : List Int) (L : List Ed) (k : Nat) : (halfM name L k).length = L.length := by
  unfold halfM mapL
  simp; omega
theorem halfM_get {name : List Int} {L : List Ed} {k : Nat} (hk : k < L.length) : (halfM name L k)[k]'(by rw [halfM_len]; exact hk) = L[k] := by
  unfold halfM mapL
  rw [List.getElem_append_right (by simp; omega)]
  simp [show min k L.length = k by omega]
theorem halfM_step {name : List Int} {L : List Ed} {k : Nat} (hk : k < L.length) : (halfM name L k).set k (mapE name L[k]) = halfM name L (k + 1) := by
  unfold halfM mapL
  rw [List.set_append_right _ _ (by simp; omega), List.length_map, List.length_take, show k - min k L.length = 0 by omega, List.drop_eq_getElem_cons hk, List.set_cons_zero, List.take_succ_eq_append_getElem hk, List.map_append]
  simp
theorem halfM_zero (name : List Int) (L : List Ed) : halfM name L 0 = L := by simp [halfM, mapL]
theorem halfM_all (name : List Int) (L : List Ed) : halfM name L L.length = mapL name L := by simp [halfM]
/-- What Of answers. -/
structure OfOut (k : Int) (name : List Int) (n : Nat) (L : List Ed) (w : World) (e : Ending) (w' : World) : Prop where
  mk ::
  out : (¬ (name.length = n ∧ isN k name) ∧ e = .returned (.tuple #[.pointer none, .int .i64 1]) ∧ Mod [] w w') ∨
    ((name.length = n ∧ isN k name) ∧ ∃ b2, e = .returned (.tuple #[.pointer (some ⟨b2, 0, none⟩), .int .i64 0]) ∧ Sep w w' [NetP b2 k.toNat (merged (mapL name L))])
set_option maxRecDepth 100000 in
set_option maxHeartbeats 8000000 in
theorem of_gen {w : World} {q : Option Addr} {n : Nat} {L : List Ed} (hG : GOk n L)
    (hN : ∀ W, Mod [] w W → Calls Try.prog 18 #[.pointer q] W fun e w' => e = .returned (.int .i64 n) ∧ w' = W)
    (hE : ∀ W, Mod [] w W → Calls Try.prog 21 #[.pointer q] W fun e w' => ∃ a c, e = .returned (.slice a L.length c) ∧ Made W w' 41 3 a L.length c (flat encEd L))
    (hP : (L.length : Int) * 2147483648 + total L ≤ 2251799813685248)
    (k : Int) {name : List Int} {va : Value} (h : Rd w 1 va name.length (i64s name)) :
    Calls Try.prog 45 #[.pointer q, .int .i64 k, va] w (OfOut k name n L w) := by
  obtain ⟨a, c, rfl⟩ := h.val
  have hle := h.le
  have hN' := Lib.hid hN
  have hE' := Lib.hid hE
  have h' := Lib.hid h
  have hnm := Lib.hid (naming_any k h)
  by_cases hnl : name.length = n
  case neg =>
    have t1 : ((name.length : Int) != (n : Int)) = true := by simp; omega
    have hno : Hid (¬ (name.length = n ∧ isN k name)) := Lib.hid (fun hh => hnl hh.1)
    clear hN hE h hnl hnm
    go_enter Try.func45, Try.ntmps45
    go_wp2_with fail
    refine (hN'.out _ (Mod.refl _ _)).mono ?_
    rintro e w1 ⟨rfl, hw1⟩
    subst w1
    try dsimp only
    go_wp2_with fail
    exact bodyPost_ret (v := .tuple #[.pointer none, .int .i64 1]) (by simp [results, Try.results45, go_sem]) rfl ⟨.inl ⟨hno.out, rfl, Mod.refl _ _⟩⟩
  have t1 : ((name.length : Int) != (n : Int)) = false := by simp; omega
  have hnl' := Lib.hid hnl
  have hG' := Lib.hid hG
  have hP' := Lib.hid hP
  clear hN hE h hnl hP hG
  go_enter Try.func45, Try.ntmps45
  go_wp2_with fail
  refine (hN'.out _ (Mod.refl _ _)).mono ?_
  rintro e w1 ⟨rfl, hw1⟩
  subst w1
  try dsimp only
  go_wp2_with fail
  refine hnm.out.mono ?_
  rintro e w1 hb
  obtain ⟨bb, hbi, rfl, hm1⟩ := hb.out
  have hm1' := Lib.hid hm1
  clear hb hm1 hnm
  try dsimp only
  cases bb with
  | false =>
    have hno : Hid (¬ (name.length = n ∧ isN k name)) := Lib.hid (fun hh => by have := hbi.2 hh.2; simp at this)
    clear hbi
    go_wp2_with fail
    exact bodyPost_ret (v := .tuple #[.pointer none, .int .i64 1]) (by simp [results, Try.results45, go_sem]) rfl ⟨.inl ⟨hno.out, rfl, hm1'.out⟩⟩
  | true =>
    have hyes := Lib.hid (hbi.1 rfl)
    have hk4 := hyes.out.1
    have hl := hG'.out.len
    clear hbi
    go_wp2_with fail
    refine (hE'.out _ hm1'.out).mono ?_
    rintro e w2 ⟨ae, ce, rfl, hmd⟩
    have hS := Lib.hid (show Sep w w2 [Row 41 3 L.length (.slice ae L.length ce) (flat encEd (halfM name L 0))] by rw [halfM_zero]; exact ((Sep.empty w).still hm1'.out).made hmd)
    have h2 := Lib.hid (fun W (m : Mod [] w W) => h'.out.still m)
    clear hmd hE' hN' h'
    try dsimp only
    go_wp2_with fail
    go_loopw [33] (fun i wr => ∃ j : Nat, j ≤ L.length ∧ i = .int .i64 j ∧ Hid (Sep w wr [Row 41 3 L.length (.slice ae L.length ce) (flat encEd (halfM name L j))])) (fun i _ => L.length - (intOf i).toNat)
    case atStart => exact ⟨0, Nat.zero_le _, rfl, hS⟩
    case round =>
      clear hS
      obtain ⟨j, hj, rfl, hS⟩ := hrel
      by_cases hlt : j < L.length
      · have hlt1 : (j : Int) < L.length := by omega
        have hrow := hS.out.row
        rw [← halfM_len name L j] at hrow
        obtain ⟨ge, he, hge, hgf, q0, q1, q2⟩ := ed_row hrow (by rw [halfM_len]; exact hlt)
        subst he
        rw [halfM_get hlt] at q0 q1 q2
        have hends := hG'.out.ends L[j] (List.getElem_mem hlt)
        have hst := Lib.hid (halfM_step (name := name) hlt)
        have hs01 := fun a b => flat_set01 (Y := halfM name L j) (k := j) (by rw [halfM_len]; exact hlt) a b
        simp only [halfM_get hlt] at hs01
        have hme : mapE name L[j] = (name.getD L[j].1.toNat 0, name.getD L[j].2.1.toNat 0, L[j].2.2) := rfl
        rw [hme] at hst
        generalize L[j] = e at *
        obtain ⟨eu, ev, ew⟩ := e
        simp only at q0 q1 q2 hends hst hs01
        obtain ⟨u, rfl⟩ := Int.eq_ofNat_of_zero_le hends.1
        obtain ⟨v, rfl⟩ := Int.eq_ofNat_of_zero_le (show 0 ≤ ev by omega)
        simp only [Int.toNat_natCast] at hst
        have hu : u < name.length := by have := hnl'.out; omega
        have hv : v < name.length := by have := hnl'.out; omega
        obtain ⟨gn, on, rfl, hgn, hcell⟩ := rd_cell (h2.out w (Mod.refl _ _)) hu
        have hcu := Lib.hid (fun W (m : Mod [] w W) => hcell W u (.int .i64 (name.getD u 0)) m (by rw [i64s_get hu, List.getD_eq_getElem?_getD, List.getElem?_eq_getElem hu]; rfl))
        have hcv := Lib.hid (fun W (m : Mod [] w W) => hcell W v (.int .i64 (name.getD v 0)) m (by rw [i64s_get hv, List.getD_eq_getElem?_getD, List.getElem?_eq_getElem hv]; rfl))
        generalize name.getD u 0 = nu at *
        generalize name.getD v 0 = nv at *
        have hSb := Lib.hid (hS.out.box [.int .i64 (u : Int), .int .i64 (v : Int), .int .i64 ew] 41)
        generalize hWe : wr.alloc (.cells [.int .i64 (u : Int), .int .i64 (v : Int), .int .i64 ew].toArray 41) = We at *
        have hWe' := Lib.hid hWe
        have e0 : We.drew.cell? ⟨wr.heap.size, 0, none⟩ = some (.int .i64 (u : Int)) := (hSb.out.blkAt 0 rfl).cell 0 rfl
        have e1 : We.drew.cell? ⟨wr.heap.size, 1, none⟩ = some (.int .i64 (v : Int)) := (hSb.out.blkAt 0 rfl).cell 1 rfl
        have c0 := hcu.out We.drew (hSb.out.mod.trans (Mod.refl [] We).drew (by simp))
        have c1 := hcv.out We.drew (hSb.out.mod.trans (Mod.refl [] We).drew (by simp))
        have el : wr.heap.size < We.heap.size := (hSb.out.blkAt 0 rfl).lt
        have gnl : gn < We.heap.size := Nat.lt_of_lt_of_le hgn hSb.out.mod.size
        have gel : ge < We.drew.heap.size := own_lt (hSb.out.rowAt 1 rfl) (g := ge) rfl
        obtain ⟨x0, g0'⟩ := row_cell (hSb.out.rowAt 1 rfl) (i := j * 3) (by omega)
        have g0 : We.drew.cell? ⟨ge, j * 3, none⟩ = some x0 := g0'
        have z0 : We.drew.frozen? ⟨ge, j * 3, none⟩ = false := (hSb.out.rowAt 1 rfl).frozenAt (j * 3)
        have hS1 := Lib.hid ((hSb.out.rowsetAt 1 rfl (j * 3) (.int .i64 nu)).still (Mod.refl [] _).drew)
        have hj1 : j * 3 < L.length * 3 := by omega
        have hu1 : (u : Int) < name.length := by omega
        have hv1 : (v : Int) < name.length := by omega
        have hs01' := Lib.hid (hs01 nu nv)
        have k0 := KC.one (L := [(⟨wr.heap.size, 0, none⟩, .int .i64 (u : Int)), (⟨wr.heap.size, 1, none⟩, .int .i64 (v : Int)), (⟨gn, on + u, none⟩, .int .i64 nu), (⟨gn, on + v, none⟩, .int .i64 nv)]) e0 (by simp)
        have k1 := KC.one (L := [(⟨wr.heap.size, 0, none⟩, .int .i64 (u : Int)), (⟨wr.heap.size, 1, none⟩, .int .i64 (v : Int)), (⟨gn, on + u, none⟩, .int .i64 nu), (⟨gn, on + v, none⟩, .int .i64 nv)]) e1 (by simp)
        have k2 := KC.one (L := [(⟨wr.heap.size, 0, none⟩, .int .i64 (u : Int)), (⟨wr.heap.size, 1, none⟩, .int .i64 (v : Int)), (⟨gn, on + u, none⟩, .int .i64 nu), (⟨gn, on + v, none⟩, .int .i64 nv)]) c0 (by simp)
        have k3 := KC.one (L := [(⟨wr.heap.size, 0, none⟩, .int .i64 (u : Int)), (⟨wr.heap.size, 1, none⟩, .int .i64 (v : Int)), (⟨gn, on + u, none⟩, .int .i64 nu), (⟨gn, on + v, none⟩, .int .i64 nv)]) c1 (by simp)
        clear hrow hgf hs01 hS hcell hends hme hu hv hSb hWe e0 e1 c0 c1 g0'
        go_upto_region 7 with fail
        rw [hWe'.out]
        clear hWe' q0 q1 q2 hge
        generalize wr.heap.size = be at *
        refine region_sched (G := KC [(⟨be, 0, none⟩, .int .i64 (u : Int)), (⟨be, 1, none⟩, .int .i64 (v : Int)), (⟨gn, on + u, none⟩, .int .i64 nu), (⟨gn, on + v, none⟩, .int .i64 nv)]) [([0,1,2,3,4,5,6,7,8,9,10,11,12,13,14,15],16), ([17,18],19)] [] (by kernel_rfl) (by kernel_rfl) (by kernel_rfl) rfl (KC.refl _) (KC.trans _) ?_
        simp only [stages, pickO, nthO, headO, List.append_eq, List.cons_append, List.nil_append]
        refine sched_step ?_
        repeat (go_big_quiet_step (fail))
        refine wpQuiet_nil ?_
        intro K hK
        rw [if_pos (by rfl)]
        go_simp
        refine hK.out _ _ (fun p hp _ => by
          simp only [List.mem_cons, List.mem_nil_iff, or_false] at hp
          rcases hp with rfl | rfl | rfl | rfl
          · exact (hS1.out.blkAt 0 rfl).cell 0 rfl
          · exact (hS1.out.blkAt 0 rfl).cell 1 rfl
          · exact hcu.out _ hS1.out.mod
          · exact hcv.out _ hS1.out.mod) ?_
        clear hK K k0 k1 k2 k3 g0 z0 gel
        refine sep_wrap7 (goalP := fun W => wpSched _ _ _ _ _ _ _ W) hS1.out ?_
        intro W1 hS1'
        clear hS1
        obtain ⟨x1, g1⟩ := row_cell (hS1'.rowAt 1 rfl) (i := j * 3 + 1) (by omega)
        have z1 := (hS1'.rowAt 1 rfl).frozenAt (j * 3 + 1)
        have gel := own_lt (hS1'.rowAt 1 rfl) (g := ge) rfl
        have hS2 := hS1'.rowsetAt 1 rfl (j * 3 + 1) (.int .i64 nv)
        rw [hs01'.out, hst.out] at hS2
        have hS2' := Lib.hid hS2
        clear hS1' hS2
        refine sched_step ?_
        repeat (go_big_quiet_step (fail))
        refine wpQuiet_nil ?_
        intro K hK
        rw [if_pos (by rfl)]
        go_simp
        refine hK.out _ _ (fun p hp _ => by
          simp only [List.mem_cons, List.mem_nil_iff, or_false] at hp
          rcases hp with rfl | rfl | rfl | rfl
          · exact (hS2'.out.blkAt 0 rfl).cell 0 rfl
          · exact (hS2'.out.blkAt 0 rfl).cell 1 rfl
          · exact hcu.out _ hS2'.out.mod
          · exact hcv.out _ hS2'.out.mod) ?_
        clear hK K g1 z1 gel
        have hS3 := Lib.hid hS2'.out.tail
        clear hS2' hcu hcv
        refine sched_last ?_
        refine wpQuiet_nil ?_
        go_wp2_with fail
        go_roundw
        case rel => exact ⟨j + 1, by omega, by go_num, hS3⟩
        case measure => simp [intOf]; omega
      · have hjL : j = L.length := by omega
        have hS1 := Lib.hid (show Sep w wr [Row 41 3 (mapL name L).length (.slice ae (mapL name L).length ce) (flat encEd (mapL name L))] by
          have h5 := hS.out
          rw [hjL, halfM_all, show L.length = (mapL name L).length by simp [mapL]] at h5
          exact h5)
        have hml : L.length = (mapL name L).length := by simp [mapL]
        have hok := mapL_ok hG'.out hnl'.out hyes.out.2.1
        have htm := total_map name L
        obtain ⟨hg1, hg2, hg3⟩ := merged_gen hok
        have hPp := hP'.out
        have htt := (tot_in (l := L) (fun e he => by have := hG'.out.pos e he; omega)).1
        have hmg := Lib.hid (merge_tot (Rd.own hS1.out.row) (by omega) (fun e he => by have := hok e he; omega) (by omega))
        have hsl := split_len (A := merged (mapL name L)) (fun e he => (hg1 e he).2.2.2)
        have hsp := Lib.hid (fun W v (hr : Rd W 3 v (merged (mapL name L)).length (flat encEd (merged (mapL name L)))) => split_any hr (fun e he => (hg1 e he).2.2.2) (by omega) (by omega))
        have hso := split_ok (k := k) hg1
        have hnw := Lib.hid (fun W v (hr : Rd W 3 v (splitL (merged (mapL name L))).length (flat encEd (splitL (merged (mapL name L))))) => new_net k hr)
        have hne : newE k (splitL (merged (mapL name L))) = (0, 0) := by
          unfold newE
          rw [if_neg (by omega), if_neg (by omega)]
          exact checksE_at (checksE_ok.2 (fun e he => (hso e he).1))
        have hme : merged (splitL (merged (mapL name L))) = merged (mapL name L) := split_merged (merged_rising _) hg1
        have hne' := Lib.hid hne
        have hme' := Lib.hid hme
        rw [← hml] at hmg
        clear hS hj hjL hok htm hg1 hg2 hg3 hsl hso hne hme hml htt hPp
        go_wp2_with fail
        refine hmg.out.mono ?_
        rintro e w3 hM
        obtain ⟨a3, c3, rfl, hmd3⟩ := hM.out
        have hm3 := Lib.hid (hS1.out.mod.trans hmd3.mod (by simp))
        have hsp3 := Lib.hid (hsp.out w3 _ (Rd.own hmd3.own))
        clear hM hmd3 hmg hsp hS1 hlt
        try dsimp only
        go_wp2_with fail
        refine hsp3.out.mono ?_
        rintro e w4 ⟨a4, c4, rfl, hmd4⟩
        have hm4 := Lib.hid (hm3.out.trans hmd4.mod (by simp))
        have hnw4 := Lib.hid (hnw.out w4 _ (Rd.own hmd4.own))
        clear hmd4 hsp3 hnw
        try dsimp only
        go_wp2_with fail
        refine hnw4.out.mono ?_
        rintro e w5 hN5
        rcases hN5.out with ⟨hbad, _⟩ | ⟨_, b2, rfl, hS5⟩
        · exact absurd hne'.out hbad
        rw [hme'.out] at hS5
        have hS6 := Lib.hid (Sep.before hS5 hm4.out)
        clear hN5 hnw4 hS5 hm3 hm4
        try dsimp only
        go_wp2_with fail
        exact bodyPost_ret (v := .tuple #[.pointer (some ⟨b2, 0, none⟩), .int .i64 0]) (by simp [results, Try.results45, go_sem]) rfl ⟨.inr ⟨⟨hnl'.out, hyes.out⟩, b2, rfl, hS6.out⟩⟩
end Edge
end Go.Proofs.Ytkhbnopmeapfjaa
