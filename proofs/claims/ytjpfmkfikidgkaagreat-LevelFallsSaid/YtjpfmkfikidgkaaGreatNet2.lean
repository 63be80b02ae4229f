/- A graph is made: New. -/
import Derived.Test.YtjpfmkfikidgkaaGreatNet1
import Derived.Test.YtjpfmkfikidgkaaGreatKit3
set_option linter.unusedVariables false
set_option linter.unusedSimpArgs false
namespace Go.Proofs.YtjpfmkfikidgkaaGreat
open Go.RowKit
namespace Edge
theorem total_pos : ∀ {L : List Ed}, (∀ e ∈ L, 0 < e.2.2) → 0 ≤ total L
  | [], _ => Int.le_refl _
  | e :: l, h => by
    have h1 := h e (by simp)
    have h2 := total_pos (L := l) (fun x hx => h x (List.mem_cons_of_mem _ hx))
    simp only [total]; omega
theorem total_take {L : List Ed} (h : ∀ e ∈ L, 0 < e.2.2) (k : Nat) : 0 ≤ total (L.take k) ∧ total (L.take k) ≤ total L := by
  have e : total L = total (L.take k) + total (L.drop k) := by rw [← total_append, List.take_append_drop]
  have h1 := total_pos (L := L.take k) (fun x hx => h x (List.mem_of_mem_take hx))
  have h2 := total_pos (L := L.drop k) (fun x hx => h x (List.mem_of_mem_drop hx))
  omega
theorem take_step {L : List Ed} {k : Nat} (hk : k < L.length) : L.take (k + 1) = L.take k ++ [L[k]] := List.take_succ_eq_append_getElem hk
def mixL (n : Nat) (L : List Ed) (k : Nat) : List (List Int) := (List.range n).map fun (v : Nat) => if v < k then near n L (v : Int) else nexts L (v : Int)
theorem mix_zero (n : Nat) (L : List Ed) : mixL n L 0 = nextsL n L := by simp [mixL, nextsL]
theorem mix_all (n : Nat) (L : List Ed) : mixL n L n = nearL n L := by
  unfold mixL nearL
  apply List.map_congr_left
  intro v hv
  rw [List.mem_range] at hv
  rw [if_pos hv]
theorem mix_step {n : Nat} {L : List Ed} {k : Nat} (hk : k < n) : (mixL n L k).set k (near n L k) = mixL n L (k + 1) := by
  unfold mixL
  apply List.ext_getElem
  · simp
  intro i h1 h2
  simp only [List.getElem_set, List.getElem_map, List.getElem_range]
  by_cases e : k = i
  · subst e; rw [if_pos rfl, if_pos (by omega)]
  · rw [if_neg e]
    by_cases h : i < k
    · rw [if_pos h, if_pos (by omega)]
    · rw [if_neg h, if_neg (by omega)]
theorem ESt.restRow {w0 w : World} {b gn gd n : Nat} {vl : Value} {tot : Int} {RS : List Value} {XS : List (List Int)} {DS : List Int} {e size m : Nat} {v : Value} {xs : List Value} {R : List Part} (h : ESt w0 w b gn gd n vl tot RS XS DS (Row e size m v xs :: R)) : w.ownsRow 0 e size v m xs :=
  (h.sep.perm endsL_rest.symm).row
/-- What New answers. -/
structure NewOut (n : Int) (l : List Ed) (w : World) (e : Ending) (w' : World) : Prop where
  mk ::
  out : (newE n l ≠ (0, 0) ∧ e = .returned (.tuple #[.pointer none, .int .i64 (newE n l).1, .int .i64 (newE n l).2]) ∧ Mod [] w w') ∨
    (newE n l = (0, 0) ∧ ∃ b, e = .returned (.tuple #[.pointer (some ⟨b, 0, none⟩), .int .i64 0, .int .i64 0]) ∧ Sep w w' [NetP b n.toNat (merged l)])
theorem infoRow : (Tryz.prog.info? 51).map (fun i => (i.zero, i.size, i.bytes)) = some (some (.slice none 0 0), 1, 24) := by kernel_rfl
theorem infoI64 : (Tryz.prog.info? 2).map (fun i => (i.zero, i.size, i.bytes)) = some (some (.int .i64 0), 1, 8) := by kernel_rfl
theorem made_list (z : Value) (m : Nat) : madeCells #[z] m = (List.replicate m z).toArray := by
  have hl : (madeCells #[z] m).toList = List.replicate m z := by
    apply List.ext_getElem
    · simp [madeCells]
    · intro i h1 h2; simp [madeCells, Nat.mod_one]
  rw [← hl]
/-- The graph's head is laid. -/
theorem est_made {w0 w w' : World} {b gn gd n : Nat} {vl : Value} {R : List Part} (hS : Sep w0 w R) (m : Mod [] w w') (hgn : Has w' gn (madeCells #[.slice none 0 0] n).toList 51) (hgd : Has w' gd (madeCells #[.int .i64 0] n).toList 2)
    (hb : Has w' b [.slice (some ⟨gn, 0, none⟩) n n, .slice (some ⟨gd, 0, none⟩) n n, vl, .int .i64 0] 169) (l1 : w.heap.size ≤ gn) (l2 : w.heap.size ≤ gd) (l3 : w.heap.size ≤ b) (n1 : b ≠ gn) (n2 : b ≠ gd) (n3 : gn ≠ gd) :
    ESt w0 w' b gn gd n vl 0 (List.replicate n (.slice none 0 0)) (nextsL n []) (degL n []) R := by
  refine ⟨?_, by simp, by simp [nextsL], by simp [degL]⟩
  rw [made_list] at hgn hgd
  obtain ⟨F, h1, h2, h3⟩ := hS.out
  have hr : ∀ (k : Nat) (RS : List Value) (XS : List (List Int)), RS = List.replicate k (.slice none 0 0) → XS = List.replicate k [] → Parts w' (rowsP RS XS ++ R) F := by
    intro k
    induction k with
    | zero => rintro _ _ rfl rfl; exact h1.keep m (by simp)
    | succ k ih =>
      rintro _ _ rfl rfl
      refine ⟨inferInstance, [], F, rfl, ⟨World.ownsRow_nil _ _ _ _, by simp [Value.ownBlock]⟩, ih _ _ rfl rfl, by simp⟩
  have hrp := hr n (List.replicate n (.slice none 0 0)) (nextsL n []) rfl (by simp [nextsL, nexts, List.map_const'])
  have hFlt : ∀ x ∈ F, x < w.heap.size := h1.lt
  refine ⟨b :: gn :: gd :: F, ⟨inferInstance, [b], gn :: gd :: F, rfl, ⟨hb, rfl⟩, ⟨inferInstance, [gn], gd :: F, rfl, ⟨by simpa using hgn, rfl⟩, ⟨inferInstance, [gd], F, rfl, ⟨?_, rfl⟩, hrp, ?_⟩, ?_⟩, ?_⟩, h2.trans m (by simp), ?_⟩
  · have e : i64s (degL n []) = List.replicate n (.int .i64 0) := by simp [i64s, degL, degree, List.map_const']
    rw [e]
    simpa using hgd
  · intro x hx hx2
    rw [List.mem_singleton] at hx
    subst hx
    have := hFlt _ hx2
    omega
  · intro x hx hx2
    rw [List.mem_singleton] at hx
    subst hx
    rcases List.mem_cons.1 hx2 with h | h
    · exact n3 h
    · have := hFlt _ h; omega
  · intro x hx hx2
    rw [List.mem_singleton] at hx
    subst hx
    rcases List.mem_cons.1 hx2 with h | h
    · exact n1 h
    rcases List.mem_cons.1 h with h | h
    · exact n2 h
    · have := hFlt _ h; omega
  · have := h2.size
    intro x hx
    rcases List.mem_cons.1 hx with rfl | hx
    · omega
    rcases List.mem_cons.1 hx with rfl | hx
    · omega
    rcases List.mem_cons.1 hx with rfl | hx
    · omega
    · exact h3 x hx
set_option maxRecDepth 100000 in
set_option maxHeartbeats 4000000 in
theorem new_net (n : Int) {l : List Ed} {v : Value} {w : World} (h : Rd w 3 v l.length (flat encEd l)) :
    Calls Tryz.prog 15 #[.int .i64 n, v] w (NewOut n l w) := by
  obtain ⟨a0, c0, rfl⟩ := h.val
  have hle := h.le
  have h' := Lib.hid h
  clear h
  by_cases h1 : n < 0
  · have he := Lib.hid (show newE n l = (1, 0) by unfold newE; rw [if_pos h1])
    go_enter Tryz.func15, Tryz.ntmps15
    go_wp2_with fail
    exact bodyPost_ret (v := .tuple #[.pointer none, .int .i64 1, .int .i64 0]) (by simp [results, Tryz.results15, go_sem]) rfl ⟨.inl ⟨by rw [he.out]; simp, by rw [he.out], Mod.refl _ _⟩⟩
  by_cases h2 : 4096 < n
  · have he := Lib.hid (show newE n l = (3, 0) by unfold newE; rw [if_neg h1, if_pos (.inl h2)])
    go_enter Tryz.func15, Tryz.ntmps15
    go_wp2_with fail
    exact bodyPost_ret (v := .tuple #[.pointer none, .int .i64 3, .int .i64 0]) (by simp [results, Tryz.results15, go_sem]) rfl ⟨.inl ⟨by rw [he.out]; simp, by rw [he.out], Mod.refl _ _⟩⟩
  by_cases h3 : 1048576 < l.length
  · have he := Lib.hid (show newE n l = (3, 0) by unfold newE; rw [if_neg h1, if_pos (.inr h3)])
    have h3' : (1048576 : Int) < l.length := by omega
    go_enter Tryz.func15, Tryz.ntmps15
    go_wp2_with fail
    exact bodyPost_ret (v := .tuple #[.pointer none, .int .i64 3, .int .i64 0]) (by simp [results, Tryz.results15, go_sem]) rfl ⟨.inl ⟨by rw [he.out]; simp, by rw [he.out], Mod.refl _ _⟩⟩
  have hen : newE n l = checksE n 0 l := by unfold newE; rw [if_neg h1, if_neg (by omega)]
  have hck := Lib.hid (checks_any n h'.out)
  have h3' : ¬ (1048576 : Int) < l.length := by omega
  by_cases h4 : (checksE n 0 l).1 = 0
  · obtain ⟨m, rfl⟩ := Int.eq_ofNat_of_zero_le (show 0 ≤ n by omega)
    have hm4 : m ≤ 4096 := by omega
    have hall := checksE_ok.1 h4
    have hG := Lib.hid (merged_ok hm4 (by omega) hall)
    have hen' := Lib.hid (show newE m l = (0, 0) by rw [hen, checksE_at h4])
    rw [checksE_at h4] at hck
    have hmg := Lib.hid (fun w1 (hR : Rd w1 3 (.slice a0 l.length c0) l.length (flat encEd l)) => merge_any hR (by omega) (fun e he => by have := checkE_ok.1 (hall e he); rw [checkE_ok]; omega))
    have hmkR := make_run (P := Tryz.prog) 80 51 (.slice none 0 0) 24 Tryz.underlying80 infoRow rfl (by omega) m (by omega)
    have hmkD := make_run (P := Tryz.prog) 33 2 (.int .i64 0) 8 Tryz.underlying33 infoI64 rfl (by omega) m (by omega)
    have hmkR' := Lib.hid hmkR
    have hmkD' := Lib.hid hmkD
    clear hen h4 hall hmkR hmkD h1 h2 h3
    go_enter Tryz.func15, Tryz.ntmps15
    go_wp2_with fail
    refine hck.out.mono ?_
    rintro e w1 ⟨rfl, hm⟩
    try dsimp only
    have hm' := Lib.hid hm
    have hmg2 := Lib.hid (hmg.out w1 (h'.out.still hm))
    clear hm hck hmg
    go_wp2_with fail
    refine hmg2.out.mono ?_
    rintro e w2 ⟨a, c, rfl, hM⟩
    try dsimp only
    have hS2 := Lib.hid ((Sep.empty w).still hm'.out |>.add (P := Row 146 3 (merged l).length (.slice a (merged l).length c) (flat encEd (merged l))) hM.mod ⟨hM.own, rfl⟩ (fun b hb => hM.new b (by simpa using hb)))
    clear hM hm' hmg2
    have f1 : ESt w (((w2.alloc (.cells (madeCells #[.slice none 0 0] m) 51)).alloc (.cells (madeCells #[.int .i64 0] m) 2)).alloc (.cells #[.slice (some ⟨w2.heap.size, 0, none⟩) m m, .slice (some ⟨w2.heap.size + 1, 0, none⟩) m m, .slice a (merged l).length c, .int .i64 0] 169)).drew (w2.heap.size + 1 + 1) (w2.heap.size) (w2.heap.size + 1) m (.slice a (merged l).length c) 0 (List.replicate m (.slice none 0 0)) (nextsL m []) (degL m []) [Row 146 3 (merged l).length (.slice a (merged l).length c) (flat encEd (merged l))] := by
      have k1 := Has.new w2 (madeCells #[.slice none 0 0] m).toList 51
      have k2 := Has.new (w2.alloc (.cells (madeCells #[.slice none 0 0] m) 51)) (madeCells #[.int .i64 0] m).toList 2
      have k3 := Has.new ((w2.alloc (.cells (madeCells #[.slice none 0 0] m) 51)).alloc (.cells (madeCells #[.int .i64 0] m) 2)) [.slice (some ⟨w2.heap.size, 0, none⟩) m m, .slice (some ⟨w2.heap.size + 1, 0, none⟩) m m, .slice a (merged l).length c, .int .i64 0] 169
      simp only [Array.toArray_toList, World.size_alloc] at k1 k2 k3
      exact est_made hS2.out ((((Mod.refl _ _).alloc _).alloc _).alloc _).drew ((k1.alloc _).alloc _) (k2.alloc _) k3 (by omega) (by omega) (by omega) (by omega) (by omega) (by omega)
    have f2 : ESt w (((w2.alloc (.cells (madeCells #[.int .i64 0] m) 2)).alloc (.cells (madeCells #[.slice none 0 0] m) 51)).alloc (.cells #[.slice (some ⟨w2.heap.size + 1, 0, none⟩) m m, .slice (some ⟨w2.heap.size, 0, none⟩) m m, .slice a (merged l).length c, .int .i64 0] 169)).drew (w2.heap.size + 1 + 1) (w2.heap.size + 1) (w2.heap.size) m (.slice a (merged l).length c) 0 (List.replicate m (.slice none 0 0)) (nextsL m []) (degL m []) [Row 146 3 (merged l).length (.slice a (merged l).length c) (flat encEd (merged l))] := by
      have k1 := Has.new w2 (madeCells #[.int .i64 0] m).toList 2
      have k2 := Has.new (w2.alloc (.cells (madeCells #[.int .i64 0] m) 2)) (madeCells #[.slice none 0 0] m).toList 51
      have k3 := Has.new ((w2.alloc (.cells (madeCells #[.int .i64 0] m) 2)).alloc (.cells (madeCells #[.slice none 0 0] m) 51)) [.slice (some ⟨w2.heap.size + 1, 0, none⟩) m m, .slice (some ⟨w2.heap.size, 0, none⟩) m m, .slice a (merged l).length c, .int .i64 0] 169
      simp only [Array.toArray_toList, World.size_alloc] at k1 k2 k3
      exact est_made hS2.out ((((Mod.refl _ _).alloc _).alloc _).alloc _).drew (k2.alloc _) ((k1.alloc _).alloc _) k3 (by omega) (by omega) (by omega) (by omega) (by omega) (by omega)
    have f1' := Lib.hid f1
    have f2' := Lib.hid f2
    have hsz := Lib.hid (show w.heap.size ≤ w2.heap.size from hS2.out.mod.size)
    clear f1 f2 hS2
    go_upto_region 10 with fail
    have hmkR := hmkR'.out
    have hmkD := hmkD'.out
    clear hmkR' hmkD'
    go_region_law (fail)
    case' refine_3.refine_3.refine_3.refine_1.refine_1.refine_3.refine_3.refine_1.refine_3 =>
      have hE := f1'
      clear f1' f2' hmkR hmkD hsz
      generalize (((w2.alloc (.cells (madeCells #[.slice none 0 0] m) 51)).alloc (.cells (madeCells #[.int .i64 0] m) 2)).alloc (.cells #[.slice (some ⟨w2.heap.size, 0, none⟩) m m, .slice (some ⟨w2.heap.size + 1, 0, none⟩) m m, .slice a (merged l).length c, .int .i64 0] 169)).drew = wE at *
      generalize w2.heap.size + 1 + 1 = b at *
      generalize w2.heap.size + 1 = gd at *
      generalize w2.heap.size = gn at *
    case' refine_3.refine_3.refine_3.refine_2.refine_1.refine_1.refine_3.refine_3.refine_1.refine_3 =>
      have hE := f2'
      clear f1' f2' hmkR hmkD hsz
      generalize (((w2.alloc (.cells (madeCells #[.int .i64 0] m) 2)).alloc (.cells (madeCells #[.slice none 0 0] m) 51)).alloc (.cells #[.slice (some ⟨w2.heap.size + 1, 0, none⟩) m m, .slice (some ⟨w2.heap.size, 0, none⟩) m m, .slice a (merged l).length c, .int .i64 0] 169)).drew = wE at *
      generalize w2.heap.size + 1 + 1 = b at *
      generalize w2.heap.size + 1 = gn at *
      generalize w2.heap.size = gd at *
    all_goals
      obtain ⟨M, hMl⟩ : ∃ M, (merged l).length = M := ⟨_, rfl⟩
      rw [hMl] at hE ⊢
      have hMl' := Lib.hid hMl
      have hML : M ≤ 1048576 := by have := hG.out.len; omega
      clear hMl
      have hst : Hid (ESt w wE b gn gd m (.slice a M c) (total ((merged l).take 0)) (List.replicate m (.slice none 0 0)) (nextsL m ((merged l).take 0)) (degL m ((merged l).take 0)) [Row 146 3 M (.slice a M c) (flat encEd (merged l))]) := hE
      clear hE
      generalize hLL : merged l = L at *
      have hLL' := Lib.hid hLL
      clear hLL
      go_wp2_with fail
      go_loopw [49] (fun i wr => ∃ (k : Nat) (RS : List Value), k ≤ M ∧ i = .int .i64 k ∧ Hid (ESt w wr b gn gd m (.slice a M c) (total (L.take k)) RS (nextsL m (L.take k)) (degL m (L.take k)) [Row 146 3 M (.slice a M c) (flat encEd L)])) (fun i _ => M - (intOf i).toNat)
      case atStart => exact ⟨0, _, Nat.zero_le _, rfl, hst⟩
      case round =>
        clear hst
        obtain ⟨k, RS, hk, rfl, hst⟩ := hrel
        by_cases hlt : k < M
        · have hlt1 : (k : Int) < M := by omega
          have hkL : k < L.length := by rw [hMl'.out]; exact hlt
          obtain ⟨gr, rfl, hgr, _, q0, q1, q2⟩ := ed_row (L := L) (by rw [hMl'.out]; exact hst.out.restRow) hkL
          have hends := hG.out.ends L[k] (List.getElem_mem hkL)
          have hpos := hG.out.pos L[k] (List.getElem_mem hkL)
          have htk := total_take hG.out.pos k
          have htk1 := total_take hG.out.pos (k + 1)
          have htot := hG.out.tot
          have hts : total (L.take (k + 1)) = total (L.take k) + L[k].2.2 := by rw [take_step hkL, total_append]; simp [total]
          have hxs : nextsL m (L.take (k + 1)) = XSk (nextsL m (L.take k)) L[k].1 L[k].2.1 2 := by rw [take_step hkL, nextsL_snoc (e := L[k]) (by omega) (by omega) (by omega)]
          have hds : degL m (L.take (k + 1)) = DSk (degL m (L.take k)) L[k].1 L[k].2.1 L[k].2.2 2 := by rw [take_step hkL, degL_snoc (e := L[k]) (by omega) (by omega) (by omega)]
          have hb1 : ∀ x ∈ nextsL m (L.take k), x.length ≤ 4194304 := by
            intro x hx
            obtain ⟨v, _, rfl⟩ := List.mem_map.1 hx
            have := nexts_len (v := (v : Int)) (L := L.take k) (fun e he => (hG.out.ends e (List.mem_of_mem_take he)).2.1)
            rw [List.length_take] at this
            omega
          have hb2 : ∀ x ∈ degL m (L.take k), 0 ≤ x ∧ x ≤ 4503599627370496 := by
            intro x hx
            obtain ⟨v, _, rfl⟩ := List.mem_map.1 hx
            have := degree_le (v := (v : Int)) (L := L.take k) (fun e he => (hG.out.ends e (List.mem_of_mem_take he)).2.1) (fun e he => hG.out.pos e (List.mem_of_mem_take he))
            omega
          have hts' := Lib.hid hts
          have hxs' := Lib.hid hxs
          have hds' := Lib.hid hds
          have hsum : total (L.take k) + L[k].2.2 ≤ 2251799813685248 := by omega
          clear hts hxs hds htk1 htot
          generalize L[k] = e at *
          obtain ⟨eu, ev, ew⟩ := e
          simp only at q0 q1 q2 hends hpos hsum
          have hE1 := (hst.out.box [.int .i64 eu, .int .i64 ev, .int .i64 ew] 146).still (Mod.refl [] _).drew
          have hlk := Lib.hid (link_any hE1 hm4 eu ev ew ⟨by omega, by omega⟩ ⟨by omega, by omega⟩ (by omega) ⟨by omega, by omega⟩ hb1 hb2)
          have hfst := hE1.fst.1
          have c0 := hfst.cell 0 rfl
          have c1 := hfst.cell 1 rfl
          have c2 := hfst.cell 2 rfl
          generalize hW1 : (wr.alloc (.cells [.int .i64 eu, .int .i64 ev, .int .i64 ew].toArray 146)).drew = W1 at *
          have hW1' := Lib.hid hW1
          have hkk := Lib.hid hkL
          have ht0 := htk.1
          clear hst hE1 hfst hb1 hb2 hW1 hkL htk
          go_upto_region 14 with fail
          generalize wr.heap.size = eb at *
          have f0 := KC.one (L := [(⟨eb, 0, none⟩, .int .i64 eu), (⟨eb, 1, none⟩, .int .i64 ev), (⟨eb, 2, none⟩, .int .i64 ew)]) c0 (by simp)
          have f1 := KC.one (L := [(⟨eb, 0, none⟩, .int .i64 eu), (⟨eb, 1, none⟩, .int .i64 ev), (⟨eb, 2, none⟩, .int .i64 ew)]) c1 (by simp)
          have f2 := KC.one (L := [(⟨eb, 0, none⟩, .int .i64 eu), (⟨eb, 1, none⟩, .int .i64 ev), (⟨eb, 2, none⟩, .int .i64 ew)]) c2 (by simp)
          refine region_sched (G := KC [(⟨eb, 0, none⟩, .int .i64 eu), (⟨eb, 1, none⟩, .int .i64 ev), (⟨eb, 2, none⟩, .int .i64 ew)]) [([0,1,2,3],4)] [] (by kernel_rfl) (by kernel_rfl) (by kernel_rfl) rfl (KC.refl _) (KC.trans _) ?_
          simp only [stages, pickO, nthO, headO, List.cons_append, List.nil_append]
          try rw [hW1'.out]
          refine sched_step ?_
          repeat (go_big_quiet_step (fail))
          refine wpQuiet_nil ?_
          intro K hK
          rw [if_pos (by rfl)]
          go_simp
          refine hlk.out.mono ?_
          rintro e w3 ⟨rfl, RS', hE3⟩
          try dsimp only
          have hf3 := hE3.fst.1
          have d0 := hf3.cell 0 rfl
          have d1 := hf3.cell 1 rfl
          have d2 := hf3.cell 2 rfl
          refine hK.out _ _ (fun p hp _ => by
            simp only [List.mem_cons, List.mem_nil_iff, or_false] at hp
            rcases hp with rfl | rfl | rfl
            · exact d0
            · exact d1
            · exact d2) ?_
          clear hK K f0 f1 f2 c0 c1 c2 hlk d0 d1 hW1'
          have hcb := hE3.cells.1
          have b3 := hcb.cell 3 rfl
          have bl := hcb.lt
          have bz := hcb.free 3
          have el := hf3.lt
          have hE3' := Lib.hid hE3
          clear hcb hf3 hE3
          generalize total (L.take k) = tk at *
          refine sched_last ?_
          refine wpQuiet_nil ?_
          go_wp2_with fail
          go_still_tail 9, (by kernel_rfl)
          go_wp2_with fail
          go_roundw
          case rel => exact ⟨k + 1, RS', by omega, by go_num, Lib.hid (by
            rw [hts'.out, hxs'.out, hds'.out]
            exact ((hE3'.out.total (tk + ew)).unbox.still (Mod.refl [] _).drew))⟩
          case measure => simp [intOf]; omega
        · have hkM : k = M := by omega
          subst hkM
          have hst2 : Hid (ESt w wr b gn gd m (.slice a k c) (total L) RS (mixL m L 0) (degL m L) [Row 146 3 k (.slice a k c) (flat encEd L)]) := Lib.hid (by
            have := hst.out
            rw [← hMl'.out, List.take_length] at this
            rw [mix_zero, ← hMl'.out]
            exact this)
          clear hst hlt hk
          go_wp2_with fail
          go_loopw [69] (fun i wr => ∃ j : Nat, j ≤ m ∧ i = .int .i64 j ∧ Hid (ESt w wr b gn gd m (.slice a k c) (total L) RS (mixL m L j) (degL m L) [Row 146 3 k (.slice a k c) (flat encEd L)])) (fun i _ => m - (intOf i).toNat)
          case atStart => exact ⟨0, Nat.zero_le _, rfl, hst2⟩
          case round =>
            clear hst2
            obtain ⟨j, hj, rfl, hst⟩ := hrel
            by_cases hlt : j < m
            · have hlt1 : (j : Int) < m := by omega
              obtain ⟨ar, cr, x, r1, r2, hrow, hgo⟩ := hst.out.rowIn hlt
              have hx : x = nexts L (j : Int) := by
                unfold mixL at r2
                rw [List.getElem?_map, List.getElem?_range hlt] at r2
                simp only [Option.map_some, Option.some.injEq] at r2
                rw [← r2, if_neg (by omega)]
              have hxl : x.length ≤ 1048576 := by
                rw [hx]
                have := nexts_len (v := (j : Int)) (L := L) (fun e he => (hG.out.ends e he).2.1)
                have := hG.out.len
                omega
              have hs := Lib.hid (sortI_any hrow (by omega))
              have hnear : (x.mergeSort fun x y => decide (x ≤ y)) = near m L j := by
                rw [hx]
                refine near_same hG.out (List.mergeSort_perm _ _) ?_
                have := List.pairwise_mergeSort (le := fun (x y : Int) => decide (x ≤ y)) (fun a b c h1 h2 => by simp only [decide_eq_true_eq] at *; omega) (fun a b => by simp only [Bool.or_eq_true, decide_eq_true_eq]; omega) (nexts L (j : Int))
                exact List.Pairwise.imp (fun {a b} h => by simpa using h) this
              have hlen2 : (near m L j).length = x.length := by rw [← hnear, List.length_mergeSort]
              rw [hnear] at hs
              have hgo' := Lib.hid (fun w' h1 h2 => hgo w' (near m L j) hlen2 h1 h2)
              obtain ⟨kb, kgn, kgd, _, _, _⟩ := hst.out.cells
              have b0 := kb.cell 0 rfl
              have g0 := kgn.cell j r1
              have lb := kb.lt
              have lg := kgn.lt
              clear hx hrow hgo hnear hlen2 kb kgn kgd r1 r2 hst
              generalize hnn : near m L (j : Int) = nj at *
              have hnn' := Lib.hid hnn
              clear hnn
              go_wp2_with fail
              refine hs.out.mono ?_
              rintro e w4 ⟨rfl, ho, hm⟩
              try dsimp only
              have hE4 := Lib.hid (hgo'.out w4 ho hm)
              clear ho hm hs hgo'
              go_wp2_with fail
              go_roundw
              case rel => exact ⟨j + 1, by omega, by go_num, Lib.hid (by have := hE4.out; rw [← hnn'.out, mix_step hlt] at this; exact this)⟩
              case measure => simp [intOf]; omega
            · have hjm : j = m := by omega
              subst hjm
              have hfin : Hid (Sep w wr [NetP b j L]) := by
                have h5 := hst.out.sep
                rw [mix_all] at h5
                obtain ⟨F, p1, p2, p3⟩ := h5.out
                refine Lib.hid ⟨F, ⟨inferInstance, F, [], by simp, ⟨gn, gd, a, c, RS, hst.out.lr, ?_⟩, rfl, by simp⟩, p2, p3⟩
                rw [hMl'.out]
                exact p1
              clear hst
              go_wp2_with fail
              exact bodyPost_ret (v := .tuple #[.pointer (some ⟨b, 0, none⟩), .int .i64 0, .int .i64 0]) (by simp [results, Tryz.results15, go_sem]) rfl ⟨.inr ⟨hen'.out, b, rfl, by rw [hLL'.out]; exact hfin.out⟩⟩
  · have hen' := Lib.hid hen
    obtain ⟨r1, r2, hr⟩ : ∃ r1 r2, checksE n 0 l = (r1, r2) := ⟨_, _, rfl⟩
    rw [hr] at hck h4
    simp only at hck h4
    have hr' := Lib.hid hr
    have t1 : (r1 == 0) = false := by simpa using h4
    have h4' := Lib.hid h4
    clear hen hr h4
    go_enter Tryz.func15, Tryz.ntmps15
    go_wp2_with fail
    refine hck.out.mono ?_
    rintro e w1 ⟨rfl, hm⟩
    try dsimp only
    have hm' := Lib.hid hm
    clear hm hck
    go_wp2_with fail
    exact bodyPost_ret (v := .tuple #[.pointer none, .int .i64 r1, .int .i64 r2]) (by simp [results, Tryz.results15, go_sem]) rfl ⟨.inl ⟨by rw [hen'.out, hr'.out]; intro hh; exact h4'.out (Prod.mk.inj hh).1, by rw [hen'.out, hr'.out], hm'.out⟩⟩
end Edge
end Go.Proofs.YtjpfmkfikidgkaaGreat
