/- What the calls on the reference's arena do, part 3: Give. -/
import Derived.Test.YtmkbinbggiocaaaRef11b
set_option linter.unusedVariables false
set_option linter.unusedSimpArgs false
namespace Go.Proofs.Ytmkbinbggiocaaa
open Go.RowKit Arena
namespace Ref11
theorem nats_get {l : List Nat} {i : Nat} {x : Nat} (h : l[i]? = some x) : (nats l)[i]? = some (.int .i64 (x : Int)) := by simp [nats, h]
set_option maxHeartbeats 1000000 in
theorem give_old {w : World} {bx : Nat} {A : Ar Int} {F : List Nat} (H : At w bx A F) (ok : Ok A) (x : Int) (i : Nat) (l : List Nat) (he : A.free = i :: l) :
    Calls Try.prog 19 #[.pointer (some ⟨bx, 0, none⟩), .int .i64 x] w fun e w' => e = .returned (.agg #[.int .i64 i, .bool true]) ∧ Left w w' bx (A.give x).1 F := by
  obtain ⟨sx, si, sf, X, I, hs, hb, hx, hi, hf, d1, d2, d3, d4, d5, d6, d7, hF⟩ := H.out
  have e1 := hs.lx
  have e2 := hs.li
  have e3 := ok.fits
  have e4 := ok.most
  have hdead := (ok.dead i).2 (by rw [he]; simp)
  have hlt := (List.getElem?_eq_some_iff.1 hdead).1
  have hfl : A.free.length ≤ 1048576 := by
    have h1 := nodup_le A.cells.length A.free ok.nodup (fun i hi => (List.getElem?_eq_some_iff.1 ((ok.dead i).2 hi)).1)
    omega
  obtain ⟨gx, c1, rfl⟩ := row_form hx (i := i) (by omega)
  obtain ⟨gi, c2, rfl⟩ := row_form hi (i := i) (by omega)
  have hgx : gx ≠ bx := by simpa [Value.ownBlock] using d1
  have hgi : gi ≠ bx := by simpa [Value.ownBlock] using d2
  have hxi : gx ≠ gi := by simpa [Value.ownBlock] using fun e => d4 gx rfl (by simp [Value.ownBlock, e])
  obtain ⟨gf, of, cf, hsf, hcf, hcm⟩ : ∃ gf of cf, sf = .slice (some ⟨gf, of, none⟩) A.free.length cf ∧ A.free.length ≤ cf ∧ cf ≤ maxLen := by
    rcases hf.cases with ⟨_, h0, _⟩ | h
    · rw [he] at h0; simp at h0
    · exact h
  have hlf : A.free.length = l.length + 1 := by rw [he]; rfl
  obtain ⟨x0, hX⟩ : ∃ x0, X[i]? = some x0 := ⟨X[i], List.getElem?_eq_getElem (by omega)⟩
  have hI := hs.dead i hdead
  have h0 := hf
  rw [hsf] at h0
  have hf0 := h0.cell 0 (nats_get (show A.free[0]? = some i by rw [he]; rfl))
  rw [Nat.add_zero] at hf0
  have hfin : ∀ o' w1, (1 < A.free.length → o' = of + 1) → w1 = (((w.setCell ⟨bx, 3, none⟩ (.slice (some ⟨gf, o', none⟩) (A.free.length - 1) (cf - 1))).setCell ⟨gx, i, none⟩ (.int .i64 x)).setCell ⟨gi, i, none⟩ (.bool true)).alloc (.cells #[.int .i64 i, .bool true] 31) → Left w w1 bx (A.give x).1 F := by
    rintro o' _ ho rfl
    have mW : Mod [bx, gx, gi] w ((((w.setCell ⟨bx, 3, none⟩ (.slice (some ⟨gf, o', none⟩) (A.free.length - 1) (cf - 1))).setCell ⟨gx, i, none⟩ (.int .i64 x)).setCell ⟨gi, i, none⟩ (.bool true)).alloc (.cells #[.int .i64 i, .bool true] 31)) :=
      ((((Mod.refl _ _).setCell _ _ (fun _ => by simp)).setCell _ _ (fun _ => by simp)).setCell _ _ (fun _ => by simp)).alloc _
    refine ⟨F, ⟨.slice (some ⟨gx, 0, none⟩) (X.set i x).length c1, .slice (some ⟨gi, 0, none⟩) (I.set i true).length c2, .slice (some ⟨gf, o', none⟩) (A.free.length - 1) (cf - 1), X.set i x, I.set i true, ?_, ?_, ?_, ?_, ?_, by simpa [Value.ownBlock] using hgx, by simpa [Value.ownBlock] using hgi, ?_, ?_, ?_, ?_, fun g hg => Nat.lt_of_lt_of_le (d7 g (by rw [hsf]; exact hg)) mW.size, ?_⟩, mW.mono ?_, fun b hb => .inl hb⟩
    · have hnd := ok.nodup
      rw [he] at hnd
      refine ⟨by simp [Ar.give, he, e1], by simp [Ar.give, he, e2], fun j u hu => ?_, fun j hu => ?_⟩
      · simp only [Ar.give, he] at hu
        rcases get_set_some _ _ _ _ _ hu with ⟨rfl, hv, _⟩ | ⟨hne, hj⟩
        · simp at hv; subst hv; exact ⟨by rw [List.getElem?_set_self (by omega)], by rw [List.getElem?_set_self (by omega)]⟩
        · rw [List.getElem?_set_ne (Ne.symm hne), List.getElem?_set_ne (Ne.symm hne)]; exact hs.live j u hj
      · simp only [Ar.give, he] at hu
        rcases get_set_some _ _ _ _ _ hu with ⟨rfl, hv, _⟩ | ⟨hne, hj⟩
        · simp at hv
        · rw [List.getElem?_set_ne (Ne.symm hne)]; exact hs.dead j hj
    · have h := (((hb.set 3 (.slice (some ⟨gf, o', none⟩) (A.free.length - 1) (cf - 1))).other ⟨gx, i, none⟩ (.int .i64 x) (fun e => hgx e.symm)).other ⟨gi, i, none⟩ (.bool true) (fun e => hgi e.symm)).alloc (.cells #[.int .i64 i, .bool true] 31)
      simpa [Ar.give, he] using h
    · have h := ((own_other ((own_other hx ⟨bx, 3, none⟩ (.slice (some ⟨gf, o', none⟩) (A.free.length - 1) (cf - 1)) (by simpa [Value.ownBlock] using hgx)).stored i (.int .i64 x)).1 ⟨gi, i, none⟩ (.bool true) (by simpa [Value.ownBlock] using hxi)).alloc (.cells #[.int .i64 i, .bool true] 31))
      rw [show (ints X).set i (.int .i64 x) = ints (X.set i x) from by simp [ints, List.map_set]] at h
      rw [List.length_set]; exact h
    · have h := ((own_other (own_other hi ⟨bx, 3, none⟩ (.slice (some ⟨gf, o', none⟩) (A.free.length - 1) (cf - 1)) (by simpa [Value.ownBlock] using hgi)) ⟨gx, i, none⟩ (.int .i64 x) (by simpa [Value.ownBlock] using fun e => hxi e.symm)).stored i (.bool true)).1.alloc (.cells #[.int .i64 i, .bool true] 31)
      rw [show (bools I).set i (.bool true) = bools (I.set i true) from by simp [bools, List.map_set]] at h
      rw [List.length_set]; exact h
    · have h := (h0.tail 1 (by omega) o' (by intro hh; have := ho hh; omega)).keep mW (by
        intro g hg hh
        have hg' : sf.ownBlock = some g := by rw [hsf]; exact hg
        simp only [List.mem_cons, List.not_mem_nil, or_false] at hh
        rcases hh with rfl | rfl | rfl
        · exact d3 hg'
        · exact d5 _ rfl hg'
        · exact d6 _ rfl hg')
      have e : (nats A.free).drop (1 * 1) = nats (A.give x).1.free := by simp [Ar.give, he, nats]
      rw [e] at h
      have e' : A.free.length - 1 = (A.give x).1.free.length := by simp [Ar.give, he]
      rw [e'] at h ⊢
      exact h
    · rw [hsf] at d3; exact d3
    · intro g hg; simpa [Value.ownBlock] using fun e => d4 g hg (by simp [Value.ownBlock, e])
    · intro g hg; rw [hsf] at d5; exact d5 g hg
    · intro g hg; rw [hsf] at d6; exact d6 g hg
    · rw [hF, hsf]; simp [Value.ownBlock]
    · intro b hb
      rw [hF, hsf]
      simp only [List.mem_cons, List.not_mem_nil, or_false] at hb
      rcases hb with rfl | rfl | rfl <;> simp [Value.ownBlock]
  have hfin' := Lib.hid hfin
  have c0 := hb.cell 0 rfl
  have c1' := hb.cell 1 rfl
  have c2' := hb.cell 2 rfl
  have c3 := hb.cell 3 rfl
  rw [hsf] at c3
  have hfb := hb.free
  have hfx := hx.frozenAt i
  have hfi := hi.frozenAt i
  have hcx := row_at hx _ (ints_get hX)
  have hci := row_at hi _ (bools_get hI)
  have l1 := hb.lt
  have l2 : gx < w.heap.size := own_lt hx rfl
  have l3 : gi < w.heap.size := own_lt hi rfl
  have l4 : gf < w.heap.size := World.block_lt_of_cell? w _ hf0
  have hgx' : bx ≠ gx := fun e => hgx e.symm
  have hgi' : bx ≠ gi := fun e => hgi e.symm
  have hxi' : gi ≠ gx := fun e => hxi e.symm
  have hil : i < X.length := by omega
  have hil2 : i < I.length := by omega
  have hil3 : X.length ≤ 1048576 := by omega
  have hil4 : I.length ≤ 1048576 := by omega
  have hd : decide (0 < A.free.length) = true := by simp; omega
  have hp1 : 1 ≤ A.free.length := by omega
  have hcm' : cf ≤ 9223372036854775807 := by simpa [maxLen] using hcm
  have hfg : gf ≠ bx ∧ gf ≠ gx ∧ gf ≠ gi := by
    rw [hsf] at d3 d5 d6
    exact ⟨fun e => d3 (by simp [Value.ownBlock, e]), fun e => d5 gx rfl (by simp [Value.ownBlock, e]), fun e => d6 gi rfl (by simp [Value.ownBlock, e])⟩
  obtain ⟨n1, n2, n3⟩ := hfg
  have hlf' := Lib.hid hlf
  clear hfin hb hx hi hf h0 hs H d1 d2 d3 d4 d5 d6 d7 hF hsf hX hI he hlf e1 e2 e3 e4 hdead hlt hcm
  have hsl := slice_from (P := Try.prog) 36 3 1 (by kernel_rfl) (fun w => by kernel_rfl) gf of A.free.length cf 1 1 rfl hp1
  have hfin2 := hfin'.out (offAt cf 1 of 1) _ (fun h => by unfold offAt; rw [if_neg (by omega)]) rfl
  have hfin2' := Lib.hid hfin2
  clear hfin2 hcf
  go_enter Try.func19, Try.ntmps19
  go_wp2
  exact bodyPost_ret (v := .agg #[.int .i64 i, .bool true]) (by simp [results, Try.results19, go_sem]) rfl ⟨rfl, hfin2'.out⟩
set_option maxHeartbeats 1000000 in
theorem give_full {w : World} {bx : Nat} {A : Ar Int} {F : List Nat} (H : At w bx A F) (ok : Ok A) (x : Int) (he : A.free = []) (hr : A.room ≤ A.cells.length) :
    Calls Try.prog 19 #[.pointer (some ⟨bx, 0, none⟩), .int .i64 x] w fun e w' => e = .returned (.agg #[.int .i64 0, .bool false]) ∧ Mod [] w w' := by
  obtain ⟨sx, si, sf, X, I, hs, hb, hx, hi, hf, _⟩ := H.out
  have e1 := hs.lx
  obtain ⟨af, cf, hsf⟩ : ∃ af cf, sf = .slice af 0 cf := by
    rcases hf.cases with ⟨h, _⟩ | ⟨g, o, c, h, _⟩
    · exact ⟨none, 0, h⟩
    · exact ⟨_, c, by rw [h, he]; rfl⟩
  obtain ⟨ax, cx, rfl⟩ := row_slice hx
  have c0 := hb.cell 0 rfl
  have c1 := hb.cell 1 rfl
  have c3 := hb.cell 3 rfl
  have l1 := hb.lt
  rw [hsf] at c3
  have hd2 : decide (A.room ≤ X.length) = true := by simp; omega
  have hm : ∀ nq, Mod [] w ((w.drewN nq).alloc (.cells #[.int .i64 0, .bool false] 31)) := fun nq => ((Mod.refl _ _).drewN nq).alloc _
  have hm' := Lib.hid hm
  clear hm hb hx hi hf hs H hsf e1 hr he
  go_enter Try.func19, Try.ntmps19
  go_wp2
  go_quiet (fail)
  go_wp2
  exact bodyPost_ret (v := .agg #[.int .i64 0, .bool false]) (by simp [results, Try.results19, go_sem]) rfl ⟨rfl, ((((Mod.refl _ _).alloc _).drewN nq).setCell _ _ (by simp)).setCell _ _ (by simp)⟩
theorem slice_val {w : World} {e n : Nat} {v : Value} {xs : List Value} (h : w.ownsRow 0 e 1 v n xs) : ∃ a c, v = .slice a n c := by
  rcases h.2 with ⟨rfl, h0⟩ | ⟨g, cap, cur, rfl, _⟩
  · exact ⟨none, 0, by rw [h0]⟩
  · exact ⟨_, _, rfl⟩
set_option maxHeartbeats 1000000 in
theorem give_new {w : World} {bx : Nat} {A : Ar Int} {F : List Nat} (H : At w bx A F) (ok : Ok A) (x : Int) (he : A.free = []) (hr : A.cells.length < A.room) :
    Calls Try.prog 19 #[.pointer (some ⟨bx, 0, none⟩), .int .i64 x] w fun e w' => e = .returned (.agg #[.int .i64 A.cells.length, .bool true]) ∧ Left w w' bx (A.give x).1 F := by
  obtain ⟨sx, si, sf, X, I, hs, hb, hx, hi, hf, d1, d2, d3, d4, d5, d6, d7, hF⟩ := H.out
  have e1 := hs.lx
  have e2 := hs.li
  have e4 := ok.most
  obtain ⟨af, cf, hsf⟩ : ∃ af cf, sf = .slice af 0 cf := by
    rcases hf.cases with ⟨h, _⟩ | ⟨g, o, c, h, _⟩
    · exact ⟨none, 0, h⟩
    · exact ⟨_, c, by rw [h, he]; rfl⟩
  obtain ⟨ax, cx, hsx⟩ := slice_val hx
  obtain ⟨ai, ci, hsi⟩ := slice_val hi
  have hfin : ∀ w0 w1 w2 w3 (v1 v2 s0 s1 : Value), Mod [] w w0 → w.heap.size < w0.heap.size → Mod sx.ownBlock.toList w0 w1 → w1.ownsRow 0 3 1 v1 (X.length + 1) (ints X ++ [.int .i64 x]) → (v1.ownBlock = sx.ownBlock ∨ ∃ b, v1.ownBlock = some b ∧ w0.heap.size ≤ b) →
      Mod si.ownBlock.toList (w1.setCell ⟨bx, 1, none⟩ v1) w2 → w2.ownsRow 0 4 1 v2 (I.length + 1) (bools I ++ [.bool true]) → (v2.ownBlock = si.ownBlock ∨ ∃ b, v2.ownBlock = some b ∧ (w1.setCell ⟨bx, 1, none⟩ v1).heap.size ≤ b) →
      w3 = ((w2.setCell ⟨bx, 2, none⟩ v2).setCell ⟨w.heap.size, 0, none⟩ s0).setCell ⟨w.heap.size, 1, none⟩ s1 → Left w w3 bx (A.give x).1 F := by
    rintro w0 w1 w2 _ v1 v2 s0 s1 m0 hz m1 hr1 hv1 m2 hr2 hv2 rfl
    simp only [World.size_setCell] at hv2
    have lb := hb.lt
    have z1 := m1.size
    -- where the two rows lie
    have hsxl : ∀ g, sx.ownBlock = some g → g < w.heap.size := fun g hg => own_lt hx hg
    have hsil : ∀ g, si.ownBlock = some g → g < w.heap.size := fun g hg => own_lt hi hg
    have hv1b : v1.ownBlock ≠ some bx := by
      rcases hv1 with h | ⟨b, h, hle⟩
      · rw [h]; exact d1
      · rw [h]; intro e; injection e with e; omega
    have hv2b : v2.ownBlock ≠ some bx := by
      rcases hv2 with h | ⟨b, h, hle⟩
      · rw [h]; exact d2
      · rw [h]; intro e; injection e with e; omega
    have hv1s : v1.ownBlock ≠ some w.heap.size := by
      rcases hv1 with h | ⟨b, h, hle⟩
      · rw [h]; intro e; have := hsxl _ e; omega
      · rw [h]; intro e; injection e with e; omega
    have hv2s : v2.ownBlock ≠ some w.heap.size := by
      rcases hv2 with h | ⟨b, h, hle⟩
      · rw [h]; intro e; have := hsil _ e; omega
      · rw [h]; intro e; injection e with e; omega
    have hv1i : ∀ g, v1.ownBlock = some g → si.ownBlock ≠ some g := by
      intro g hg
      rcases hv1 with h | ⟨b, h, hle⟩
      · rw [h] at hg; exact d4 g hg
      · intro e; have := hsil _ e; rw [h] at hg; injection hg with hg; omega
    have hv12 : ∀ g, v1.ownBlock = some g → v2.ownBlock ≠ some g := by
      intro g hg e
      rcases hv2 with h | ⟨b, h, hle⟩
      · rw [h] at e; exact hv1i g hg e
      · have := own_lt hr1 hg; rw [h] at e; injection e with e; omega
    have hb1 := (hb.keep m0 (by simp)).keep m1 (by simpa using fun e => d1 e)
    have hb2 := (hb1.set 1 v1).keep m2 (by simpa using fun e => d2 e)
    have hr1' := own_keep (own_other hr1 ⟨bx, 1, none⟩ v1 hv1b) m2 (fun g hg hh => hv1i g hg (by simpa using hh))
    refine ⟨bx :: (v1.ownBlock.toList ++ v2.ownBlock.toList ++ sf.ownBlock.toList), ⟨v1, v2, sf, X ++ [x], I ++ [true], ?_, ?_, ?_, ?_, ?_, hv1b, hv2b, d3, hv12, ?_, ?_, fun g hg => Nat.lt_of_lt_of_le (d7 g hg) (by have := m0.size; have := m2.size; simp at this ⊢; omega), rfl⟩, ?_, ?_⟩
    · refine ⟨by simp [Ar.give, he, hr, e1], by simp [Ar.give, he, hr, e2], fun j u hu => ?_, fun j hu => ?_⟩
      · simp only [Ar.give, he, hr, if_true] at hu
        by_cases hj : j < A.cells.length
        · rw [List.getElem?_append_left hj] at hu
          rw [List.getElem?_append_left (by omega), List.getElem?_append_left (by omega)]
          exact hs.live j u hu
        · have hj' : j = A.cells.length := by
            have := (List.getElem?_eq_some_iff.1 hu).1
            simp at this; omega
          subst hj'
          rw [List.getElem?_append_right (Nat.le_refl _)] at hu
          rw [List.getElem?_append_right (by omega), List.getElem?_append_right (by omega), e1, e2]
          simp at hu
          simp [hu]
      · simp only [Ar.give, he, hr, if_true] at hu
        by_cases hj : j < A.cells.length
        · rw [List.getElem?_append_left hj] at hu
          rw [List.getElem?_append_left (by omega)]
          exact hs.dead j hu
        · have hj' : j = A.cells.length := by
            have := (List.getElem?_eq_some_iff.1 hu).1
            simp at this; omega
          subst hj'
          rw [List.getElem?_append_right (Nat.le_refl _)] at hu
          simp at hu
    · have h := ((hb2.set 2 v2).other ⟨w.heap.size, 0, none⟩ s0 (by simp; omega)).other ⟨w.heap.size, 1, none⟩ s1 (by simp; omega)
      simpa [Ar.give, he, hr] using h
    · have h := own_other (own_other (own_other hr1' ⟨bx, 2, none⟩ v2 hv1b) ⟨w.heap.size, 0, none⟩ s0 hv1s) ⟨w.heap.size, 1, none⟩ s1 hv1s
      simpa [ints] using h
    · have h := own_other (own_other (own_other hr2 ⟨bx, 2, none⟩ v2 hv2b) ⟨w.heap.size, 0, none⟩ s0 hv2s) ⟨w.heap.size, 1, none⟩ s1 hv2s
      simpa [bools] using h
    · have hz0 : (A.give x).1.free = [] := by simp [Ar.give, he, hr]
      rw [hz0, hsf]
      refine ⟨by simp [nats], ?_⟩
      rcases hf.2 with ⟨h, _⟩ | ⟨g, o, c, h, h1, h2, _⟩
      · rw [hsf] at h; injection h with h3 h4 h5; subst h3; subst h5; exact .inl ⟨rfl, rfl⟩
      · rw [hsf] at h; injection h with h3 h4 h5; subst h3; subst h5; exact .inr ⟨g, o, cf, rfl, Nat.zero_le _, h2, by simp [nats]⟩
    · intro g hg
      rcases hv1 with h | ⟨b, h, hle⟩
      · rw [h] at hg; exact d5 g hg
      · intro e; have := d7 _ e; rw [h] at hg; injection hg with hg; omega
    · intro g hg
      rcases hv2 with h | ⟨b, h, hle⟩
      · rw [h] at hg; exact d6 g hg
      · intro e; have := d7 _ e; rw [h] at hg; injection hg with hg; omega
    · refine (((((m0.of0.trans m1 ?_).setCell _ _ ?_).trans m2 ?_).setCell _ _ ?_).setCell _ _ (by simp)).setCell _ _ (by simp)
      · intro b hb' _; rw [hF]; simp only [Option.mem_toList] at hb'; simp [hb']
      · intro _; rw [hF]; simp
      · intro b hb' _; rw [hF]; simp only [Option.mem_toList] at hb'; simp [hb']
      · intro _; rw [hF]; simp
    · intro b hb'
      rw [hF]
      simp only [List.mem_cons, List.mem_append, Option.mem_toList] at hb' ⊢
      rcases hb' with rfl | ((hb' | hb') | hb')
      · exact .inl (.inl rfl)
      · rcases hv1 with h | ⟨b', h, hle⟩
        · rw [h] at hb'; exact .inl (.inr (.inl (.inl hb')))
        · rw [h] at hb'; injection hb' with e; exact .inr (by omega)
      · rcases hv2 with h | ⟨b', h, hle⟩
        · rw [h] at hb'; exact .inl (.inr (.inl (.inr hb')))
        · rw [h] at hb'; injection hb' with e; exact .inr (by omega)
      · exact .inl (.inr (.inr hb'))
  have c0 := hb.cell 0 rfl
  have c1 := hb.cell 1 rfl
  have c3 := hb.cell 3 rfl
  have l1 := hb.lt
  rw [hsf] at c3
  rw [hsx] at c1
  have hd2 : decide (A.room ≤ X.length) = false := by simp; omega
  have hXl : X.length < 1048576 := by have := ok.fits; omega
  have hIl : I.length < 1048576 := by have := ok.fits; omega
  have hfin' := Lib.hid hfin
  have hlX : A.cells.length = X.length := e1.symm
  rw [hlX]
  subst hsx
  subst hsi
  have d1' := Lib.hid d1
  have d2' := Lib.hid d2
  have d4' := Lib.hid d4
  have hslx : Hid (∀ g, (Value.slice ax X.length cx).ownBlock = some g → g < w.heap.size) := fun g hg => own_lt hx hg
  have hsli : Hid (∀ g, (Value.slice ai I.length ci).ownBlock = some g → g < w.heap.size) := fun g hg => own_lt hi hg
  clear hfin hs H e1 e2 e4 hr he d1 d2 d3 d4 d5 d6 d7 hF hf hlX hsf
  go_enter Try.func19, Try.ntmps19
  go_wp2
  go_quiet (fail)
  have m0 : Mod [] w ((w.alloc (.cells #[.int .i64 0, .bool false] 31)).drewN nq) := ((Mod.refl _ _).alloc _).drewN _
  have hs0 : Has ((w.alloc (.cells #[.int .i64 0, .bool false] 31)).drewN nq) w.heap.size [.int .i64 0, .bool false] 31 := (Has.new w [.int .i64 0, .bool false] 31).drewN nq
  go_wp2_with first
    | (at_builtin; (refine app_own rfl (.tmp 56) (.tmp 58) 36 3 _ 1 8 rfl Try.underlying36 infoI rfl (by omega) (by omega) (.slice ax X.length cx) X.length 1 (ints X) [.int .i64 x] rfl rfl (by simp) rfl (by simp [Value.oneCell']) (own_keep hx m0 (by simp)) (by omega) ?_); intro aA cA wA hownA hmA hvA;
        have hbA := (hb.keep m0 (by simp)).keep hmA (by simpa using fun e => d1'.out e); have hsA := hs0.keep hmA (by simpa using fun e => Nat.lt_irrefl _ (hslx.out _ e));
        have c1A := hbA.cell 1 rfl; have c2A := hbA.cell 2 rfl; have fA := hbA.free; have lA := hbA.lt; have sA := hsA.lt;
        have hiA := own_other (own_keep (own_keep hi m0 (by simp)) hmA (fun g hg hh => d4'.out g (by simpa using hh) hg)) ⟨bx, 1, none⟩ (.slice aA (X.length + 1) cA) d2'.out)
    | (at_builtin; (refine app_own rfl (.tmp 66) (.tmp 67) 39 4 _ 1 1 rfl Try.underlying39 infoB rfl (by omega) (by omega) (.slice ai I.length ci) I.length 1 (bools I) [.bool true] rfl rfl (by simp) rfl (by simp [Value.oneCell']) hiA (by omega) ?_); intro aB cB wB hownB hmB hvB;
        have hbB := (hbA.set 1 (.slice aA (X.length + 1) cA)).keep hmB (by simpa using fun e => d2'.out e); have hsB := (hsA.other ⟨bx, 1, none⟩ (.slice aA (X.length + 1) cA) (by simp; omega)).keep hmB (by simpa using fun e => Nat.lt_irrefl _ (hsli.out _ e));
        have c1B := hbB.cell 1 rfl; have c2B := hbB.cell 2 rfl; have fB := hbB.free; have lB := hbB.lt; have s0B := hsB.cell 0 rfl; have s1B := hsB.cell 1 rfl; have sfB := hsB.free; have sB := hsB.lt)
  exact bodyPost_ret (v := .agg #[.int .i64 X.length, .bool true]) (by simp [results, Try.results19, go_sem, s0B, s1B, Nat.ne_of_gt l1]) rfl ⟨rfl, hfin'.out _ _ _ _ _ _ _ _ m0 (by simp) hmA hownA hvA hmB hownB hvB rfl⟩
end Ref11
end Go.Proofs.Ytmkbinbggiocaaa
