/- The arcs of a graph are made: New. (Ahead of it: Merge. A graph is made: its parts; rows of numbers are sorted. A graph is made: New. What a graph tells. A graph's arcs as an object, and what it tells.) -/
import Derived.Test.YtjpfmkfikidgkaaGreatEdRow
import Derived.Test.YtjpfmkfikidgkaaGreatPairMap
import Derived.Test.YtjpfmkfikidgkaaGreatPosLaw
import Derived.Test.YtjpfmkfikidgkaaGreatTotLaw
import Derived.Test.YtjpfmkfikidgkaaGreatMerge2
import Derived.Test.YtjpfmkfikidgkaaGreatMerge3
import Derived.Test.YtjpfmkfikidgkaaGreatEnds
import Derived.Test.YtjpfmkfikidgkaaGreatShelf
import Derived.Test.YtjpfmkfikidgkaaGreatKit3
import Derived.Laws.EntriesVeiled
import Derived.Deep.Onto
import Derived.Test.YtjpfmkfikidgkaaGreatCsr4
import Derived.Test.YtjpfmkfikidgkaaGreatCsr2
import Derived.Test.YtjpfmkfikidgkaaGreatFork
import Derived.StillTailTactics
import Derived.Test.YtjpfmkfikidgkaaGreatStepApp
set_option linter.unusedVariables false
set_option linter.unusedSimpArgs false
namespace Go.Proofs.YtjpfmkfikidgkaaGreat
open Go.RowKit
namespace Edge
open PairMap
theorem upd_snoc {L : List Ed} {e : Ed} (h : posAt (key e) 0 L = none) : upd (fun q => posAt q 0 L) (key e) (L.length : Int) = fun q => posAt q 0 (L ++ [e]) := by
  funext q
  rw [pos_snoc]
  show (if q = key e then some (L.length : Int) else posAt q 0 L) = _
  by_cases c : q = key e
  · subst c
    rw [if_pos rfl, h]
    simp
  · rw [if_neg c]
    cases hq : posAt q 0 L with
    | none => simp only; rw [if_neg (fun hh => c hh.symm)]
    | some d => rfl
/-- What Merge holds behind k edges. -/
structure MSt (w wr : World) (bm : Nat) (l : List Ed) (k : Nat) (L : List Ed) (a : Option Addr) (c : Nat) : Prop where
  eq : soFar l k = L
  sep : ∃ n, n ≤ k ∧ Sep w wr [MapP bm n (fun q => posAt q 0 L), Row 146 3 L.length (.slice a L.length c) (flat encEd L)]
/-- What Merge answers. -/
structure MergeOut (l : List Ed) (w : World) (e : Ending) (w' : World) : Prop where
  mk ::
  out : ∃ a c, e = .returned (.tuple #[.slice a (merged l).length c, .bool true]) ∧ Made w w' 146 3 a (merged l).length c (flat encEd (merged l))
set_option maxRecDepth 100000 in
set_option maxHeartbeats 4000000 in
theorem merge_tot {l : List Ed} {v : Value} {w : World} (h : Rd w 3 v l.length (flat encEd l)) (hl : l.length ≤ 1048576) (hw : ∀ e ∈ l, 0 ≤ e.1 ∧ e.1 < 4096 ∧ 0 ≤ e.2.1 ∧ e.2.1 < 4096 ∧ 0 ≤ e.2.2) (hT : total l ≤ 2251799813685248) :
    Calls Tryz.prog 101 #[v] w (MergeOut l w) := by
  obtain ⟨a0, c0, rfl⟩ := h.val
  have h' := Lib.hid h
  have hw' := Lib.hid hw
  obtain ⟨m, hm⟩ : ∃ m, l.length = m := ⟨_, rfl⟩
  rw [hm] at hl
  rw [hm]
  have hm' := Lib.hid hm
  clear h hw hm
  have hst := Lib.hid (show MSt w (w.alloc (.map #[] 0)) w.heap.size l 0 [] none 0 from ⟨by simp [soFar, ins], 0, Nat.le_refl _, by
    have h1 : Sep w w [Row 146 3 0 (.slice none 0 0) []] := (Sep.empty w).add (P := Row 146 3 0 (.slice none 0 0) []) (Mod.refl _ _) (F := []) ⟨World.ownsRow_nil w 0 _ 3, by simp [Value.ownBlock]⟩ (by simp)
    exact h1.add (P := MapP w.heap.size 0 (fun q => posAt q 0 [])) ((Mod.refl [] w).alloc _) (F := [w.heap.size]) ⟨Is.made w, rfl⟩ (by simp)⟩)
  have hmk : ∀ W : World, (Instr.makeMap 227 none).run Tryz.prog W = .ok (.map (some W.heap.size)) (W.alloc (.map #[] 0)) := fun W => run_makeMap _ W
  go_enter Tryz.func101, Tryz.ntmps101
  go_wp2_with fail
  generalize w.alloc (.map #[] 0) = w1 at *
  generalize w.heap.size = bm at *
  go_loopw [5, 17] (fun s5 i wr => ∃ (k : Nat) (L : List Ed) (a : Option Addr) (c : Nat), k ≤ m ∧ i = .int .i64 k ∧ s5 = .slice a L.length c ∧ Hid (MSt w wr bm l k L a c)) (fun _ i _ => m - (intOf i).toNat)
  case atStart => exact ⟨0, [], none, 0, Nat.zero_le _, rfl, rfl, hst⟩
  case round =>
    clear hst
    obtain ⟨k, L, a, c, hk, rfl, rfl, hst⟩ := hrel
    by_cases hlt : k < m
    · have hlt1 : (k : Int) < m := by omega
      have hkl : k < l.length := by rw [hm'.out]; exact hlt
      obtain ⟨n, hn, hS⟩ := hst.out.sep
      obtain ⟨g, o, rfl, hg, hcell⟩ := ed_cells h'.out hkl
      obtain ⟨q0, q1, q2⟩ := hcell _ hS.mod
      have hgl : g < wr.heap.size := Nat.lt_of_lt_of_le hg hS.mod.size
      have hck0 := hw'.out l[k] (List.getElem_mem hkl)
      have hckT := (tot_in (l := l) (fun e he => (hw'.out e he).2.2.2.2)).2 l[k] (List.getElem_mem hkl)
      have hck : 0 ≤ l[k].1 ∧ l[k].1 < 4096 ∧ 0 ≤ l[k].2.1 ∧ l[k].2.1 < 4096 ∧ 0 ≤ l[k].2.2 ∧ l[k].2.2 ≤ 2251799813685248 := ⟨hck0.1, hck0.2.1, hck0.2.2.1, hck0.2.2.2.1, hck0.2.2.2.2, by omega⟩
      clear hck0 hckT
      have hloop := Lib.hid (fun (hh : l[k].1 = l[k].2.1) => soFar_loop hkl hh)
      have hstep := Lib.hid (fun (hh : l[k].1 ≠ l[k].2.1) => soFar_step hkl hh)
      have hnl := Lib.hid (fun (hh : l[k].1 ≠ l[k].2.1) => norm_ends (e := l[k]) hh)
      have hnw := Lib.hid (norm_w l[k])
      generalize l[k] = x at *
      obtain ⟨xu, xv, xw⟩ := x
      simp only at q0 q1 q2 hck
      have hno := fun W => normal_any (xu, xv, xw) W
      generalize hen : norm (xu, xv, xw) = e at *
      obtain ⟨eu, ev, ew⟩ := e
      unfold edV at hno
      simp only at hno
      have hno' := Lib.hid hno
      have hS1 := Lib.hid (hS.still ((Mod.refl [] wr).alloc (.cells #[.int .i64 xu, .int .i64 xv, .int .i64 xw] 146)))
      have heq := Lib.hid hst.out.eq
      clear hst hS hcell hno hkl
      by_cases hxx : xu = xv
      · have he : (eu, ev, ew) = ((xu, xv, xw) : Ed) := by rw [← hen]; unfold norm; rw [if_neg (by simp only; omega)]
        simp only [Prod.mk.injEq] at he
        obtain ⟨rfl, rfl, rfl⟩ := he
        have hnx := Lib.hid (hloop.out hxx)
        subst hxx
        clear hen hloop hstep hnl hnw
        go_wp2_with fail
        refine (hno'.out _).mono ?_
        rintro e w2 ⟨rfl, hm2⟩
        try dsimp only
        have hS2 := Lib.hid (hS1.out.still (hm2.alloc (.cells #[.int .i64 eu, .int .i64 eu, .int .i64 ew] 146)))
        clear hm2 hS1
        go_wp2_with fail
        go_roundw
        case rel => exact ⟨k + 1, L, a, c, by omega, by go_num, rfl, Lib.hid ⟨by rw [hnx.out]; exact heq.out, n, by omega, hS2.out⟩⟩
        case measure => simp [intOf]; omega
      · obtain ⟨n1, n2, n3⟩ := hnl.out hxx
        simp only at n1 n2 n3
        have t1 : (eu == ev) = false := by simp; omega
        have hfit : fits (eu, ev) := ⟨by simp only; omega, by simp only; omega, by simp only; omega, by simp only; omega⟩
        have hst2 := Lib.hid (hstep.out hxx)
        have hnw' := Lib.hid hnw.out
        clear hen hloop hstep hnl hnw hxx n2 n3
        go_wp2_with fail
        refine (hno'.out _).mono ?_
        rintro e w2 ⟨rfl, hm2⟩
        try dsimp only
        have hS2 := (hS1.out.still hm2).box [.int .i64 eu, .int .i64 ev, .int .i64 ew] 146
        have hS3 := hS2.still ((Mod.refl [] _).alloc (.cells #[.int .i64 eu, .int .i64 ev] 109))
        have hS4 := Lib.hid hS3
        obtain ⟨F4, hF4, _⟩ := hS3.swap.first
        have hlk := hF4.1.look hfit
        simp only at hlk
        clear hm2 hS1 hS2 hF4 hS3
        cases hp : posAt (eu, ev) 0 L with
        | none =>
          rw [hp] at hlk
          simp only [Option.getD_none, Option.isSome_none] at hlk
          have hpn := Lib.hid hp
          clear hp
          have hLk : L.length ≤ k := by rw [← heq.out]; exact soFar_len l k
          have hnew := Lib.hid (pos_none (e := (eu, ev, ew)) hpn.out)
          go_wp2_with (first
            | (at_mapUpdate; refine wpList_put (w0 := w) rfl _ _ _ rfl bm n (fun q => posAt q 0 L) (eu, ev) L.length rfl rfl rfl hS4.out.swap (by omega) hfit (by omega) (by omega) ?_; intro w5 hS5; have hbe := hS5.swap.blk; have e0 := hbe.cell 0 rfl; have e1 := hbe.cell 1 rfl; have e2 := hbe.cell 2 rfl; have el := hbe.lt; have hS5' := Lib.hid (hS5.pick 2 (by simp)); clear hS5 hbe)
            | (at_builtin; refine app_own rfl (.tmp 45) (.tmp 47) 22 146 _ 3 24 rfl Tryz.underlying22 infoEd rfl (by omega) (by omega) (.slice a L.length c) L.length 1 (flat encEd L) (encEd (eu, ev, ew)) rfl rfl rfl rfl (by simp [encEd, Value.oneCell']) hS5'.out.row (by omega) ?_; intro a1 c1 w6 ho6 hm6 hb6; have hS6 := Lib.hid (hS5'.out.grow ho6 hm6 hb6); clear ho6 hm6 hb6))
          go_roundw
          case rel =>
            refine ⟨k + 1, L ++ [(eu, ev, ew)], a1, c1, by omega, by go_num, by simp, Lib.hid ⟨by rw [hst2.out, heq.out, hnew.out], n + 1, by omega, ?_⟩⟩
            have h6 := hS6.out.back2.second
            rw [show upd (fun q => posAt q 0 L) (eu, ev) (L.length : Int) = _ from upd_snoc (e := (eu, ev, ew)) hpn.out] at h6
            rw [flat_append, flat_one, List.length_append]
            exact h6
          case measure => simp [intOf]; omega
        | some i =>
          rw [hp] at hlk
          simp only [Option.getD_some, Option.isSome_some] at hlk
          obtain ⟨j, hj, rfl, hkj, hadd⟩ := pos_some (e := (eu, ev, ew)) hp
          rw [Nat.zero_add] at hlk
          have hbnd := soFar_le (l := l) (fun e he => (hw'.out e he).2.2.2.2) k L[j] (by rw [heq.out]; exact List.getElem_mem hj)
          have hj2 : (j : Int) < L.length := by omega
          have hrow := (hS4.out.pick 2 (by simp)).row
          obtain ⟨gr, rfl, hgr, hzr, _, _, r2⟩ := ed_row hrow hj
          have hsw := Lib.hid (flat_setw hj (L[j].2.2 + ew))
          have hpos : Hid (∀ q, posAt q 0 (L.set j (L[j].1, L[j].2.1, L[j].2.2 + ew)) = posAt q 0 L) := Lib.hid (fun q => pos_set (e := (L[j].1, L[j].2.1, L[j].2.2 + ew)) hj rfl)
          have hadd' := Lib.hid hadd
          have hew : ew ≤ 2251799813685248 := by have : ew = xw := hnw'.out; omega
          have hew0 : 0 ≤ ew := by have : ew = xw := hnw'.out; omega
          have hk3 : (k : Int) ≤ 1048576 := by omega
          have hsum : L[j].2.2 + ew ≤ 4611686018427387904 := by omega
          have hb0 := hbnd.1
          generalize L[j] = y at *
          obtain ⟨yu, yv, yw⟩ := y
          simp only at r2 hsum hb0
          have had := Lib.hid (fun W => add_any hb0 hew0 hsum W)
          clear hp hkj hadd hrow hbnd hew hnw'
          go_wp2_with fail
          go_quiet ((go_at_call 168; exact Calls.quiet_of_same (had.out _)))
          go_wp2_with fail
          go_roundw
          case rel =>
            refine ⟨k + 1, L.set j (yu, yv, yw + ew), some ⟨gr, 0, none⟩, c, by omega, by go_num, by rw [List.length_set], Lib.hid ⟨by rw [hst2.out, heq.out, hadd'.out], n, by omega, ?_⟩⟩
            have h6 := fun q => (((hS4.out.still ((Mod.refl [] _).drewN q)).pick 2 (by simp)).rowset (j * 3 + 2) (.int .i64 (yw + ew))).back2.tail
            rw [List.length_set, ← hsw.out, show (fun q => posAt q 0 (L.set j (yu, yv, yw + ew))) = fun q => posAt q 0 L from funext hpos.out]
            exact h6 _
          case measure => simp [intOf]; omega
    · have hkm : k = m := by omega
      subst hkm
      obtain ⟨n, hn, hS⟩ := hst.out.sep
      have heq := hst.out.eq
      rw [← hm'.out, soFar_all] at heq
      have hLk : L.length ≤ 1048576 := by
        have := soFar_len l l.length
        rw [soFar_all, heq] at this
        have := hm'.out
        omega
      have hd := Lib.hid (delete_any hS.tail hLk)
      have hap : Apart L := by rw [← heq]; exact (foldP (ins l) [] List.Pairwise.nil).1
      have hap2 : Apart (heavy L) := hap.sublist heavy_sub
      have hLk2 : (heavy L).length ≤ 1048576 := Nat.le_trans (List.length_filter_le _ _) hLk
      have hsort := Lib.hid (fun w1 hS1 => sort_any (w0 := w) (w := w1) (L := heavy L) (a := a) (c := c) (R := []) hS1 hap2 hLk2)
      have hsame := Lib.hid (fun M (hp : M.Perm (heavy L)) (hs : Rising M) => merge_same l (by unfold heavy at *; rw [heq]; exact hp) hs)
      clear hst hS heq hap hap2 hLk2 hLk hmk
      go_wp2_with fail
      refine hd.out.mono ?_
      rintro e w2 ⟨rfl, hS2⟩
      try dsimp only
      have hs2 := Lib.hid (hsort.out _ hS2)
      clear hS2 hd hsort
      go_wp2_with fail
      refine hs2.out.mono ?_
      rintro e w3 ⟨rfl, M, hp, hr, hS3⟩
      try dsimp only
      have hM := hsame.out M hp hr
      have hl2 := hp.length_eq
      rw [← hl2, hM] at hS3
      have hfin := Lib.hid hS3.toMade
      have hle := Lib.hid (show (heavy L).length = (merged l).length by rw [← hl2, hM])
      clear hp hr hS3 hM hl2 hs2 hsame
      go_wp2_with fail
      go_ret2
      rw [hle.out]
      exact ⟨a, c, rfl, hfin.out⟩
theorem merge_any {l : List Ed} {v : Value} {w : World} (h : Rd w 3 v l.length (flat encEd l)) (hl : l.length ≤ 1048576) (hw : ∀ e ∈ l, checkE 4096 e = 0) :
    Calls Tryz.prog 101 #[v] w (MergeOut l w) :=
  merge_tot h hl (fun e he => by have := checkE_ok.1 (hw e he); omega) (by
    have := (total_le (l := l) (fun e he => by have := checkE_ok.1 (hw e he); omega)).2
    omega)
end Edge
end Go.Proofs.YtjpfmkfikidgkaaGreat

set_option linter.unusedVariables false
set_option linter.unusedSimpArgs false
namespace Go.Proofs.YtjpfmkfikidgkaaGreat
open Go.RowKit
section
open Go.Sort
theorem putRow_map {α : Type} [Inhabited α] (enc : α → Value) (w : World) (g : Nat) (d : Array α) : putRow enc w g 0 d = putRow id w g 0 (d.map enc) := by
  unfold putRow
  refine mapBlock_congr _ _ _ _ (fun c e fr _ => ?_)
  unfold putCells
  apply Array.ext
  · simp
  · intro i h1 h2
    simp only [Array.getElem_mapIdx, Array.size_map, Nat.sub_zero]
    by_cases h : 0 ≤ i ∧ i < 0 + d.size
    · rw [if_pos h, if_pos h, getElem!_pos d i (by omega), getElem!_pos (d.map enc) i (by simp; omega)]
      simp
    · rw [if_neg h, if_neg h]
theorem own_holdsI {w : World} {e g c : Nat} {xs : List Int} (h : w.ownsRow 0 e 1 (.slice (some ⟨g, 0, none⟩) xs.length c) xs.length (i64s xs)) : Holds (Value.int .i64) w g 0 xs.toArray := by
  intro j hj
  simp only [List.size_toArray] at hj
  rw [Nat.zero_add, h.cellAt j (by omega), h.frozenAt j, i64s_get hj, getElem!_pos _ _ (by simpa using hj)]
  exact ⟨rfl, rfl⟩
/-- slices.Sort of numbers. -/
theorem sortI_any {w : World} {a : Option Addr} {c : Nat} {xs : List Int} (h : w.ownsRow 0 3 1 (.slice a xs.length c) xs.length (i64s xs)) (hl : xs.length ≤ 4294967296) :
    Calls Tryz.prog 103 #[.slice a xs.length c] w fun e w' => e = .returned (.tuple #[]) ∧ w'.ownsRow 0 3 1 (.slice a xs.length c) xs.length (i64s (xs.mergeSort fun x y => decide (x ≤ y))) ∧ Mod (Value.slice a xs.length c).ownBlock.toList w w' := by
  rcases Nat.eq_zero_or_pos xs.length with h0 | h0
  · have hx := List.eq_nil_of_length_eq_zero h0
    subst hx
    refine Calls.mono (show Calls Tryz.prog 103 _ _ _ from AnyM.slices_Sort_int_none Sh.sortI a c w) ?_
    rintro e w' ⟨rfl, rfl⟩
    exact ⟨rfl, by simpa using h, Mod.refl _ _⟩
  · obtain ⟨g, rfl, hg, _⟩ := row_form h h0
    refine Calls.mono (show Calls Tryz.prog 103 _ _ _ from AnyM.slices_Sort_int Sh.sortI g 0 c xs w (own_holdsI h) hg (by omega)) ?_
    rintro e w' ⟨rfl, n, os, rfl⟩
    rw [putRow_map]
    have := own_put (m := n) h ((xs.mergeSort fun x y => decide (x ≤ y)).toArray.map (Value.int .i64)) (by simp) os
    refine ⟨rfl, ?_, by simpa [Value.ownBlock] using this.2⟩
    have e1 : ((xs.mergeSort fun x y => decide (x ≤ y)).toArray.map (Value.int .i64)).toList = i64s (xs.mergeSort fun x y => decide (x ≤ y)) := by simp [i64s]
    rw [e1] at this
    exact this.1
end
namespace Edge
/-- A vertex's row whose numbers are set in another order. -/
theorem ESt.rowIn {w0 w : World} {b gn gd n : Nat} {vl : Value} {tot : Int} {RS : List Value} {XS : List (List Int)} {DS : List Int} {R : List Part} (h : ESt w0 w b gn gd n vl tot RS XS DS R) {v : Nat} (hv : v < n) :
    ∃ a c x, RS[v]? = some (.slice a x.length c) ∧ XS[v]? = some x ∧ w.ownsRow 0 3 1 (.slice a x.length c) x.length (i64s x) ∧
      (∀ (w' : World) (x1 : List Int), x1.length = x.length → w'.ownsRow 0 3 1 (.slice a x.length c) x.length (i64s x1) → Mod (Value.slice a x.length c).ownBlock.toList w w' → ESt w0 w' b gn gd n vl tot RS (XS.set v x1) DS R) := by
  have h1 : v < RS.length := by rw [h.lr]; exact hv
  have h2 : v < XS.length := by rw [h.lx]; exact hv
  have hi : 3 + v < (endsL b gn gd n vl tot RS XS DS R).length := by
    unfold endsL rowsP
    simp only [List.length_cons, List.length_append, List.length_zipWith]
    omega
  have hp := h.sep.pick (3 + v) hi
  have e : (endsL b gn gd n vl tot RS XS DS R)[3 + v] = Row 3 1 XS[v].length RS[v] (i64s XS[v]) := by
    unfold endsL rowsP
    simp only [Nat.add_comm 3 v, List.getElem_cons_succ]
    rw [List.getElem_append_left (by simp only [List.length_zipWith]; omega), List.getElem_zipWith]
  rw [e] at hp
  have ho := hp.row
  obtain ⟨a, c, hs⟩ : ∃ a c, RS[v] = .slice a XS[v].length c := by
    rcases ho.2 with ⟨he, h0⟩ | ⟨g, cap, cur, he, _⟩
    · exact ⟨none, 0, by rw [he, h0]⟩
    · exact ⟨_, _, he⟩
  rw [hs] at hp ho
  refine ⟨a, c, XS[v], by rw [List.getElem?_eq_getElem h1, hs], List.getElem?_eq_getElem h2, ho, fun w' x1 hl o1 m1 => ⟨?_, h.lr, by rw [List.length_set]; exact h.lx, h.ld⟩⟩
  have hg := (hp.grow o1 m1 (.inl rfl)).putBack hi
  rw [← hl, ← show RS[v] = .slice a x1.length c by rw [hs, hl]] at hg
  have e2 : (endsL b gn gd n vl tot RS XS DS R).set (3 + v) (Row 3 1 x1.length RS[v] (i64s x1)) = endsL b gn gd n vl tot RS (XS.set v x1) DS R := by
    unfold endsL
    rw [Nat.add_comm 3 v]
    simp only [List.set_cons_succ]
    rw [List.set_append_left _ _ (by unfold rowsP; simp only [List.length_zipWith]; omega), rowsP_set, List.set_getElem_self]
  rw [e2] at hg
  exact hg
def nextsL (n : Nat) (L : List Ed) : List (List Int) := (List.range n).map fun (v : Nat) => nexts L (v : Int)
def degL (n : Nat) (L : List Ed) : List Int := (List.range n).map fun (v : Nat) => degree L (v : Int)
def nearL (n : Nat) (L : List Ed) : List (List Int) := (List.range n).map fun (v : Nat) => near n L (v : Int)
theorem nextsL_snoc {n : Nat} {L : List Ed} {e : Ed} (hu : 0 ≤ e.1 ∧ e.1 < n) (hv : 0 ≤ e.2.1 ∧ e.2.1 < n) (huv : e.1 ≠ e.2.1) : XSk (nextsL n L) e.1 e.2.1 2 = nextsL n (L ++ [e]) := by
  unfold XSk nextsL
  apply List.ext_getElem
  · simp
  intro i h1 h2
  simp only [List.length_map, List.length_range, List.length_set] at h1 h2
  simp only [List.getElem_set, List.getElem_map, List.getElem_range, List.getD_eq_getElem?_getD, List.getElem?_set, List.length_map, List.length_range, List.getElem?_map, nexts_append, nexts]
  have a1 : e.1.toNat < n := by omega
  have a2 : e.2.1.toNat < n := by omega
  by_cases c1 : e.2.1.toNat = i
  · subst c1
    rw [if_pos rfl, if_neg (show ¬ e.1.toNat = e.2.1.toNat by omega), List.getElem?_range a2, if_neg (show ¬ e.1 = ((e.2.1.toNat : Nat) : Int) by omega), if_pos (show e.2.1 = ((e.2.1.toNat : Nat) : Int) by omega)]
    simp
  · rw [if_neg c1]
    by_cases c2 : e.1.toNat = i
    · subst c2
      rw [if_pos rfl, List.getElem?_range a1, if_pos (show e.1 = ((e.1.toNat : Nat) : Int) by omega), if_neg (show ¬ e.2.1 = ((e.1.toNat : Nat) : Int) by omega)]
      simp
    · rw [if_neg c2, if_neg (show ¬ e.1 = ((i : Nat) : Int) by omega), if_neg (show ¬ e.2.1 = ((i : Nat) : Int) by omega)]
      simp
theorem degL_snoc {n : Nat} {L : List Ed} {e : Ed} (hu : 0 ≤ e.1 ∧ e.1 < n) (hv : 0 ≤ e.2.1 ∧ e.2.1 < n) (huv : e.1 ≠ e.2.1) : DSk (degL n L) e.1 e.2.1 e.2.2 2 = degL n (L ++ [e]) := by
  unfold DSk degL
  apply List.ext_getElem
  · simp
  intro i h1 h2
  simp only [List.length_map, List.length_range, List.length_set] at h1 h2
  simp only [List.getElem_set, List.getElem_map, List.getElem_range, List.getD_eq_getElem?_getD, List.getElem?_set, List.length_map, List.length_range, List.getElem?_map, degree_append, degree]
  have a1 : e.1.toNat < n := by omega
  have a2 : e.2.1.toNat < n := by omega
  by_cases c1 : e.2.1.toNat = i
  · subst c1
    rw [if_pos rfl, if_neg (show ¬ e.1.toNat = e.2.1.toNat by omega), List.getElem?_range a2, if_neg (show ¬ e.1 = ((e.2.1.toNat : Nat) : Int) by omega), if_pos (show e.2.1 = ((e.2.1.toNat : Nat) : Int) by omega)]
    simp
  · rw [if_neg c1]
    by_cases c2 : e.1.toNat = i
    · subst c2
      rw [if_pos rfl, List.getElem?_range a1, if_pos (show e.1 = ((e.1.toNat : Nat) : Int) by omega), if_neg (show ¬ e.2.1 = ((e.1.toNat : Nat) : Int) by omega)]
      simp
    · rw [if_neg c2, if_neg (show ¬ e.1 = ((i : Nat) : Int) by omega), if_neg (show ¬ e.2.1 = ((i : Nat) : Int) by omega)]
      simp
/-- A graph, as an object. -/
def NetP (b n : Nat) (L : List Ed) : Part := fun w F => ∃ gn gd a c RS, RS.length = n ∧ Parts w (endsL b gn gd n (.slice a L.length c) (total L) RS (nearL n L) (degL n L) [Row 146 3 L.length (.slice a L.length c) (flat encEd L)]) F
instance (b n : Nat) (L : List Ed) : Good (NetP b n L) where
  lt h := by obtain ⟨_, _, _, _, _, _, h⟩ := h; exact h.lt
  keep h m hd := by obtain ⟨gn, gd, a, c, RS, h1, h⟩ := h; exact ⟨gn, gd, a, c, RS, h1, h.keep m hd⟩
end Edge
end Go.Proofs.YtjpfmkfikidgkaaGreat

set_option linter.unusedVariables false
set_option linter.unusedSimpArgs false
namespace Go.Proofs.YtjpfmkfikidgkaaGreat
open Go.RowKit
namespace Edge
theorem total_pos : ∀ {L : List Ed}, (∀ e ∈ L, 0 < e.2.2) → 0 ≤ total L
  | [], _ => Int.le_refl _
  | e :: l, h => by
    have h1 := h e (by simp)
    have h2 := total_pos (L := l) (fun x hx => h x (List.mem_cons_of_mem _ hx))
    simp only [total]; omega
theorem total_take {L : List Ed} (h : ∀ e ∈ L, 0 < e.2.2) (k : Nat) : 0 ≤ total (L.take k) ∧ total (L.take k) ≤ total L := by
  have e : total L = total (L.take k) + total (L.drop k) := by rw [← total_append, List.take_append_drop]
  have h1 := total_pos (L := L.take k) (fun x hx => h x (List.mem_of_mem_take hx))
  have h2 := total_pos (L := L.drop k) (fun x hx => h x (List.mem_of_mem_drop hx))
  omega
theorem take_step {L : List Ed} {k : Nat} (hk : k < L.length) : L.take (k + 1) = L.take k ++ [L[k]] := List.take_succ_eq_append_getElem hk
def mixL (n : Nat) (L : List Ed) (k : Nat) : List (List Int) := (List.range n).map fun (v : Nat) => if v < k then near n L (v : Int) else nexts L (v : Int)
theorem mix_zero (n : Nat) (L : List Ed) : mixL n L 0 = nextsL n L := by simp [mixL, nextsL]
theorem mix_all (n : Nat) (L : List Ed) : mixL n L n = nearL n L := by
  unfold mixL nearL
  apply List.map_congr_left
  intro v hv
  rw [List.mem_range] at hv
  rw [if_pos hv]
theorem mix_step {n : Nat} {L : List Ed} {k : Nat} (hk : k < n) : (mixL n L k).set k (near n L k) = mixL n L (k + 1) := by
  unfold mixL
  apply List.ext_getElem
  · simp
  intro i h1 h2
  simp only [List.getElem_set, List.getElem_map, List.getElem_range]
  by_cases e : k = i
  · subst e; rw [if_pos rfl, if_pos (by omega)]
  · rw [if_neg e]
    by_cases h : i < k
    · rw [if_pos h, if_pos (by omega)]
    · rw [if_neg h, if_neg (by omega)]
theorem ESt.restRow {w0 w : World} {b gn gd n : Nat} {vl : Value} {tot : Int} {RS : List Value} {XS : List (List Int)} {DS : List Int} {e size m : Nat} {v : Value} {xs : List Value} {R : List Part} (h : ESt w0 w b gn gd n vl tot RS XS DS (Row e size m v xs :: R)) : w.ownsRow 0 e size v m xs :=
  (h.sep.perm endsL_rest.symm).row
/-- What New answers. -/
structure NewOut (n : Int) (l : List Ed) (w : World) (e : Ending) (w' : World) : Prop where
  mk ::
  out : (newE n l ≠ (0, 0) ∧ e = .returned (.tuple #[.pointer none, .int .i64 (newE n l).1, .int .i64 (newE n l).2]) ∧ Mod [] w w') ∨
    (newE n l = (0, 0) ∧ ∃ b, e = .returned (.tuple #[.pointer (some ⟨b, 0, none⟩), .int .i64 0, .int .i64 0]) ∧ Sep w w' [NetP b n.toNat (merged l)])
theorem infoRow : (Tryz.prog.info? 51).map (fun i => (i.zero, i.size, i.bytes)) = some (some (.slice none 0 0), 1, 24) := by kernel_rfl
theorem infoI64 : (Tryz.prog.info? 2).map (fun i => (i.zero, i.size, i.bytes)) = some (some (.int .i64 0), 1, 8) := by kernel_rfl
theorem made_list (z : Value) (m : Nat) : madeCells #[z] m = (List.replicate m z).toArray := by
  have hl : (madeCells #[z] m).toList = List.replicate m z := by
    apply List.ext_getElem
    · simp [madeCells]
    · intro i h1 h2; simp [madeCells, Nat.mod_one]
  rw [← hl]
/-- The graph's head is laid. -/
theorem est_made {w0 w w' : World} {b gn gd n : Nat} {vl : Value} {R : List Part} (hS : Sep w0 w R) (m : Mod [] w w') (hgn : Has w' gn (madeCells #[.slice none 0 0] n).toList 51) (hgd : Has w' gd (madeCells #[.int .i64 0] n).toList 2)
    (hb : Has w' b [.slice (some ⟨gn, 0, none⟩) n n, .slice (some ⟨gd, 0, none⟩) n n, vl, .int .i64 0] 169) (l1 : w.heap.size ≤ gn) (l2 : w.heap.size ≤ gd) (l3 : w.heap.size ≤ b) (n1 : b ≠ gn) (n2 : b ≠ gd) (n3 : gn ≠ gd) :
    ESt w0 w' b gn gd n vl 0 (List.replicate n (.slice none 0 0)) (nextsL n []) (degL n []) R := by
  refine ⟨?_, by simp, by simp [nextsL], by simp [degL]⟩
  rw [made_list] at hgn hgd
  obtain ⟨F, h1, h2, h3⟩ := hS.out
  have hr : ∀ (k : Nat) (RS : List Value) (XS : List (List Int)), RS = List.replicate k (.slice none 0 0) → XS = List.replicate k [] → Parts w' (rowsP RS XS ++ R) F := by
    intro k
    induction k with
    | zero => rintro _ _ rfl rfl; exact h1.keep m (by simp)
    | succ k ih =>
      rintro _ _ rfl rfl
      refine ⟨inferInstance, [], F, rfl, ⟨World.ownsRow_nil _ _ _ _, by simp [Value.ownBlock]⟩, ih _ _ rfl rfl, by simp⟩
  have hrp := hr n (List.replicate n (.slice none 0 0)) (nextsL n []) rfl (by simp [nextsL, nexts, List.map_const'])
  have hFlt : ∀ x ∈ F, x < w.heap.size := h1.lt
  refine ⟨b :: gn :: gd :: F, ⟨inferInstance, [b], gn :: gd :: F, rfl, ⟨hb, rfl⟩, ⟨inferInstance, [gn], gd :: F, rfl, ⟨by simpa using hgn, rfl⟩, ⟨inferInstance, [gd], F, rfl, ⟨?_, rfl⟩, hrp, ?_⟩, ?_⟩, ?_⟩, h2.trans m (by simp), ?_⟩
  · have e : i64s (degL n []) = List.replicate n (.int .i64 0) := by simp [i64s, degL, degree, List.map_const']
    rw [e]
    simpa using hgd
  · intro x hx hx2
    rw [List.mem_singleton] at hx
    subst hx
    have := hFlt _ hx2
    omega
  · intro x hx hx2
    rw [List.mem_singleton] at hx
    subst hx
    rcases List.mem_cons.1 hx2 with h | h
    · exact n3 h
    · have := hFlt _ h; omega
  · intro x hx hx2
    rw [List.mem_singleton] at hx
    subst hx
    rcases List.mem_cons.1 hx2 with h | h
    · exact n1 h
    rcases List.mem_cons.1 h with h | h
    · exact n2 h
    · have := hFlt _ h; omega
  · have := h2.size
    intro x hx
    rcases List.mem_cons.1 hx with rfl | hx
    · omega
    rcases List.mem_cons.1 hx with rfl | hx
    · omega
    rcases List.mem_cons.1 hx with rfl | hx
    · omega
    · exact h3 x hx
set_option maxRecDepth 100000 in
set_option maxHeartbeats 4000000 in
theorem new_net (n : Int) {l : List Ed} {v : Value} {w : World} (h : Rd w 3 v l.length (flat encEd l)) :
    Calls Tryz.prog 15 #[.int .i64 n, v] w (NewOut n l w) := by
  obtain ⟨a0, c0, rfl⟩ := h.val
  have hle := h.le
  have h' := Lib.hid h
  clear h
  by_cases h1 : n < 0
  · have he := Lib.hid (show newE n l = (1, 0) by unfold newE; rw [if_pos h1])
    go_enter Tryz.func15, Tryz.ntmps15
    go_wp2_with fail
    exact bodyPost_ret (v := .tuple #[.pointer none, .int .i64 1, .int .i64 0]) (by simp [results, Tryz.results15, go_sem]) rfl ⟨.inl ⟨by rw [he.out]; simp, by rw [he.out], Mod.refl _ _⟩⟩
  by_cases h2 : 4096 < n
  · have he := Lib.hid (show newE n l = (3, 0) by unfold newE; rw [if_neg h1, if_pos (.inl h2)])
    go_enter Tryz.func15, Tryz.ntmps15
    go_wp2_with fail
    exact bodyPost_ret (v := .tuple #[.pointer none, .int .i64 3, .int .i64 0]) (by simp [results, Tryz.results15, go_sem]) rfl ⟨.inl ⟨by rw [he.out]; simp, by rw [he.out], Mod.refl _ _⟩⟩
  by_cases h3 : 1048576 < l.length
  · have he := Lib.hid (show newE n l = (3, 0) by unfold newE; rw [if_neg h1, if_pos (.inr h3)])
    have h3' : (1048576 : Int) < l.length := by omega
    go_enter Tryz.func15, Tryz.ntmps15
    go_wp2_with fail
    exact bodyPost_ret (v := .tuple #[.pointer none, .int .i64 3, .int .i64 0]) (by simp [results, Tryz.results15, go_sem]) rfl ⟨.inl ⟨by rw [he.out]; simp, by rw [he.out], Mod.refl _ _⟩⟩
  have hen : newE n l = checksE n 0 l := by unfold newE; rw [if_neg h1, if_neg (by omega)]
  have hck := Lib.hid (checks_any n h'.out)
  have h3' : ¬ (1048576 : Int) < l.length := by omega
  by_cases h4 : (checksE n 0 l).1 = 0
  · obtain ⟨m, rfl⟩ := Int.eq_ofNat_of_zero_le (show 0 ≤ n by omega)
    have hm4 : m ≤ 4096 := by omega
    have hall := checksE_ok.1 h4
    have hG := Lib.hid (merged_ok hm4 (by omega) hall)
    have hen' := Lib.hid (show newE m l = (0, 0) by rw [hen, checksE_at h4])
    rw [checksE_at h4] at hck
    have hmg := Lib.hid (fun w1 (hR : Rd w1 3 (.slice a0 l.length c0) l.length (flat encEd l)) => merge_any hR (by omega) (fun e he => by have := checkE_ok.1 (hall e he); rw [checkE_ok]; omega))
    have hmkR := make_run (P := Tryz.prog) 80 51 (.slice none 0 0) 24 Tryz.underlying80 infoRow rfl (by omega) m (by omega)
    have hmkD := make_run (P := Tryz.prog) 33 2 (.int .i64 0) 8 Tryz.underlying33 infoI64 rfl (by omega) m (by omega)
    have hmkR' := Lib.hid hmkR
    have hmkD' := Lib.hid hmkD
    clear hen h4 hall hmkR hmkD h1 h2 h3
    go_enter Tryz.func15, Tryz.ntmps15
    go_wp2_with fail
    refine hck.out.mono ?_
    rintro e w1 ⟨rfl, hm⟩
    try dsimp only
    have hm' := Lib.hid hm
    have hmg2 := Lib.hid (hmg.out w1 (h'.out.still hm))
    clear hm hck hmg
    go_wp2_with fail
    refine hmg2.out.mono ?_
    rintro e w2 ⟨a, c, rfl, hM⟩
    try dsimp only
    have hS2 := Lib.hid ((Sep.empty w).still hm'.out |>.add (P := Row 146 3 (merged l).length (.slice a (merged l).length c) (flat encEd (merged l))) hM.mod ⟨hM.own, rfl⟩ (fun b hb => hM.new b (by simpa using hb)))
    clear hM hm' hmg2
    have f1 : ESt w (((w2.alloc (.cells (madeCells #[.slice none 0 0] m) 51)).alloc (.cells (madeCells #[.int .i64 0] m) 2)).alloc (.cells #[.slice (some ⟨w2.heap.size, 0, none⟩) m m, .slice (some ⟨w2.heap.size + 1, 0, none⟩) m m, .slice a (merged l).length c, .int .i64 0] 169)).drew (w2.heap.size + 1 + 1) (w2.heap.size) (w2.heap.size + 1) m (.slice a (merged l).length c) 0 (List.replicate m (.slice none 0 0)) (nextsL m []) (degL m []) [Row 146 3 (merged l).length (.slice a (merged l).length c) (flat encEd (merged l))] := by
      have k1 := Has.new w2 (madeCells #[.slice none 0 0] m).toList 51
      have k2 := Has.new (w2.alloc (.cells (madeCells #[.slice none 0 0] m) 51)) (madeCells #[.int .i64 0] m).toList 2
      have k3 := Has.new ((w2.alloc (.cells (madeCells #[.slice none 0 0] m) 51)).alloc (.cells (madeCells #[.int .i64 0] m) 2)) [.slice (some ⟨w2.heap.size, 0, none⟩) m m, .slice (some ⟨w2.heap.size + 1, 0, none⟩) m m, .slice a (merged l).length c, .int .i64 0] 169
      simp only [Array.toArray_toList, World.size_alloc] at k1 k2 k3
      exact est_made hS2.out ((((Mod.refl _ _).alloc _).alloc _).alloc _).drew ((k1.alloc _).alloc _) (k2.alloc _) k3 (by omega) (by omega) (by omega) (by omega) (by omega) (by omega)
    have f2 : ESt w (((w2.alloc (.cells (madeCells #[.int .i64 0] m) 2)).alloc (.cells (madeCells #[.slice none 0 0] m) 51)).alloc (.cells #[.slice (some ⟨w2.heap.size + 1, 0, none⟩) m m, .slice (some ⟨w2.heap.size, 0, none⟩) m m, .slice a (merged l).length c, .int .i64 0] 169)).drew (w2.heap.size + 1 + 1) (w2.heap.size + 1) (w2.heap.size) m (.slice a (merged l).length c) 0 (List.replicate m (.slice none 0 0)) (nextsL m []) (degL m []) [Row 146 3 (merged l).length (.slice a (merged l).length c) (flat encEd (merged l))] := by
      have k1 := Has.new w2 (madeCells #[.int .i64 0] m).toList 2
      have k2 := Has.new (w2.alloc (.cells (madeCells #[.int .i64 0] m) 2)) (madeCells #[.slice none 0 0] m).toList 51
      have k3 := Has.new ((w2.alloc (.cells (madeCells #[.int .i64 0] m) 2)).alloc (.cells (madeCells #[.slice none 0 0] m) 51)) [.slice (some ⟨w2.heap.size + 1, 0, none⟩) m m, .slice (some ⟨w2.heap.size, 0, none⟩) m m, .slice a (merged l).length c, .int .i64 0] 169
      simp only [Array.toArray_toList, World.size_alloc] at k1 k2 k3
      exact est_made hS2.out ((((Mod.refl _ _).alloc _).alloc _).alloc _).drew (k2.alloc _) ((k1.alloc _).alloc _) k3 (by omega) (by omega) (by omega) (by omega) (by omega) (by omega)
    have f1' := Lib.hid f1
    have f2' := Lib.hid f2
    have hsz := Lib.hid (show w.heap.size ≤ w2.heap.size from hS2.out.mod.size)
    clear f1 f2 hS2
    go_upto_region 10 with fail
    have hmkR := hmkR'.out
    have hmkD := hmkD'.out
    clear hmkR' hmkD'
    go_region_law (fail)
    case' refine_3.refine_3.refine_3.refine_1.refine_1.refine_3.refine_3.refine_1.refine_3 =>
      have hE := f1'
      clear f1' f2' hmkR hmkD hsz
      generalize (((w2.alloc (.cells (madeCells #[.slice none 0 0] m) 51)).alloc (.cells (madeCells #[.int .i64 0] m) 2)).alloc (.cells #[.slice (some ⟨w2.heap.size, 0, none⟩) m m, .slice (some ⟨w2.heap.size + 1, 0, none⟩) m m, .slice a (merged l).length c, .int .i64 0] 169)).drew = wE at *
      generalize w2.heap.size + 1 + 1 = b at *
      generalize w2.heap.size + 1 = gd at *
      generalize w2.heap.size = gn at *
    case' refine_3.refine_3.refine_3.refine_2.refine_1.refine_1.refine_3.refine_3.refine_1.refine_3 =>
      have hE := f2'
      clear f1' f2' hmkR hmkD hsz
      generalize (((w2.alloc (.cells (madeCells #[.int .i64 0] m) 2)).alloc (.cells (madeCells #[.slice none 0 0] m) 51)).alloc (.cells #[.slice (some ⟨w2.heap.size + 1, 0, none⟩) m m, .slice (some ⟨w2.heap.size, 0, none⟩) m m, .slice a (merged l).length c, .int .i64 0] 169)).drew = wE at *
      generalize w2.heap.size + 1 + 1 = b at *
      generalize w2.heap.size + 1 = gn at *
      generalize w2.heap.size = gd at *
    all_goals
      obtain ⟨M, hMl⟩ : ∃ M, (merged l).length = M := ⟨_, rfl⟩
      rw [hMl] at hE ⊢
      have hMl' := Lib.hid hMl
      have hML : M ≤ 1048576 := by have := hG.out.len; omega
      clear hMl
      have hst : Hid (ESt w wE b gn gd m (.slice a M c) (total ((merged l).take 0)) (List.replicate m (.slice none 0 0)) (nextsL m ((merged l).take 0)) (degL m ((merged l).take 0)) [Row 146 3 M (.slice a M c) (flat encEd (merged l))]) := hE
      clear hE
      generalize hLL : merged l = L at *
      have hLL' := Lib.hid hLL
      clear hLL
      go_wp2_with fail
      go_loopw [49] (fun i wr => ∃ (k : Nat) (RS : List Value), k ≤ M ∧ i = .int .i64 k ∧ Hid (ESt w wr b gn gd m (.slice a M c) (total (L.take k)) RS (nextsL m (L.take k)) (degL m (L.take k)) [Row 146 3 M (.slice a M c) (flat encEd L)])) (fun i _ => M - (intOf i).toNat)
      case atStart => exact ⟨0, _, Nat.zero_le _, rfl, hst⟩
      case round =>
        clear hst
        obtain ⟨k, RS, hk, rfl, hst⟩ := hrel
        by_cases hlt : k < M
        · have hlt1 : (k : Int) < M := by omega
          have hkL : k < L.length := by rw [hMl'.out]; exact hlt
          obtain ⟨gr, rfl, hgr, _, q0, q1, q2⟩ := ed_row (L := L) (by rw [hMl'.out]; exact hst.out.restRow) hkL
          have hends := hG.out.ends L[k] (List.getElem_mem hkL)
          have hpos := hG.out.pos L[k] (List.getElem_mem hkL)
          have htk := total_take hG.out.pos k
          have htk1 := total_take hG.out.pos (k + 1)
          have htot := hG.out.tot
          have hts : total (L.take (k + 1)) = total (L.take k) + L[k].2.2 := by rw [take_step hkL, total_append]; simp [total]
          have hxs : nextsL m (L.take (k + 1)) = XSk (nextsL m (L.take k)) L[k].1 L[k].2.1 2 := by rw [take_step hkL, nextsL_snoc (e := L[k]) (by omega) (by omega) (by omega)]
          have hds : degL m (L.take (k + 1)) = DSk (degL m (L.take k)) L[k].1 L[k].2.1 L[k].2.2 2 := by rw [take_step hkL, degL_snoc (e := L[k]) (by omega) (by omega) (by omega)]
          have hb1 : ∀ x ∈ nextsL m (L.take k), x.length ≤ 4194304 := by
            intro x hx
            obtain ⟨v, _, rfl⟩ := List.mem_map.1 hx
            have := nexts_len (v := (v : Int)) (L := L.take k) (fun e he => (hG.out.ends e (List.mem_of_mem_take he)).2.1)
            rw [List.length_take] at this
            omega
          have hb2 : ∀ x ∈ degL m (L.take k), 0 ≤ x ∧ x ≤ 4503599627370496 := by
            intro x hx
            obtain ⟨v, _, rfl⟩ := List.mem_map.1 hx
            have := degree_le (v := (v : Int)) (L := L.take k) (fun e he => (hG.out.ends e (List.mem_of_mem_take he)).2.1) (fun e he => hG.out.pos e (List.mem_of_mem_take he))
            omega
          have hts' := Lib.hid hts
          have hxs' := Lib.hid hxs
          have hds' := Lib.hid hds
          have hsum : total (L.take k) + L[k].2.2 ≤ 2251799813685248 := by omega
          clear hts hxs hds htk1 htot
          generalize L[k] = e at *
          obtain ⟨eu, ev, ew⟩ := e
          simp only at q0 q1 q2 hends hpos hsum
          have hE1 := (hst.out.box [.int .i64 eu, .int .i64 ev, .int .i64 ew] 146).still (Mod.refl [] _).drew
          have hlk := Lib.hid (link_any hE1 hm4 eu ev ew ⟨by omega, by omega⟩ ⟨by omega, by omega⟩ (by omega) ⟨by omega, by omega⟩ hb1 hb2)
          have hfst := hE1.fst.1
          have c0 := hfst.cell 0 rfl
          have c1 := hfst.cell 1 rfl
          have c2 := hfst.cell 2 rfl
          generalize hW1 : (wr.alloc (.cells [.int .i64 eu, .int .i64 ev, .int .i64 ew].toArray 146)).drew = W1 at *
          have hW1' := Lib.hid hW1
          have hkk := Lib.hid hkL
          have ht0 := htk.1
          clear hst hE1 hfst hb1 hb2 hW1 hkL htk
          go_upto_region 14 with fail
          generalize wr.heap.size = eb at *
          have f0 := KC.one (L := [(⟨eb, 0, none⟩, .int .i64 eu), (⟨eb, 1, none⟩, .int .i64 ev), (⟨eb, 2, none⟩, .int .i64 ew)]) c0 (by simp)
          have f1 := KC.one (L := [(⟨eb, 0, none⟩, .int .i64 eu), (⟨eb, 1, none⟩, .int .i64 ev), (⟨eb, 2, none⟩, .int .i64 ew)]) c1 (by simp)
          have f2 := KC.one (L := [(⟨eb, 0, none⟩, .int .i64 eu), (⟨eb, 1, none⟩, .int .i64 ev), (⟨eb, 2, none⟩, .int .i64 ew)]) c2 (by simp)
          refine region_sched (G := KC [(⟨eb, 0, none⟩, .int .i64 eu), (⟨eb, 1, none⟩, .int .i64 ev), (⟨eb, 2, none⟩, .int .i64 ew)]) [([0,1,2,3],4)] [] (by kernel_rfl) (by kernel_rfl) (by kernel_rfl) rfl (KC.refl _) (KC.trans _) ?_
          simp only [stages, pickO, nthO, headO, List.cons_append, List.nil_append]
          try rw [hW1'.out]
          refine sched_step ?_
          repeat (go_big_quiet_step (fail))
          refine wpQuiet_nil ?_
          intro K hK
          rw [if_pos (by rfl)]
          go_simp
          refine hlk.out.mono ?_
          rintro e w3 ⟨rfl, RS', hE3⟩
          try dsimp only
          have hf3 := hE3.fst.1
          have d0 := hf3.cell 0 rfl
          have d1 := hf3.cell 1 rfl
          have d2 := hf3.cell 2 rfl
          refine hK.out _ _ (fun p hp _ => by
            simp only [List.mem_cons, List.mem_nil_iff, or_false] at hp
            rcases hp with rfl | rfl | rfl
            · exact d0
            · exact d1
            · exact d2) ?_
          clear hK K f0 f1 f2 c0 c1 c2 hlk d0 d1 hW1'
          have hcb := hE3.cells.1
          have b3 := hcb.cell 3 rfl
          have bl := hcb.lt
          have bz := hcb.free 3
          have el := hf3.lt
          have hE3' := Lib.hid hE3
          clear hcb hf3 hE3
          generalize total (L.take k) = tk at *
          refine sched_last ?_
          refine wpQuiet_nil ?_
          go_wp2_with fail
          go_still_tail 9, (by kernel_rfl)
          go_wp2_with fail
          go_roundw
          case rel => exact ⟨k + 1, RS', by omega, by go_num, Lib.hid (by
            rw [hts'.out, hxs'.out, hds'.out]
            exact ((hE3'.out.total (tk + ew)).unbox.still (Mod.refl [] _).drew))⟩
          case measure => simp [intOf]; omega
        · have hkM : k = M := by omega
          subst hkM
          have hst2 : Hid (ESt w wr b gn gd m (.slice a k c) (total L) RS (mixL m L 0) (degL m L) [Row 146 3 k (.slice a k c) (flat encEd L)]) := Lib.hid (by
            have := hst.out
            rw [← hMl'.out, List.take_length] at this
            rw [mix_zero, ← hMl'.out]
            exact this)
          clear hst hlt hk
          go_wp2_with fail
          go_loopw [69] (fun i wr => ∃ j : Nat, j ≤ m ∧ i = .int .i64 j ∧ Hid (ESt w wr b gn gd m (.slice a k c) (total L) RS (mixL m L j) (degL m L) [Row 146 3 k (.slice a k c) (flat encEd L)])) (fun i _ => m - (intOf i).toNat)
          case atStart => exact ⟨0, Nat.zero_le _, rfl, hst2⟩
          case round =>
            clear hst2
            obtain ⟨j, hj, rfl, hst⟩ := hrel
            by_cases hlt : j < m
            · have hlt1 : (j : Int) < m := by omega
              obtain ⟨ar, cr, x, r1, r2, hrow, hgo⟩ := hst.out.rowIn hlt
              have hx : x = nexts L (j : Int) := by
                unfold mixL at r2
                rw [List.getElem?_map, List.getElem?_range hlt] at r2
                simp only [Option.map_some, Option.some.injEq] at r2
                rw [← r2, if_neg (by omega)]
              have hxl : x.length ≤ 1048576 := by
                rw [hx]
                have := nexts_len (v := (j : Int)) (L := L) (fun e he => (hG.out.ends e he).2.1)
                have := hG.out.len
                omega
              have hs := Lib.hid (sortI_any hrow (by omega))
              have hnear : (x.mergeSort fun x y => decide (x ≤ y)) = near m L j := by
                rw [hx]
                refine near_same hG.out (List.mergeSort_perm _ _) ?_
                have := List.pairwise_mergeSort (le := fun (x y : Int) => decide (x ≤ y)) (fun a b c h1 h2 => by simp only [decide_eq_true_eq] at *; omega) (fun a b => by simp only [Bool.or_eq_true, decide_eq_true_eq]; omega) (nexts L (j : Int))
                exact List.Pairwise.imp (fun {a b} h => by simpa using h) this
              have hlen2 : (near m L j).length = x.length := by rw [← hnear, List.length_mergeSort]
              rw [hnear] at hs
              have hgo' := Lib.hid (fun w' h1 h2 => hgo w' (near m L j) hlen2 h1 h2)
              obtain ⟨kb, kgn, kgd, _, _, _⟩ := hst.out.cells
              have b0 := kb.cell 0 rfl
              have g0 := kgn.cell j r1
              have lb := kb.lt
              have lg := kgn.lt
              clear hx hrow hgo hnear hlen2 kb kgn kgd r1 r2 hst
              generalize hnn : near m L (j : Int) = nj at *
              have hnn' := Lib.hid hnn
              clear hnn
              go_wp2_with fail
              refine hs.out.mono ?_
              rintro e w4 ⟨rfl, ho, hm⟩
              try dsimp only
              have hE4 := Lib.hid (hgo'.out w4 ho hm)
              clear ho hm hs hgo'
              go_wp2_with fail
              go_roundw
              case rel => exact ⟨j + 1, by omega, by go_num, Lib.hid (by have := hE4.out; rw [← hnn'.out, mix_step hlt] at this; exact this)⟩
              case measure => simp [intOf]; omega
            · have hjm : j = m := by omega
              subst hjm
              have hfin : Hid (Sep w wr [NetP b j L]) := by
                have h5 := hst.out.sep
                rw [mix_all] at h5
                obtain ⟨F, p1, p2, p3⟩ := h5.out
                refine Lib.hid ⟨F, ⟨inferInstance, F, [], by simp, ⟨gn, gd, a, c, RS, hst.out.lr, ?_⟩, rfl, by simp⟩, p2, p3⟩
                rw [hMl'.out]
                exact p1
              clear hst
              go_wp2_with fail
              exact bodyPost_ret (v := .tuple #[.pointer (some ⟨b, 0, none⟩), .int .i64 0, .int .i64 0]) (by simp [results, Tryz.results15, go_sem]) rfl ⟨.inr ⟨hen'.out, b, rfl, by rw [hLL'.out]; exact hfin.out⟩⟩
  · have hen' := Lib.hid hen
    obtain ⟨r1, r2, hr⟩ : ∃ r1 r2, checksE n 0 l = (r1, r2) := ⟨_, _, rfl⟩
    rw [hr] at hck h4
    simp only at hck h4
    have hr' := Lib.hid hr
    have t1 : (r1 == 0) = false := by simpa using h4
    have h4' := Lib.hid h4
    clear hen hr h4
    go_enter Tryz.func15, Tryz.ntmps15
    go_wp2_with fail
    refine hck.out.mono ?_
    rintro e w1 ⟨rfl, hm⟩
    try dsimp only
    have hm' := Lib.hid hm
    clear hm hck
    go_wp2_with fail
    exact bodyPost_ret (v := .tuple #[.pointer none, .int .i64 r1, .int .i64 r2]) (by simp [results, Tryz.results15, go_sem]) rfl ⟨.inl ⟨by rw [hen'.out, hr'.out]; intro hh; exact h4'.out (Prod.mk.inj hh).1, by rw [hen'.out, hr'.out], hm'.out⟩⟩
end Edge
end Go.Proofs.YtjpfmkfikidgkaaGreat

set_option linter.unusedVariables false
set_option linter.unusedSimpArgs false
namespace Go.Proofs.YtjpfmkfikidgkaaGreat
open Go.RowKit
namespace Edge
theorem parts_at {w : World} : ∀ {L : List Part} {F : List Nat}, Parts w L F → ∀ (i : Nat) (P : Part), L[i]? = some P → ∃ F1, P w F1 ∧ ∀ b ∈ F1, b ∈ F
  | [], _, _, i, P, hi => by simp at hi
  | Q :: L, F, h, i, P, hi => by
    obtain ⟨_, F1, F2, rfl, h1, h2, _⟩ := h
    cases i with
    | zero =>
      simp only [List.getElem?_cons_zero, Option.some.injEq] at hi
      subst hi
      exact ⟨F1, h1, fun b hb => by simp [hb]⟩
    | succ i =>
      simp only [List.getElem?_cons_succ] at hi
      obtain ⟨F3, h3, h4⟩ := parts_at h2 i P hi
      exact ⟨F3, h3, fun b hb => by simp [h4 b hb]⟩
/-- What is read of a graph. -/
structure NetRd (w : World) (b n : Nat) (L : List Ed) (gn gd : Nat) (a : Option Addr) (c : Nat) : Prop where
  hb : Has w b [.slice (some ⟨gn, 0, none⟩) n n, .slice (some ⟨gd, 0, none⟩) n n, .slice a L.length c, .int .i64 (total L)] 169
  row : ∀ v : Nat, v < n → ∃ ar cr, w.cell? ⟨gn, v, none⟩ = some (.slice ar (near n L v).length cr) ∧ Reads w 1 (.slice ar (near n L v).length cr) (near n L v).length (i64s (near n L v))
  deg : ∀ v : Nat, v < n → w.cell? ⟨gd, v, none⟩ = some (.int .i64 (degree L v))
  eds : Rd w 3 (.slice a L.length c) L.length (flat encEd L)
  ln : gn < w.heap.size
  ld : gd < w.heap.size
theorem NetP.rd {w : World} {b n : Nat} {L : List Ed} {F : List Nat} (h : NetP b n L w F) : ∃ gn gd a c, NetRd w b n L gn gd a c := by
  obtain ⟨gn, gd, a, c, RS, hl, h⟩ := h
  have hz : (rowsP RS (nearL n L)).length = n := by unfold rowsP nearL; simp [hl]
  obtain ⟨_, ⟨k0, _⟩, _⟩ := parts_at h 0 _ rfl
  obtain ⟨_, ⟨k1, _⟩, _⟩ := parts_at h 1 _ rfl
  obtain ⟨_, ⟨k2, _⟩, _⟩ := parts_at h 2 _ rfl
  obtain ⟨_, ⟨k3, _⟩, _⟩ := parts_at h (n + 3) (Row 146 3 L.length (.slice a L.length c) (flat encEd L)) (by
    unfold endsL
    simp only [List.getElem?_cons_succ]
    rw [List.getElem?_append_right (by omega), hz]
    simp)
  refine ⟨gn, gd, a, c, k0, fun v hv => ?_, fun v hv => ?_, Rd.own k3, k1.lt, k2.lt⟩
  · have hr : (rowsP RS (nearL n L))[v]? = some (Row 3 1 (near n L v).length (RS[v]'(by omega)) (i64s (near n L v))) := by
      unfold rowsP nearL
      rw [List.getElem?_zipWith, List.getElem?_eq_getElem (show v < RS.length by omega), List.getElem?_map, List.getElem?_range hv]
      rfl
    obtain ⟨_, ⟨k4, _⟩, _⟩ := parts_at h (v + 3) (Row 3 1 (near n L v).length (RS[v]'(by omega)) (i64s (near n L v))) (by
      unfold endsL
      simp only [List.getElem?_cons_succ]
      rw [List.getElem?_append_left (by omega)]
      exact hr)
    obtain ⟨ar, cr, hs⟩ : ∃ ar cr, RS[v]'(by omega) = .slice ar (near n L v).length cr := by
      rcases k4.2 with ⟨he, h0⟩ | ⟨g, cap, cur, he, _⟩
      · exact ⟨none, 0, by rw [he, h0]⟩
      · exact ⟨_, _, he⟩
    rw [hs] at k4
    exact ⟨ar, cr, k1.cell v (by rw [List.getElem?_eq_getElem (show v < RS.length by omega), hs]), Reads.own k4⟩
  · exact k2.cell v (by simp [i64s, degL, hv])
theorem n_net {w : World} {b n : Nat} {L : List Ed} {F : List Nat} (h : NetP b n L w F) : Calls Tryz.prog 72 #[.pointer (some ⟨b, 0, none⟩)] w fun e w' => e = .returned (.int .i64 n) ∧ w' = w := by
  obtain ⟨gn, gd, a, c, hr⟩ := h.rd
  have b0 := hr.hb.cell 0 rfl
  have bl := hr.hb.lt
  clear h hr
  go_enter Tryz.func72, Tryz.ntmps72
  go_wp2
  go_ret
  exact ⟨rfl, rfl⟩
theorem m_net {w : World} {b n : Nat} {L : List Ed} {F : List Nat} (h : NetP b n L w F) : Calls Tryz.prog 73 #[.pointer (some ⟨b, 0, none⟩)] w fun e w' => e = .returned (.int .i64 L.length) ∧ w' = w := by
  obtain ⟨gn, gd, a, c, hr⟩ := h.rd
  have b0 := hr.hb.cell 2 rfl
  have bl := hr.hb.lt
  clear h hr
  go_enter Tryz.func73, Tryz.ntmps73
  go_wp2
  go_ret
  exact ⟨rfl, rfl⟩
theorem total_net {w : World} {b n : Nat} {L : List Ed} {F : List Nat} (h : NetP b n L w F) : Calls Tryz.prog 95 #[.pointer (some ⟨b, 0, none⟩)] w fun e w' => e = .returned (.int .i64 (total L)) ∧ w' = w := by
  obtain ⟨gn, gd, a, c, hr⟩ := h.rd
  have b0 := hr.hb.cell 3 rfl
  have bl := hr.hb.lt
  clear h hr
  go_enter Tryz.func95, Tryz.ntmps95
  go_wp2
  go_ret
  exact ⟨rfl, rfl⟩
theorem made_below {w w' : World} {e size n : Nat} {v' : Value} {xs : List Value} (ho : w'.ownsRow w.heap.size e size v' n xs) (hb : Below w.heap.size w w') : ∃ a c, v' = .slice a n c ∧ Made w w' e size a n c xs := by
  obtain ⟨a, c, rfl⟩ : ∃ a c, v' = .slice a n c := by
    rcases ho.2 with ⟨rfl, h0⟩ | ⟨g, cap, cur, rfl, _⟩
    · exact ⟨none, 0, by rw [h0]⟩
    · exact ⟨_, _, rfl⟩
  exact ⟨a, c, rfl, World.ownsRow.mono ho (Nat.zero_le _), Mod.ofBelow hb, fun b hb' => (ho.lt b hb').1⟩
/-- slices.Clone of numbers. -/
theorem cloneI_any {w : World} {a : Option Addr} {c : Nat} {xs : List Int} (h : Reads w 1 (.slice a xs.length c) xs.length (i64s xs)) (hl : xs.length ≤ 4294967296) :
    Calls Tryz.prog 149 #[.slice a xs.length c] w fun e w' => ∃ a' c', e = .returned (.slice a' xs.length c') ∧ Made w w' 3 1 a' xs.length c' (i64s xs) := by
  rcases h.cases with ⟨he, hn, hx⟩ | ⟨g, o, c', he, _, _⟩
  · injection he with e1 e2 e3
    subst e1
    subst e3
    have hx := List.eq_nil_of_length_eq_zero hn
    subst hx
    refine Calls.mono (show Calls Tryz.prog 149 _ _ _ from AnyE.slices_Clone_nil Sh.cloneI 0 0 w) ?_
    rintro e w' ⟨rfl, rfl⟩
    exact ⟨none, 0, rfl, World.ownsRow_nil _ _ _ _, Mod.refl _ _, by simp [Value.ownBlock]⟩
  · injection he with e1 e2 e3
    subst e1
    subst e3
    have hcon := AnyE.slices_Clone Sh.cloneI _ (.int .i64 0) 1 8 (Option.map_eq_some_iff.1 infoInt).choose_spec.1 (by have := (Option.map_eq_some_iff.1 infoInt).choose_spec.2; exact (Prod.mk.inj this).1) (by have := (Option.map_eq_some_iff.1 infoInt).choose_spec.2; exact (Prod.mk.inj (Prod.mk.inj this).2).1) (by have := (Option.map_eq_some_iff.1 infoInt).choose_spec.2; exact (Prod.mk.inj (Prod.mk.inj this).2).2) rfl (by omega) Tryz.sizeOf3 g o xs.length c (i64s xs) w (by rw [i64s_len]; omega) (by simp only [maxLen]; omega) (by omega) (fun j u hu => h.cell j hu) (i64s_one xs)
    refine Calls.mono (show Calls Tryz.prog 149 _ _ _ from hcon) ?_
    rintro e w' ⟨v', rfl, ho, hne, hb⟩
    obtain ⟨a', c', rfl, hm⟩ := made_below ho hb
    exact ⟨a', c', rfl, hm⟩
set_option maxHeartbeats 1000000 in
theorem near_net {w : World} {b n : Nat} {L : List Ed} {F : List Nat} (h : NetP b n L w F) (hG : GOk n L) (v : Int) : Calls Tryz.prog 141 #[.pointer (some ⟨b, 0, none⟩), .int .i64 v] w fun e w' => ∃ a c, e = .returned (.slice a (near n L v).length c) ∧ Made w w' 3 1 a (near n L v).length c (i64s (near n L v)) := by
  have hn := Lib.hid (n_net h)
  have hle := hG.le
  obtain ⟨gn, gd, a, c, hr⟩ := h.rd
  have b0 := hr.hb.cell 0 rfl
  have bl := hr.hb.lt
  have hd := hr.row v.toNat
  have ld := hr.ln
  have hout : Hid ((v < 0 ∨ n ≤ v) → near n L v = []) := Lib.hid (fun hh => by
    unfold near upto
    rw [List.filter_eq_nil_iff]
    intro u _
    rw [weight_out hG.ends (by omega)]
    simp)
  have hfit : Hid ((near n L v).length ≤ 4096) := Lib.hid (by
    unfold near upto
    refine Nat.le_trans (List.length_filter_le _ _) ?_
    simpa using hG.le)
  clear h hr hG
  have hnil : Hid (∀ w : World, (v < 0 ∨ n ≤ v) → ∃ a c, Ending.returned (.slice none 0 0) = .returned (.slice a (near n L v).length c) ∧ Made w w 3 1 a (near n L v).length c (i64s (near n L v))) := Lib.hid (fun w hh => by
    rw [hout.out hh]
    exact ⟨none, 0, rfl, World.ownsRow_nil _ _ _ _, Mod.refl _ _, by simp [Value.ownBlock]⟩)
  by_cases h0 : v < 0
  · clear hd hout
    go_enter Tryz.func141, Tryz.ntmps141
    go_wp2_with fail
    go_ret
    exact hnil.out _ (.inl h0)
  by_cases h1 : (n : Int) ≤ v
  · clear hd hout
    go_enter Tryz.func141, Tryz.ntmps141
    go_wp2_with (go_at_call 72; refine hn.out.mono ?_; rintro e w1 ⟨rfl, rfl⟩)
    go_ret
    exact hnil.out _ (.inr h1)
  · have h2 : 0 ≤ v := by omega
    have h3 : v < n := by omega
    obtain ⟨ar, cr, hd1, hd2⟩ := hd (by omega)
    rw [show ((v.toNat : Nat) : Int) = v by omega] at hd1 hd2
    have hcl := Lib.hid (cloneI_any hd2 (by have := hfit.out; omega))
    clear hout h0 hd hd2 hnil
    generalize near n L v = nv at *
    go_enter Tryz.func141, Tryz.ntmps141
    go_wp2_with (first
      | (go_at_call 72; refine hn.out.mono ?_; rintro e w1 ⟨rfl, rfl⟩)
      | (go_at_call 149; refine hcl.out.mono ?_; rintro e w1 ⟨a', c', rfl, hm⟩; have hm' := Lib.hid hm; clear hm))
    go_ret
    exact ⟨a', c', rfl, hm'.out⟩
end Edge
end Go.Proofs.YtjpfmkfikidgkaaGreat

set_option linter.unusedVariables false
set_option linter.unusedSimpArgs false
namespace Go.Proofs.YtjpfmkfikidgkaaGreat
open Go.RowKit
namespace Edge
/-- The arcs of a graph of n vertices and the edges L. -/
def ArcP (b n : Nat) (L : List Ed) : Part := fun w F => ∃ (gf go : Nat) (aa : Option Addr) (ca : Nat), Parts w
  [Blk b [.slice aa (2 * L.length) ca, .slice (some ⟨gf, 0, none⟩) (n + 1) (n + 1), .slice (some ⟨go, 0, none⟩) (2 * L.length) (2 * L.length)] 184,
   Row 198 2 (2 * L.length) (.slice aa (2 * L.length) ca) (flat encA (arcsL L)),
   Row 3 1 (n + 1) (.slice (some ⟨gf, 0, none⟩) (n + 1) (n + 1)) (i64s (fromL n (posF L))),
   Row 3 1 (2 * L.length) (.slice (some ⟨go, 0, none⟩) (2 * L.length) (2 * L.length)) (i64s (outL n L))] F
instance (b n : Nat) (L : List Ed) : Good (ArcP b n L) where
  lt h := by obtain ⟨_, _, _, _, h⟩ := h; exact h.lt
  keep h m hd := by obtain ⟨gf, go, aa, ca, h⟩ := h; exact ⟨gf, go, aa, ca, h.keep m hd⟩
/-- What is read of arcs. -/
structure ArcRd (w : World) (b n : Nat) (L : List Ed) (gf go : Nat) (aa : Option Addr) (ca : Nat) : Prop where
  hb : Has w b [.slice aa (2 * L.length) ca, .slice (some ⟨gf, 0, none⟩) (n + 1) (n + 1), .slice (some ⟨go, 0, none⟩) (2 * L.length) (2 * L.length)] 184
  all : w.ownsRow 0 198 2 (.slice aa (2 * L.length) ca) (2 * L.length) (flat encA (arcsL L))
  frm : w.ownsRow 0 3 1 (.slice (some ⟨gf, 0, none⟩) (n + 1) (n + 1)) (n + 1) (i64s (fromL n (posF L)))
  out : w.ownsRow 0 3 1 (.slice (some ⟨go, 0, none⟩) (2 * L.length) (2 * L.length)) (2 * L.length) (i64s (outL n L))
theorem ArcP.rd {w : World} {b n : Nat} {L : List Ed} {F : List Nat} (h : ArcP b n L w F) : ∃ gf go aa ca, ArcRd w b n L gf go aa ca := by
  obtain ⟨gf, go, aa, ca, h⟩ := h
  obtain ⟨_, ⟨k0, _⟩, _⟩ := parts_at h 0 _ rfl
  obtain ⟨_, ⟨k1, _⟩, _⟩ := parts_at h 1 _ rfl
  obtain ⟨_, ⟨k2, _⟩, _⟩ := parts_at h 2 _ rfl
  obtain ⟨_, ⟨k3, _⟩, _⟩ := parts_at h 3 _ rfl
  exact ⟨gf, go, aa, ca, k0, k1, k2, k3⟩
section
variable {w : World} {b n : Nat} {L : List Ed} {F : List Nat}
theorem an_p (h : ArcP b n L w F) (hG : GOk n L) : Calls Tryz.prog 105 #[.pointer (some ⟨b, 0, none⟩)] w fun e w' => e = .returned (.int .i64 n) ∧ w' = w := by
  obtain ⟨gf, go, aa, ca, hr⟩ := h.rd
  exact an_any hG.le hr.hb
theorem alen_p (h : ArcP b n L w F) : Calls Tryz.prog 24 #[.pointer (some ⟨b, 0, none⟩)] w fun e w' => e = .returned (.int .i64 ((2 * L.length : Nat) : Int)) ∧ w' = w := by
  obtain ⟨gf, go, aa, ca, hr⟩ := h.rd
  exact alen_any hr.hb
theorem ahead_p (h : ArcP b n L w F) (hG : GOk n L) (i : Int) : Calls Tryz.prog 39 #[.pointer (some ⟨b, 0, none⟩), .int .i64 i] w fun e w' => e = .returned (.int .i64 (headI L i)) ∧ w' = w := by
  obtain ⟨gf, go, aa, ca, hr⟩ := h.rd
  exact ahead_any hr.hb hr.all (arcsL_len L) (by have := hG.len; omega) i
theorem acap_p (h : ArcP b n L w F) (hG : GOk n L) (i : Int) : Calls Tryz.prog 106 #[.pointer (some ⟨b, 0, none⟩), .int .i64 i] w fun e w' => e = .returned (.int .i64 (capI L i)) ∧ w' = w := by
  obtain ⟨gf, go, aa, ca, hr⟩ := h.rd
  exact acap_any hr.hb hr.all (arcsL_len L) (by have := hG.len; omega) i
theorem atail_p (h : ArcP b n L w F) (hG : GOk n L) (i : Int) (hi : i ≤ 9223372036854775807) : Calls Tryz.prog 38 #[.pointer (some ⟨b, 0, none⟩), .int .i64 i] w fun e w' => e = .returned (.int .i64 (tailI L i)) ∧ w' = w := by
  obtain ⟨gf, go, aa, ca, hr⟩ := h.rd
  exact atail_any hr.hb hr.all (arcsL_len L) (by have := hG.len; omega) i hi
theorem win_rd {go v : Nat} (hG : GOk n L) (hv : v < n) (h : w.ownsRow 0 3 1 (.slice (some ⟨go, 0, none⟩) (2 * L.length) (2 * L.length)) (2 * L.length) (i64s (outL n L))) :
    Reads w 1 (.slice (some ⟨go, if cntE L v = 0 then 0 else posF L v, none⟩) (ints (ofS n L v)).length (cntE L v)) (ints (ofS n L v)).length (i64s (ints (ofS n L v))) := by
  have hl : (ints (ofS n L v)).length = cntE L v := by rw [ints_len, ofS_len hG]
  have h2 : cntE L v ≤ 2 * L.length := by
    have := posF_le hG (v := v + 1) (by omega)
    rw [posF_succ] at this; omega
  refine ⟨by rw [i64s_len]; omega, .inr ⟨go, _, cntE L v, rfl, by omega, by have := hG.len; simp only [maxLen]; omega, fun j u hu => ?_⟩⟩
  have hj : j < (ints (ofS n L v)).length := by
    have := (List.getElem?_eq_some_iff.1 hu).1
    rwa [i64s_len] at this
  rw [if_neg (by omega)]
  obtain ⟨A, B, e1, e2⟩ := outL_cut hG hv
  have hk : posF L v + j < 2 * L.length := by
    have := outL_len hG
    rw [e1] at this
    simp only [List.length_append] at this
    omega
  have := h.cellAt (posF L v + j) (by omega)
  rw [this, e1, i64s_append, i64s_append, List.append_assoc, List.getElem?_append_right (by rw [i64s_len]; omega), i64s_len, e2, Nat.add_sub_cancel_left, List.getElem?_append_left (by rw [i64s_len]; exact hj)]
  exact hu
set_option maxHeartbeats 1000000 in
theorem aout_p (h : ArcP b n L w F) (hG : GOk n L) (v : Int) : Calls Tryz.prog 75 #[.pointer (some ⟨b, 0, none⟩), .int .i64 v] w fun e w' => ∃ a c, e = .returned (.slice a (outI n L v).length c) ∧ Made w w' 3 1 a (outI n L v).length c (i64s (outI n L v)) := by
  have hn := Lib.hid (an_p h hG)
  have hn4 := hG.le
  by_cases hin : 0 ≤ v ∧ v < n
  · obtain ⟨k, rfl⟩ := Int.eq_ofNat_of_zero_le hin.1
    have hk : k < n := by omega
    have e : outI n L (k : Int) = ints (ofS n L k) := by unfold outI; rw [if_pos hin, Int.toNat_natCast]
    rw [e]
    obtain ⟨gf, go, aa, ca, hr⟩ := h.rd
    have hof := Lib.hid (aof_any hG rfl hk hr.hb hr.frm)
    have hrd := Lib.hid (fun W (m : Mod [] w W) => win_rd hG hk (own_keep hr.out m (by simp)))
    have hcl := Lib.hid (fun W (m : Mod [] w W) => cloneI_any (hrd.out W m) (by rw [ints_len, ofS_len hG]; have := ofU_le L (2 * L.length) k; have := hG.len; unfold cntE; omega))
    have hwv : winV go (posF L k) (cntE L k) = .slice (some ⟨go, if cntE L k = 0 then 0 else posF L k, none⟩) (ints (ofS n L k)).length (cntE L k) := by unfold winV; rw [ints_len, ofS_len hG]
    rw [hwv] at hof
    generalize Value.slice (some ⟨go, if cntE L k = 0 then 0 else posF L k, none⟩) (ints (ofS n L k)).length (cntE L k) = sv at *
    generalize ints (ofS n L k) = xs at *
    have hk1 : (k : Int) < n := by omega
    clear h hG hr hrd e hwv hin
    go_enter Tryz.func75, Tryz.ntmps75
    go_wp2_with (go_at_call 105; refine hn.out.mono ?_; rintro e w1 ⟨rfl, rfl⟩)
    refine hof.out.mono ?_
    rintro e w1 ⟨rfl, hm⟩
    have hcl2 := Lib.hid (hcl.out _ hm)
    have hm' := Lib.hid hm
    clear hm hcl
    try dsimp only
    go_wp2_with fail
    refine hcl2.out.mono ?_
    rintro e w2 ⟨a', c', rfl, hmd⟩
    have hmd' := Lib.hid (hmd.before hm'.out)
    clear hmd
    try dsimp only
    go_wp2_with fail
    go_ret
    exact ⟨a', c', rfl, hmd'.out⟩
  · have e : outI n L v = [] := by unfold outI; rw [if_neg hin]; rfl
    rw [e]
    have hfin : Hid (∃ a c, Ending.returned (.slice none 0 0) = .returned (.slice a ([] : List Int).length c) ∧ Made w w 3 1 a ([] : List Int).length c (i64s [])) := Lib.hid ⟨none, 0, rfl, World.ownsRow_nil _ _ _ _, Mod.refl _ _, by simp [Value.ownBlock]⟩
    by_cases h0 : v < 0
    · clear hin e hG h
      go_enter Tryz.func75, Tryz.ntmps75
      go_wp2_with fail
      go_ret
      exact hfin.out
    · have h1 : (n : Int) ≤ v := by omega
      clear hin e hG h
      go_enter Tryz.func75, Tryz.ntmps75
      go_wp2_with (go_at_call 105; refine hn.out.mono ?_; rintro e w1 ⟨rfl, rfl⟩)
      go_ret
      exact hfin.out
end
/-! Of nil there is nothing. -/
theorem an_nil (w : World) : Calls Tryz.prog 105 #[.pointer none] w fun e w' => e = .returned (.int .i64 0) ∧ w' = w := by
  go_enter Tryz.func105, Tryz.ntmps105
  go_wp2
  go_ret
  exact ⟨rfl, rfl⟩
theorem alen_nil (w : World) : Calls Tryz.prog 24 #[.pointer none] w fun e w' => e = .returned (.int .i64 0) ∧ w' = w := by
  go_enter Tryz.func24, Tryz.ntmps24
  go_wp2
  go_ret
  exact ⟨rfl, rfl⟩
theorem aout_nil (v : Int) (w : World) : Calls Tryz.prog 75 #[.pointer none, .int .i64 v] w fun e w' => e = .returned (.slice none 0 0) ∧ w' = w := by
  by_cases h0 : v < 0
  · go_enter Tryz.func75, Tryz.ntmps75
    go_wp2
    go_ret
    exact ⟨rfl, rfl⟩
  · have h1 : 0 ≤ v := by omega
    go_enter Tryz.func75, Tryz.ntmps75
    go_wp2_with (go_at_call 105; refine (an_nil _).mono ?_; rintro e w1 ⟨rfl, rfl⟩)
    go_ret
    exact ⟨rfl, rfl⟩
theorem ahead_nil (i : Int) (w : World) : Calls Tryz.prog 39 #[.pointer none, .int .i64 i] w fun e w' => e = .returned (.int .i64 (-1)) ∧ w' = w := by
  by_cases h0 : i < 0
  · go_enter Tryz.func39, Tryz.ntmps39
    go_wp2
    go_ret
    exact ⟨rfl, rfl⟩
  · have h1 : 0 ≤ i := by omega
    go_enter Tryz.func39, Tryz.ntmps39
    go_wp2_with (go_at_call 24; refine (alen_nil _).mono ?_; rintro e w1 ⟨rfl, rfl⟩)
    go_ret
    exact ⟨rfl, rfl⟩
theorem acap_nil (i : Int) (w : World) : Calls Tryz.prog 106 #[.pointer none, .int .i64 i] w fun e w' => e = .returned (.int .i64 0) ∧ w' = w := by
  by_cases h0 : i < 0
  · go_enter Tryz.func106, Tryz.ntmps106
    go_wp2
    go_ret
    exact ⟨rfl, rfl⟩
  · have h1 : 0 ≤ i := by omega
    go_enter Tryz.func106, Tryz.ntmps106
    go_wp2_with (go_at_call 24; refine (alen_nil _).mono ?_; rintro e w1 ⟨rfl, rfl⟩)
    go_ret
    exact ⟨rfl, rfl⟩
theorem atail_nil (i : Int) (hi : i ≤ 9223372036854775807) (w : World) : Calls Tryz.prog 38 #[.pointer none, .int .i64 i] w fun e w' => e = .returned (.int .i64 (-1)) ∧ w' = w := by
  have hbk := Lib.hid (back_any i hi w)
  have hh := Lib.hid (ahead_nil (backI i) w)
  go_enter Tryz.func38, Tryz.ntmps38
  go_wp2_with (first
    | (go_at_call 113; refine hbk.out.mono ?_; rintro e w1 ⟨rfl, rfl⟩)
    | (go_at_call 39; refine hh.out.mono ?_; rintro e w1 ⟨rfl, rfl⟩))
  go_ret
  exact ⟨rfl, rfl⟩
end Edge
end Go.Proofs.YtjpfmkfikidgkaaGreat

set_option linter.unusedVariables false
set_option linter.unusedSimpArgs false
namespace Go.Proofs.YtjpfmkfikidgkaaGreat
open Go.RowKit
namespace Edge
/-- Arcs that are being made: the variable, the object, the row of arcs, the row of beginnings; behind them others. -/
def newP (pa b gf : Nat) (va vo : Value) (n m : Nat) (xs : List (Int × Int)) (fs : List Int) (R : List Part) : List Part :=
  Blk pa [.pointer (some ⟨b, 0, none⟩)] 47 :: Blk b [va, .slice (some ⟨gf, 0, none⟩) (n + 1) (n + 1), vo] 184 :: Row 198 2 m va (flat encA xs) :: Row 3 1 (n + 1) (.slice (some ⟨gf, 0, none⟩) (n + 1) (n + 1)) (i64s fs) :: R
theorem arcsL_snoc {L : List Ed} {k : Nat} (hk : k < L.length) : flat encA (arcsL (L.take (k + 1))) = flat encA (arcsL (L.take k)) ++ [.int .i64 L[k].2.1, .int .i64 L[k].2.2, .int .i64 L[k].1, .int .i64 L[k].2.2] := by
  rw [take_step hk, arcsL_append, flat_append]
  simp [arcsL, flat, encA]
theorem infoI : (Tryz.prog.info? 3).map (fun i => (i.zero, i.size, i.bytes)) = some (some (.int .i64 0), 1, 8) := by kernel_rfl
theorem sep_wrap {goalP : World → Prop} {W0 Wx : World} {L : List Part} (h : Sep W0 Wx L) (hp : ∀ Wg, Sep W0 Wg L → goalP Wg) : goalP Wx := hp Wx h
theorem nilRow {w0 w : World} {L : List Part} (h : Sep w0 w L) (e size : Nat) : Sep w0 w (Row e size 0 (.slice none 0 0) [] :: L) :=
  h.add (P := Row e size 0 (.slice none 0 0) []) (Mod.refl _ _) (F := []) ⟨World.ownsRow_nil w 0 _ size, by simp [Value.ownBlock]⟩ (by simp)
theorem new_start (w : World) (L : List Ed) (n : Nat) (hn : n ≤ 4096) : Sep w (((w.alloc (.cells (madeCells #[.int .i64 0] (n + 1)) 3)).alloc (.cells #[.slice none 0 0, .slice (some ⟨w.heap.size, 0, none⟩) (n + 1) (n + 1), .slice none 0 0] 184)).alloc (.cells #[.pointer (some ⟨w.heap.size + 1, 0, none⟩)] 47))
    (newP (w.heap.size + 1 + 1) (w.heap.size + 1) w.heap.size (.slice none 0 0) (.slice none 0 0) n 0 [] (fromL n (cntF L 0)) []) := by
  have h1 := ((nilRow ((Sep.empty w).made (made_made w 3 (.int .i64 0) (n + 1) (by omega))) 198 2).box [.slice none 0 0, .slice (some ⟨w.heap.size, 0, none⟩) (n + 1) (n + 1), .slice none 0 0] 184).box [.pointer (some ⟨w.heap.size + 1, 0, none⟩)] 47
  simp only [World.size_alloc] at h1
  unfold newP
  rw [cntF_zero]
  have e : i64s (List.replicate (n + 1) 0) = List.replicate (n + 1) (.int .i64 0) := by simp [i64s]
  rw [e]
  exact h1
set_option maxRecDepth 100000 in
set_option maxHeartbeats 16000000 in
theorem acsr_new {w : World} {q : Option Addr} {n : Nat} {L : List Ed} (hG : GOk n L)
    (hN : ∀ W, Mod [] w W → Calls Tryz.prog 72 #[.pointer q] W fun e w' => e = .returned (.int .i64 n) ∧ w' = W)
    (hE : ∀ W, Mod [] w W → Calls Tryz.prog 92 #[.pointer q] W fun e w' => ∃ a c, e = .returned (.slice a L.length c) ∧ Made W w' 146 3 a L.length c (flat encEd L)) :
    Calls Tryz.prog 104 #[.pointer q] w fun e w' => ∃ b, e = .returned (.pointer (some ⟨b, 0, none⟩)) ∧ Sep w w' [ArcP b n L] := by
  have hn4 := hG.le
  have hl := hG.len
  have hN' := Lib.hid hN
  have hE' := Lib.hid hE
  have hG' := Lib.hid hG
  have hmk := make_run (P := Tryz.prog) 51 3 (.int .i64 0) 8 Tryz.underlying51 infoI rfl (by omega) (n + 1) (by omega)
  simp only [Int.natCast_add, Int.natCast_one] at hmk
  have hmk' := Lib.hid hmk
  clear hN hE hG hmk
  go_enter Tryz.func104, Tryz.ntmps104
  go_wp2_with fail
  refine (hN'.out _ (Mod.refl _ _)).mono ?_
  rintro e w1 ⟨rfl, hw1⟩
  subst w1
  have hmk := hmk'.out
  try dsimp only
  go_upto_region 2 with fail
  have hS := Lib.hid (new_start w L n (by omega))
  clear hmk hmk'
  generalize hW1 : (((w.alloc (.cells (madeCells #[.int .i64 0] (n + 1)) 3)).alloc (.cells #[.slice none 0 0, .slice (some ⟨w.heap.size, 0, none⟩) (n + 1) (n + 1), .slice none 0 0] 184)).alloc (.cells #[.pointer (some ⟨w.heap.size + 1, 0, none⟩)] 47)) = W1 at *
  clear hW1
  generalize w.heap.size + 1 + 1 = pa at *
  generalize w.heap.size + 1 = b at *
  generalize w.heap.size = gf at *
  go_wp2_with fail
  refine (hE'.out _ hS.out.mod).mono ?_
  rintro e w2 ⟨ae, ce, rfl, hm⟩
  have hS2 := Lib.hid (hS.out.made hm).rot
  clear hm hS hE'
  try dsimp only
  go_wp2_with fail
  go_loopw [21] (fun i wr => ∃ (k : Nat) (aa : Option Addr) (ca : Nat), k ≤ L.length ∧ i = .int .i64 k ∧ Hid (Sep w wr (newP pa b gf (.slice aa (2 * k) ca) (.slice none 0 0) n (2 * k) (arcsL (L.take k)) (fromL n (cntF L 0)) [Row 146 3 L.length (.slice ae L.length ce) (flat encEd L)]))) (fun i _ => L.length - (intOf i).toNat)
  case atStart => exact ⟨0, none, 0, Nat.zero_le _, rfl, hS2⟩
  case round =>
    clear hS2
    obtain ⟨k, aa, ca, hk, rfl, hS⟩ := hrel
    by_cases hlt : k < L.length
    · have hlt1 : (k : Int) < L.length := by omega
      obtain ⟨ge, rfl, hge, _, q0, q1, q2⟩ := ed_row (hS.out.rowAt 4 rfl) hlt
      have hsn := Lib.hid (arcsL_snoc hlt)
      have hlen := Lib.hid (show (flat encA (arcsL (L.take k))).length = 2 * k * 2 by rw [flat_length encA_len, arcsL_len, List.length_take]; omega)
      generalize L[k] = e at *
      obtain ⟨eu, ev, ew⟩ := e
      simp only at q0 q1 q2 hsn
      have hS1 := Lib.hid (hS.out.box [.int .i64 eu, .int .i64 ev, .int .i64 ew] 146)
      have hSt := Lib.hid (hS1.out.still (Mod.refl [] _).drew)
      have he := hS1.out.blkAt 0 rfl
      have hp := hS1.out.blkAt 1 rfl
      have hb := hS1.out.blkAt 2 rfl
      have hrow := Lib.hid (hSt.out.rowAt 3 rfl)
      have n1 := hS1.out.blkblk 1 2 (by omega) rfl rfl
      have n2 := hS1.out.blkblk 0 2 (by omega) rfl rfl
      have n3 := hS1.out.blkrow 0 3 (by omega) rfl rfl
      have n4 := hS1.out.blkrow 1 3 (by omega) rfl rfl
      generalize hWe : wr.alloc (.cells [.int .i64 eu, .int .i64 ev, .int .i64 ew].toArray 146) = We at *
      have hWe' := Lib.hid hWe
      obtain ⟨F, hF⟩ : ∃ F, F = b :: (Value.slice aa (2 * k) ca).ownBlock.toList := ⟨_, rfl⟩
      have hpF : pa ∉ F := by
        rw [hF, List.mem_cons, Option.mem_toList, not_or]
        exact ⟨n1, n4⟩
      have heF : wr.heap.size ∉ F := by
        rw [hF, List.mem_cons, Option.mem_toList, not_or]
        exact ⟨n2, n3⟩
      have hp' := Lib.hid hp
      have he' := Lib.hid he
      have hb' := Lib.hid hb
      have y1 : ∀ (o : Obj), (We.drew.alloc o).cell? ⟨b, 0, none⟩ = some (.slice aa (2 * k) ca) := fun o => (hb'.out.drew.alloc o).cell 0 rfl
      have y0 : We.drew.cell? ⟨b, 0, none⟩ = some (.slice aa (2 * k) ca) := hb'.out.drew.cell 0 rfl
      have yb := hb.cell 0 rfl
      have lb := hb.lt
      have lp := hp.lt
      have le := he.lt
      clear hS hp hb he n1 n2 n3 n4 hWe hS1
      go_upto_region 5 with fail
      rw [hWe'.out]
      clear hWe' q0 q1 q2 hge
      generalize wr.heap.size = eb at *
      have fp : ∀ m : Fut (Mod F) We.drew, m.v.cell? ⟨pa, 0, none⟩ = some (.pointer (some ⟨b, 0, none⟩)) := fun m => (hp'.out.drew.keep m.of hpF).cell 0 rfl
      have f0 : ∀ m : Fut (Mod F) We.drew, m.v.cell? ⟨eb, 0, none⟩ = some (.int .i64 eu) := fun m => (he'.out.drew.keep m.of heF).cell 0 rfl
      have f1 : ∀ m : Fut (Mod F) We.drew, m.v.cell? ⟨eb, 1, none⟩ = some (.int .i64 ev) := fun m => (he'.out.drew.keep m.of heF).cell 1 rfl
      have f2 : ∀ m : Fut (Mod F) We.drew, m.v.cell? ⟨eb, 2, none⟩ = some (.int .i64 ew) := fun m => (he'.out.drew.keep m.of heF).cell 2 rfl
      have hF' := Lib.hid hF
      clear hF hpF heF
      refine region_head (G := Mod F) [0, 1, 2, 3, 5, 6, 7, 8, 9, 10, 11, 12, 13, 14] #[true, true, true, true, false, true, true, true, true, true, true, true, true, true, true, false, false, false, false, false] 6 (by kernel_rfl) (by kernel_rfl) (by kernel_rfl) rfl (Mod.refl F) ?_
      simp only [pickO, nthO, List.cons_append, List.nil_append]
      repeat (go_big_quiet_step (fail))
      refine wpQuiet_nil ?_
      clear fp f0 f1 f2
      refine tail_two 4 15 (by kernel_rfl) rfl rfl ?_ ?_
      case' refine_1 =>
        intro K hK
        rw [if_pos (by rfl)]
        go_simp
        refine hK.out _ _ (Mod.refl _ _) ?_
        clear hK K
        refine tail_one 15 (by kernel_rfl) rfl ?_
        intro K hK
        rw [if_pos (by rfl)]
        go_simp
        refine hK.out _ _ ((Mod.refl _ _).alloc _) ?_
        clear hK K
      case' refine_2 =>
        intro K hK
        rw [if_pos (by rfl)]
        go_simp
        refine hK.out _ _ ((Mod.refl _ _).alloc _) ?_
        clear hK K
        refine tail_one 4 (by kernel_rfl) rfl ?_
        intro K hK
        rw [if_pos (by rfl)]
        go_simp
        refine hK.out _ _ ((Mod.refl _ _).alloc _) ?_
        clear hK K
      all_goals
        refine tail_one 16 (by kernel_rfl) rfl ?_
        intro K hK
        refine step_appS (W := We.drew) rfl (.tmp 29) (.tmp 40) 182 198 _ 2 16 rfl Tryz.underlying182 infoA rfl (by omega) (by omega) (.slice aa (2 * k) ca) (2 * k) 2 (flat encA (arcsL (L.take k))) [.int .i64 ev, .int .i64 ew, .int .i64 eu, .int .i64 ew] rfl rfl rfl rfl (by simp [Value.oneCell']) hrow.out (by omega) ?_
        intro a1 c1 w3 hown hm hv
        have hmF := Lib.hid (show Mod F We.drew w3 from hm.mono (fun g hg => by rw [hF'.out]; exact List.mem_cons_of_mem _ hg))
        refine hK.out _ _ hmF.out ?_
        clear hK K
        rw [← hsn.out] at hown
        have hS3 := Lib.hid (hSt.out.growAt 3 rfl hown hm hv)
        clear hown hm hv
        have hb3 := hS3.out.blkAt 2 rfl
        have gc := hb3.cell 0 rfl
        have gz := hb3.free 0
        have gl := hb3.lt
        clear hb3
        refine tail_one 17 (by kernel_rfl) rfl ?_
        intro K hK
        rw [if_pos (by rfl)]
        go_simp
        refine hK.out _ _ hmF.out ?_
        clear hK K
        refine tail_one 18 (by kernel_rfl) rfl ?_
        intro K hK
        rw [if_pos (by rfl)]
        go_simp
        refine hK.out _ _ hmF.out ?_
        clear hK K
        refine tail_one 19 (by kernel_rfl) rfl ?_
        intro K hK
        rw [if_pos (by rfl)]
        go_simp
        refine hK.out _ _ (hmF.out.setCell _ _ (fun _ => by rw [hF'.out]; simp)) ?_
        clear hK K
        refine tail_done (by kernel_rfl) ?_
        have hS4 := Lib.hid (hS3.out.setAt 2 rfl 0 (.slice a1 (2 * k + 2) c1)).tail
        clear hmF gc gz gl y1 y0 yb lb lp le hS3
        generalize w3.setCell ⟨b, 0, none⟩ (.slice a1 (2 * k + 2) c1) = w4 at *
        go_wp2_with fail
        go_roundw
        case rel => exact ⟨k + 1, a1, c1, by omega, by go_num, hS4⟩
        case measure => simp [intOf]; omega
    · have hkM : k = L.length := by omega
      have hS3 := Lib.hid (show Sep w wr (newP pa b gf (.slice aa (2 * L.length) ca) (.slice none 0 0) n (2 * L.length) (arcsL L) (fromL n (cntF L 0)) []) by
        have h5 := hS.out.dropAt 4 (by simp [newP])
        rw [hkM, List.take_length] at h5
        exact h5)
      clear hS hk hkM
      obtain ⟨m, hm⟩ : ∃ m, 2 * L.length = m := ⟨_, rfl⟩
      have hml : m ≤ 2097152 := by omega
      rw [hm] at hS3
      have hm' := Lib.hid hm
      have hma := Lib.hid (show (arcsL L).length = m by rw [arcsL_len, hm])
      clear hm
      obtain ⟨va, hva⟩ : ∃ va, va = Value.slice aa m ca := ⟨_, rfl⟩
      have hva' := Lib.hid hva
      have hS4 := hS3
      have p0 := (hS3.out.blkAt 0 rfl).cell 0 rfl
      have b0 := (hS3.out.blkAt 1 rfl).cell 0 rfl
      have lp := (hS3.out.blkAt 0 rfl).lt
      have lb := (hS3.out.blkAt 1 rfl).lt
      clear hS3 hva
      go_wp2_with fail
      clear p0 b0 lp lb hlt
      go_loopw [50] (fun i wr => ∃ k : Nat, k ≤ m ∧ i = .int .i64 k ∧ Hid (Sep w wr (newP pa b gf (.slice aa m ca) (.slice none 0 0) n m (arcsL L) (fromL n (cntF L k)) []))) (fun i _ => m - (intOf i).toNat)
      case atStart => exact ⟨0, Nat.zero_le _, rfl, hS4⟩
      case round =>
        clear hS4
        obtain ⟨k, hk, rfl, hS⟩ := hrel
        by_cases hlt : k < m
        · have hlt1 : (k : Int) < m := by omega
          have hkL : k < 2 * L.length := by rw [hm'.out]; exact hlt
          obtain ⟨t, ht⟩ : ∃ t : Nat, tailE L k = (t : Int) := ⟨(tailE L k).toNat, by have := tail_in hG'.out hkL; omega⟩
          have htn : t < n := by have := tail_in hG'.out hkL; omega
          have ct := Lib.hid (atail_any (hS.out.still (Mod.refl [] wr).drew |>.blkAt 1 rfl) (hS.out.still (Mod.refl [] wr).drew |>.rowAt 2 rfl) hma.out hml (k : Int) (by omega))
          rw [show tailI L (k : Int) = (t : Int) by unfold tailI; rw [if_neg (by omega), Int.toNat_natCast, ht]] at ct
          have hst := Lib.hid (cntF_step (n := n) ht)
          have hle := ofU_le L k t
          obtain ⟨c, hc⟩ : ∃ c, cntF L k (t + 1) = c := ⟨_, rfl⟩
          have hcl : c ≤ m := by rw [← hc]; unfold cntF; rw [if_neg (by omega), Nat.add_sub_cancel]; omega
          have c9 : wr.drew.cell? ⟨gf, t + 1, none⟩ = some (.int .i64 (c : Int)) := by
            have := (hS.out.rowAt 3 rfl).cellAt (t + 1) (by omega)
            rw [i64s_got (fromL_get (f := cntF L k) (show t + 1 ≤ n by omega)), hc] at this
            exact this
          have f9 : wr.drew.frozen? ⟨gf, t + 1, none⟩ = false := (hS.out.rowAt 3 rfl).frozenAt (t + 1)
          have l9 : gf < wr.drew.heap.size := own_lt (hS.out.rowAt 3 rfl) (g := gf) rfl
          have n1 : pa ≠ gf := fun e => hS.out.blkrow 0 3 (by omega) rfl rfl (by rw [e]; rfl)
          have n2 : b ≠ gf := fun e => hS.out.blkrow 1 3 (by omega) rfl rfl (by rw [e]; rfl)
          have hp' := Lib.hid (hS.out.blkAt 0 rfl)
          have hb' := Lib.hid (hS.out.blkAt 1 rfl)
          have hSn := Lib.hid (show Sep w (wr.setCell ⟨gf, t + 1, none⟩ (.int .i64 ((c : Int) + 1))).drew (newP pa b gf (.slice aa m ca) (.slice none 0 0) n m (arcsL L) (fromL n (cntF L (k + 1))) []) by
            have h5 := hS.out.rowsetAt 3 rfl (t + 1) (.int .i64 ((c : Int) + 1))
            rw [i64s_set, show ((c : Int) + 1) = ((cntF L k (t + 1) + 1 : Nat) : Int) by rw [hc]; rfl, hst.out] at h5
            rw [show ((c : Int) + 1) = ((cntF L k (t + 1) + 1 : Nat) : Int) by rw [hc]; rfl]
            exact h5.still (Mod.refl [] _).drew)
          have fp : ∀ m : Fut (Mod [gf]) wr.drew, m.v.cell? ⟨pa, 0, none⟩ = some (.pointer (some ⟨b, 0, none⟩)) := fun m => (hp'.out.drew.keep m.of (by simpa using n1)).cell 0 rfl
          have fb : ∀ m : Fut (Mod [gf]) wr.drew, m.v.cell? ⟨b, 1, none⟩ = some (.slice (some ⟨gf, 0, none⟩) (n + 1) (n + 1)) := fun m => (hb'.out.drew.keep m.of (by simpa using n2)).cell 1 rfl
          have ht1 : (t : Int) + 1 < (n : Int) + 1 := by omega
          clear hS ht hst hc hkL n1 n2 hp' hb' hle
          go_upto_region 10 with fail
          refine region_sched (G := Mod [gf]) [([0,1,2,3,4,5],6), ([7,8],9), ([10,11],12)] [] (by kernel_rfl) (by kernel_rfl) (by kernel_rfl) rfl (Mod.refl _) (fun _ _ _ h1 h2 => h1.trans h2 (fun b hb _ => hb)) ?_
          simp only [stages, pickO, nthO, headO, List.append_eq, List.cons_append, List.nil_append]
          refine sched_step ?_
          repeat (go_big_quiet_step (fail))
          refine wpQuiet_nil ?_
          intro K hK
          rw [if_pos (by rfl)]
          go_simp
          refine ct.out.mono ?_
          rintro e w5 ⟨rfl, hw5⟩
          subst w5
          try dsimp only
          refine hK.out _ _ (Mod.refl _ _) ?_
          clear hK K ct
          refine sched_step ?_
          repeat (go_big_quiet_step (fail))
          refine wpQuiet_nil ?_
          intro K hK
          rw [if_pos (by rfl)]
          go_simp
          refine hK.out _ _ (Mod.refl _ _) ?_
          clear hK K
          refine sched_step ?_
          repeat (go_big_quiet_step (fail))
          refine wpQuiet_nil ?_
          intro K hK
          rw [if_pos (by rfl)]
          go_simp
          refine hK.out _ _ ((Mod.refl _ _).setCell _ _ (fun _ => by simp)) ?_
          clear hK K fp fb c9 f9 l9
          refine sched_last ?_
          refine wpQuiet_nil ?_
          go_wp2_with fail
          go_roundw
          case rel => exact ⟨k + 1, by omega, by go_num, hSn⟩
          case measure => simp [intOf]; omega
        · have hkM : k = m := by omega
          have hS5 := Lib.hid (show Sep w wr (newP pa b gf (.slice aa m ca) (.slice none 0 0) n m (arcsL L) (fromL n (preF L 0)) []) by
            rw [← cntF_all, hm'.out, ← hkM]; exact hkM ▸ hS.out)
          clear hS hk hkM
          have hN3 := hN'.out
          go_wp2_with fail
          refine (hN'.out _ hS5.out.mod).mono ?_
          rintro e w5 ⟨rfl, hw5⟩
          subst w5
          try dsimp only
          clear hlt hN3
          go_wp2_with fail
          go_loopw [68] (fun i wr => ∃ j : Nat, j ≤ n ∧ i = .int .i64 j ∧ Hid (Sep w wr (newP pa b gf (.slice aa m ca) (.slice none 0 0) n m (arcsL L) (fromL n (preF L j)) []))) (fun i _ => n - (intOf i).toNat)
          case atStart => exact ⟨0, Nat.zero_le _, rfl, hS5⟩
          case round =>
            clear hS5
            obtain ⟨j, hj, rfl, hS⟩ := hrel
            by_cases hlt : j < n
            · have hlt1 : (j : Int) < n := by omega
              have hlt2 : (j : Int) + 1 < (n : Int) + 1 := by omega
              have hlt3 : (j : Int) < (n : Int) + 1 := by omega
              have hst := Lib.hid (preF_step (n := n) (L := L) (j := j))
              obtain ⟨c, hc⟩ : ∃ c, preF L j (j + 1) = c := ⟨_, rfl⟩
              obtain ⟨d, hd⟩ : ∃ d, preF L j j = d := ⟨_, rfl⟩
              have hcl : c ≤ m := by rw [← hc, ← hm'.out]; unfold preF; rw [if_neg (by omega), Nat.add_sub_cancel]; exact ofU_le _ _ _
              have hdl : d ≤ m := by rw [← hd, ← hm'.out]; unfold preF; rw [if_pos (Nat.le_refl _)]; exact posF_le hG'.out (by omega)
              have c7 : wr.drew.cell? ⟨gf, j + 1, none⟩ = some (.int .i64 (c : Int)) := by
                have := (hS.out.rowAt 3 rfl).cellAt (j + 1) (by omega)
                rw [i64s_got (fromL_get (f := preF L j) (show j + 1 ≤ n by omega)), hc] at this
                exact this
              have c8 : wr.cell? ⟨gf, j, none⟩ = some (.int .i64 (d : Int)) := by
                have := (hS.out.rowAt 3 rfl).cellAt j (by omega)
                rw [i64s_got (fromL_get (f := preF L j) (show j ≤ n by omega)), hd] at this
                exact this
              have f9 : wr.drew.frozen? ⟨gf, j + 1, none⟩ = false := (hS.out.rowAt 3 rfl).frozenAt (j + 1)
              have l9 : gf < wr.drew.heap.size := own_lt (hS.out.rowAt 3 rfl) (g := gf) rfl
              have p0 := (hS.out.blkAt 0 rfl).cell 0 rfl
              have b1 := (hS.out.blkAt 1 rfl).cell 1 rfl
              have lp := (hS.out.blkAt 0 rfl).lt
              have lb := (hS.out.blkAt 1 rfl).lt
              have hSs := Lib.hid (hS.out.rowsetAt 3 rfl (j + 1) (.int .i64 ((c : Int) + (d : Int))))
              have q0 := Lib.hid ((hSs.out.blkAt 0 rfl).cell 0 rfl)
              have q1 := Lib.hid ((hSs.out.blkAt 1 rfl).cell 1 rfl)
              have q2 : Hid (((wr.setCell ⟨gf, j + 1, none⟩ (.int .i64 ((c : Int) + (d : Int)))).cell? ⟨gf, j, none⟩ = some (.int .i64 (d : Int)))) := Lib.hid (by
                have h6 := (hSs.out.rowAt 3 rfl).cellAt j (by omega)
                rw [List.getElem?_set_ne (by omega), i64s_got (fromL_get (f := preF L j) (show j ≤ n by omega)), hd] at h6
                exact h6)
              have hSn := Lib.hid (show Sep w (wr.setCell ⟨gf, j + 1, none⟩ (.int .i64 ((c : Int) + (d : Int)))).drew (newP pa b gf (.slice aa m ca) (.slice none 0 0) n m (arcsL L) (fromL n (preF L (j + 1))) []) by
                have h5 := hSs.out
                rw [i64s_set, show ((c : Int) + (d : Int)) = ((preF L j (j + 1) + preF L j j : Nat) : Int) by rw [hc, hd]; rfl, hst.out] at h5
                rw [show ((c : Int) + (d : Int)) = ((preF L j (j + 1) + preF L j j : Nat) : Int) by rw [hc, hd]; rfl]
                exact h5.still (Mod.refl [] _).drew)
              have k0 := KC.one (w := wr.drew) (L := [(⟨pa, 0, none⟩, .pointer (some ⟨b, 0, none⟩)), (⟨b, 1, none⟩, .slice (some ⟨gf, 0, none⟩) (n + 1) (n + 1)), (⟨gf, j, none⟩, .int .i64 (d : Int))]) p0 (by simp)
              have k1 := KC.one (w := wr.drew) (L := [(⟨pa, 0, none⟩, .pointer (some ⟨b, 0, none⟩)), (⟨b, 1, none⟩, .slice (some ⟨gf, 0, none⟩) (n + 1) (n + 1)), (⟨gf, j, none⟩, .int .i64 (d : Int))]) b1 (by simp)
              have k2 := KC.one (w := wr.drew) (L := [(⟨pa, 0, none⟩, .pointer (some ⟨b, 0, none⟩)), (⟨b, 1, none⟩, .slice (some ⟨gf, 0, none⟩) (n + 1) (n + 1)), (⟨gf, j, none⟩, .int .i64 (d : Int))]) c8 (by simp)
              clear hS hst hc hd hSs p0 b1 c8
              go_upto_region 15 with fail
              refine region_sched (G := KC [(⟨pa, 0, none⟩, .pointer (some ⟨b, 0, none⟩)), (⟨b, 1, none⟩, .slice (some ⟨gf, 0, none⟩) (n + 1) (n + 1)), (⟨gf, j, none⟩, .int .i64 (d : Int))]) [([0,1,2,3,4,5,6,8,9,10,11,12,13,14],7), ([15,16],17)] [] (by kernel_rfl) (by kernel_rfl) (by kernel_rfl) rfl (KC.refl _) (KC.trans _) ?_
              simp only [stages, pickO, nthO, headO, List.append_eq, List.cons_append, List.nil_append]
              refine sched_step ?_
              repeat (go_big_quiet_step (fail))
              refine wpQuiet_nil ?_
              intro K hK
              rw [if_pos (by rfl)]
              go_simp
              refine hK.out _ _ (KC.refl _ _) ?_
              clear hK K
              refine sched_step ?_
              repeat (go_big_quiet_step (fail))
              refine wpQuiet_nil ?_
              intro K hK
              rw [if_pos (by rfl)]
              go_simp
              refine hK.out _ _ (fun p hp _ => by
                simp only [List.mem_cons, List.mem_nil_iff, or_false] at hp
                rcases hp with rfl | rfl | rfl
                · exact q0.out
                · exact q1.out
                · exact q2.out) ?_
              clear hK K k0 k1 k2 c7 f9 l9 q0 q1 q2 lp lb
              refine sched_last ?_
              refine wpQuiet_nil ?_
              go_wp2_with fail
              go_roundw
              case rel => exact ⟨j + 1, by omega, by go_num, hSn⟩
              case measure => simp [intOf]; omega
            · have hjn : j = n := by omega
              have hS6 := Lib.hid (show Sep w wr (newP pa b gf (.slice aa m ca) (.slice none 0 0) n m (arcsL L) (fromL n (posF L)) []) by
                rw [← preF_all]; exact hjn ▸ hS.out)
              clear hS hj hjn
              have hmk := make_run (P := Tryz.prog) 51 3 (.int .i64 0) 8 Tryz.underlying51 infoI rfl (by omega) m (by omega)
              have p0 := (hS6.out.blkAt 0 rfl).cell 0 rfl
              have b0 := (hS6.out.blkAt 1 rfl).cell 0 rfl
              have lp := (hS6.out.blkAt 0 rfl).lt
              have lb := (hS6.out.blkAt 1 rfl).lt
              have k0 := KC.one (w := wr.drew) (L := [(⟨pa, 0, none⟩, .pointer (some ⟨b, 0, none⟩)), (⟨b, 0, none⟩, .slice aa m ca)]) p0 (by simp)
              have k1 := KC.one (w := wr.drew) (L := [(⟨pa, 0, none⟩, .pointer (some ⟨b, 0, none⟩)), (⟨b, 0, none⟩, .slice aa m ca)]) b0 (by simp)
              have hSa := Lib.hid ((hS6.out.still (Mod.refl [] wr).drew).made (made_made wr.drew 3 (.int .i64 0) m (by omega)))
              clear hS6
              go_upto_region 17 with fail
              refine region_sched (G := KC [(⟨pa, 0, none⟩, .pointer (some ⟨b, 0, none⟩)), (⟨b, 0, none⟩, .slice aa m ca)]) [([0,1,2,3,4,5],6), ([7,8],9)] [] (by kernel_rfl) (by kernel_rfl) (by kernel_rfl) rfl (KC.refl _) (KC.trans _) ?_
              simp only [stages, pickO, nthO, headO, List.append_eq, List.cons_append, List.nil_append]
              refine sched_step ?_
              repeat (go_big_quiet_step (fail))
              refine wpQuiet_nil ?_
              intro K hK
              rw [if_pos (by rfl)]
              go_simp
              refine hK.out _ _ (fun p hp _ => by
                simp only [List.mem_cons, List.mem_nil_iff, or_false] at hp
                rcases hp with rfl | rfl
                · exact (hSa.out.blkAt 1 rfl).cell 0 rfl
                · exact (hSa.out.blkAt 2 rfl).cell 0 rfl) ?_
              clear hK K k0 k1 p0 b0 lp lb hlt hmk
              refine sep_wrap (goalP := fun W => wpSched _ _ _ _ _ _ _ W) hSa.out ?_
              intro Wg hSg
              clear hSa
              rw [show wr.drew.heap.size = wr.heap.size from rfl] at hSg
              generalize wr.heap.size = go at *
              have gz := (hSg.blkAt 2 rfl).free 2
              have gc := (hSg.blkAt 2 rfl).cell 2 rfl
              have gl := (hSg.blkAt 2 rfl).lt
              have hSc := Lib.hid (hSg.setAt 2 rfl 2 (.slice (some ⟨go, 0, none⟩) m m)).rot
              clear hSg
              refine sched_step ?_
              repeat (go_big_quiet_step (fail))
              refine wpQuiet_nil ?_
              intro K hK
              rw [if_pos (by rfl)]
              go_simp
              refine hK.out _ _ (fun p hp _ => by
                simp only [List.mem_cons, List.mem_nil_iff, or_false] at hp
                rcases hp with rfl | rfl
                · exact (hSc.out.blkAt 0 rfl).cell 0 rfl
                · exact (hSc.out.blkAt 1 rfl).cell 0 rfl) ?_
              clear hK K gz gc gl
              generalize Wg.setCell ⟨b, 2, none⟩ (.slice (some ⟨go, 0, none⟩) m m) = W7 at *
              have hS7 := Lib.hid (show Sep w W7 (newP pa b gf (.slice aa m ca) (.slice (some ⟨go, 0, none⟩) m m) n m (arcsL L) (fromL n (posF L)) [Row 3 1 m (.slice (some ⟨go, 0, none⟩) m m) (i64s (fillL n L 0).flatten)]) by
                rw [fill_zero hG'.out, hm'.out]
                have e : i64s (List.replicate m 0) = List.replicate m (.int .i64 0) := by simp [i64s]
                rw [e]
                exact hSc.out)
              clear hSc
              refine sched_last ?_
              refine wpQuiet_nil ?_
              have p0 := (hS7.out.blkAt 0 rfl).cell 0 rfl
              have b1 := (hS7.out.blkAt 1 rfl).cell 1 rfl
              have lp := (hS7.out.blkAt 0 rfl).lt
              have lb := (hS7.out.blkAt 1 rfl).lt
              go_wp2_with fail
              have hfl : (fromL n (posF L)).length = n + 1 := fromL_len _ _
              have hcl := cloneI_any (w := W7) (a := some ⟨gf, 0, none⟩) (c := n + 1) (xs := fromL n (posF L)) (by rw [hfl]; exact Reads.own (hS7.out.rowAt 3 rfl)) (by omega)
              rw [hfl] at hcl
              refine hcl.mono ?_
              rintro e w8 ⟨an, cn, rfl, hmd⟩
              obtain ⟨gn, rfl, _⟩ := row_form hmd.own (by omega)
              have hS8 := Lib.hid (hS7.out.made hmd).rot
              clear hmd hS7 p0 b1 lp lb hcl hfl
              try dsimp only
              have p0 := (hS8.out.blkAt 0 rfl).cell 0 rfl
              have b0 := (hS8.out.blkAt 1 rfl).cell 0 rfl
              have lp := (hS8.out.blkAt 0 rfl).lt
              have lb := (hS8.out.blkAt 1 rfl).lt
              go_wp2_with fail
              clear p0 b0 lp lb
              have hS9 := Lib.hid (show Sep w w8 (newP pa b gf (.slice aa m ca) (.slice (some ⟨go, 0, none⟩) m m) n m (arcsL L) (fromL n (posF L)) [Row 3 1 m (.slice (some ⟨go, 0, none⟩) m m) (i64s (fillL n L 0).flatten), Row 3 1 (n + 1) (.slice (some ⟨gn, 0, none⟩) (n + 1) cn) (i64s (fromL n (nextF L 0)))]) by
                rw [nextF_zero]; exact hS8.out)
              clear hS8
              go_loopw [108] (fun i wr => ∃ k : Nat, k ≤ m ∧ i = .int .i64 k ∧ Hid (Sep w wr (newP pa b gf (.slice aa m ca) (.slice (some ⟨go, 0, none⟩) m m) n m (arcsL L) (fromL n (posF L)) [Row 3 1 m (.slice (some ⟨go, 0, none⟩) m m) (i64s (fillL n L k).flatten), Row 3 1 (n + 1) (.slice (some ⟨gn, 0, none⟩) (n + 1) cn) (i64s (fromL n (nextF L k)))]))) (fun i _ => m - (intOf i).toNat)
              case atStart => exact ⟨0, Nat.zero_le _, rfl, hS9⟩
              case round =>
                clear hS9
                obtain ⟨k, hk, rfl, hS⟩ := hrel
                by_cases hlt : k < m
                · have hlt1 : (k : Int) < m := by omega
                  have hkL : k < 2 * L.length := by rw [hm'.out]; exact hlt
                  obtain ⟨t, ht⟩ : ∃ t : Nat, tailE L k = (t : Int) := ⟨(tailE L k).toNat, by have := tail_in hG'.out hkL; omega⟩
                  have htn : t < n := by have := tail_in hG'.out hkL; omega
                  have ct := Lib.hid (atail_any (hS.out.blkAt 1 rfl) (hS.out.rowAt 2 rfl) hma.out hml (k : Int) (by omega))
                  rw [show tailI L (k : Int) = (t : Int) by unfold tailI; rw [if_neg (by omega), Int.toNat_natCast, ht]] at ct
                  have hst := Lib.hid (fill_step hG'.out hkL ht)
                  have hsn := Lib.hid (nextF_step (n := n) ht)
                  obtain ⟨x, hx⟩ : ∃ x, nextF L k t = x := ⟨_, rfl⟩
                  have hxm : x < m := by
                    have h1 := ofU_lt_cnt hkL ht
                    have h2 := posF_le hG'.out (v := t + 1) (by omega)
                    rw [posF_succ, hm'.out] at h2
                    rw [← hx]; unfold nextF; omega
                  have c9 : ∀ W, Sep w W (newP pa b gf (.slice aa m ca) (.slice (some ⟨go, 0, none⟩) m m) n m (arcsL L) (fromL n (posF L)) [Row 3 1 m (.slice (some ⟨go, 0, none⟩) m m) (i64s (fillL n L (k + 1)).flatten), Row 3 1 (n + 1) (.slice (some ⟨gn, 0, none⟩) (n + 1) cn) (i64s (fromL n (nextF L k)))]) → W.cell? ⟨gn, t, none⟩ = some (.int .i64 (x : Int)) := fun W h => by
                    have := (h.rowAt 5 rfl).cellAt t (by omega)
                    rw [i64s_got (fromL_get (f := nextF L k) (show t ≤ n by omega)), hx] at this
                    exact this
                  have c8 : wr.cell? ⟨gn, t, none⟩ = some (.int .i64 (x : Int)) := by
                    have := (hS.out.rowAt 5 rfl).cellAt t (by omega)
                    rw [i64s_got (fromL_get (f := nextF L k) (show t ≤ n by omega)), hx] at this
                    exact this
                  have lnx := own_lt (hS.out.rowAt 5 rfl) (g := gn) rfl
                  have ogc : ∃ u, wr.drew.cell? ⟨go, x, none⟩ = some u := by
                    have h1 := (hS.out.rowAt 4 rfl).cellAt x (by omega)
                    have h2 := (hS.out.rowAt 4 rfl).1
                    rw [List.getElem?_eq_getElem (by omega)] at h1
                    exact ⟨_, h1⟩
                  obtain ⟨ou, ogc⟩ := ogc
                  have ogz : wr.drew.frozen? ⟨go, x, none⟩ = false := (hS.out.rowAt 4 rfl).frozenAt x
                  have ogl : go < wr.drew.heap.size := own_lt (hS.out.rowAt 4 rfl) (g := go) rfl
                  have p0 := (hS.out.blkAt 0 rfl).cell 0 rfl
                  have b2 := (hS.out.blkAt 1 rfl).cell 2 rfl
                  have lp := (hS.out.blkAt 0 rfl).lt
                  have lb := (hS.out.blkAt 1 rfl).lt
                  have hS1 := Lib.hid (show Sep w (wr.setCell ⟨go, x, none⟩ (.int .i64 (k : Int))).drew (newP pa b gf (.slice aa m ca) (.slice (some ⟨go, 0, none⟩) m m) n m (arcsL L) (fromL n (posF L)) [Row 3 1 m (.slice (some ⟨go, 0, none⟩) m m) (i64s (fillL n L (k + 1)).flatten), Row 3 1 (n + 1) (.slice (some ⟨gn, 0, none⟩) (n + 1) cn) (i64s (fromL n (nextF L k)))]) by
                    have h5 := hS.out.rowsetAt 4 rfl x (.int .i64 (k : Int))
                    rw [i64s_set, show x = posF L t + (ofU L k t).length by rw [← hx]; rfl, hst.out] at h5
                    rw [show x = posF L t + (ofU L k t).length by rw [← hx]; rfl]
                    exact h5.still (Mod.refl [] _).drew)
                  have k0 := KC.one (w := wr.drew) (L := [(⟨pa, 0, none⟩, .pointer (some ⟨b, 0, none⟩)), (⟨b, 2, none⟩, .slice (some ⟨go, 0, none⟩) m m), (⟨gn, t, none⟩, .int .i64 (x : Int))]) p0 (by simp)
                  have k1 := KC.one (w := wr.drew) (L := [(⟨pa, 0, none⟩, .pointer (some ⟨b, 0, none⟩)), (⟨b, 2, none⟩, .slice (some ⟨go, 0, none⟩) m m), (⟨gn, t, none⟩, .int .i64 (x : Int))]) b2 (by simp)
                  have k2 := KC.one (w := wr.drew) (L := [(⟨pa, 0, none⟩, .pointer (some ⟨b, 0, none⟩)), (⟨b, 2, none⟩, .slice (some ⟨go, 0, none⟩) m m), (⟨gn, t, none⟩, .int .i64 (x : Int))]) c8 (by simp)
                  have c9' := Lib.hid c9
                  have ht1 : (t : Int) < (n : Int) + 1 := by omega
                  have hx1 : (x : Int) < m := by omega
                  have hx' := Lib.hid hx
                  clear hS hst c9 b2 c8 hx ht
                  go_upto_region 23 with (go_at_call 38; refine ct.out.mono ?_; rintro e w9 ⟨rfl, hw9⟩; subst w9)
                  refine region_sched (G := KC [(⟨pa, 0, none⟩, .pointer (some ⟨b, 0, none⟩)), (⟨b, 2, none⟩, .slice (some ⟨go, 0, none⟩) m m), (⟨gn, t, none⟩, .int .i64 (x : Int))]) [([0,1,2,3,4,5,6,7,8,9],10)] [] (by kernel_rfl) (by kernel_rfl) (by kernel_rfl) rfl (KC.refl _) (KC.trans _) ?_
                  simp only [stages, pickO, nthO, headO, List.append_eq, List.cons_append, List.nil_append]
                  refine sched_step ?_
                  repeat (go_big_quiet_step (fail))
                  refine wpQuiet_nil ?_
                  intro K hK
                  rw [if_pos (by rfl)]
                  go_simp
                  refine hK.out _ _ (fun p hp _ => by
                    simp only [List.mem_cons, List.mem_nil_iff, or_false] at hp
                    rcases hp with rfl | rfl | rfl
                    · exact (hS1.out.blkAt 0 rfl).cell 0 rfl
                    · exact (hS1.out.blkAt 1 rfl).cell 2 rfl
                    · exact c9'.out _ hS1.out) ?_
                  clear hK K k0 k1 k2 ogc ogz ogl p0 lp lb ct lnx
                  generalize (wr.setCell ⟨go, x, none⟩ (.int .i64 (k : Int))).drew = W1 at *
                  refine sched_last ?_
                  refine wpQuiet_nil ?_
                  have nc := c9'.out _ hS1.out
                  have nz := (hS1.out.rowAt 5 rfl).frozenAt t
                  have nl := own_lt (hS1.out.rowAt 5 rfl) (g := gn) rfl
                  have hS2 := Lib.hid (show Sep w (W1.setCell ⟨gn, t, none⟩ (.int .i64 ((x : Int) + 1))) (newP pa b gf (.slice aa m ca) (.slice (some ⟨go, 0, none⟩) m m) n m (arcsL L) (fromL n (posF L)) [Row 3 1 m (.slice (some ⟨go, 0, none⟩) m m) (i64s (fillL n L (k + 1)).flatten), Row 3 1 (n + 1) (.slice (some ⟨gn, 0, none⟩) (n + 1) cn) (i64s (fromL n (nextF L (k + 1))))]) by
                    have h5 := hS1.out.rowsetAt 5 rfl t (.int .i64 ((x : Int) + 1))
                    rw [i64s_set, show ((x : Int) + 1) = ((nextF L k t + 1 : Nat) : Int) by rw [hx'.out]; rfl, hsn.out] at h5
                    rw [show ((x : Int) + 1) = ((nextF L k t + 1 : Nat) : Int) by rw [hx'.out]; rfl]
                    exact h5)
                  clear hS1 c9'
                  go_wp2_with fail
                  go_roundw
                  case rel => exact ⟨k + 1, by omega, by go_num, hS2⟩
                  case measure => simp [intOf]; omega
                · have hkm : k = m := by omega
                  have hS2 := Lib.hid (show Sep w wr (newP pa b gf (.slice aa m ca) (.slice (some ⟨go, 0, none⟩) m m) n m (arcsL L) (fromL n (posF L)) [Row 3 1 m (.slice (some ⟨go, 0, none⟩) m m) (i64s (mixO n L 0).flatten)]) by
                    have h5 := hS.out.dropAt 5 (by simp [newP])
                    rw [hkm, ← hm'.out, fill_all, hm'.out] at h5
                    exact h5)
                  clear hS hk hkm
                  go_wp2_with fail
                  refine (hN'.out _ hS2.out.mod).mono ?_
                  rintro e w5 ⟨rfl, hw5⟩
                  subst w5
                  try dsimp only
                  clear hlt
                  go_wp2_with fail
                  go_loopw [133] (fun i wr => ∃ j : Nat, j ≤ n ∧ i = .int .i64 j ∧ Hid (Sep w wr (newP pa b gf (.slice aa m ca) (.slice (some ⟨go, 0, none⟩) m m) n m (arcsL L) (fromL n (posF L)) [Row 3 1 m (.slice (some ⟨go, 0, none⟩) m m) (i64s (mixO n L j).flatten)]))) (fun i _ => n - (intOf i).toNat)
                  case atStart => exact ⟨0, Nat.zero_le _, rfl, hS2⟩
                  case round =>
                    clear hS2
                    obtain ⟨j, hj, rfl, hS⟩ := hrel
                    by_cases hlt : j < n
                    · have hlt1 : (j : Int) < n := by omega
                      have hof := Lib.hid (aof_any hG'.out hm'.out hlt (hS.out.blkAt 1 rfl) (hS.out.rowAt 3 rfl))
                      obtain ⟨A, B, eA, eB, lA⟩ := mixO_cut hG'.out hlt
                      have hsort := Lib.hid (fun W (hm : Mod [] wr W) => sort_win (A := A) (B := B) (d := ofU L (2 * L.length) j) (hS.out.still hm |>.blkAt 0 rfl) (hS.out.still hm |>.blkAt 1 rfl) (hS.out.still hm |>.rowAt 2 rfl) hma.out hml (by have := (hS.out.still hm).rowAt 4 rfl; rw [eA] at this; exact this) (fun i hi => by rw [← hm'.out]; exact (mem_ofU.1 hi).1)
                        (fun e => (hS.out.blkrow 0 4 (by omega) rfl rfl) (by rw [e]; rfl)) (fun e => (hS.out.blkrow 1 4 (by omega) rfl rfl) (by rw [e]; rfl)) (fun e => (hS.out.rowrow 2 4 (by omega) rfl rfl e) rfl))
                      rw [lA, show (ofU L (2 * L.length) j).length = cntE L j from rfl] at hsort
                      have hSg := Lib.hid (fun W (hm : Mod [] wr W) W2 (ho : W2.ownsRow 0 3 1 (.slice (some ⟨go, 0, none⟩) m m) m (i64s (mixO n L (j + 1)).flatten)) (m2 : Mod [go] W W2) => (hS.out.still hm).growAt 4 rfl ho m2 (.inl rfl))
                      have eB' := Lib.hid eB
                      have p0 := (hS.out.blkAt 0 rfl).cell 0 rfl
                      have lp := (hS.out.blkAt 0 rfl).lt
                      generalize winV go (posF L j) (cntE L j) = wv at *
                      clear hS eA eB lA
                      go_wp2_with fail
                      refine hof.out.mono ?_
                      rintro e w6 ⟨rfl, hm6⟩
                      have hs2 := Lib.hid (hsort.out _ hm6)
                      have hSg2 := Lib.hid (hSg.out _ hm6)
                      clear hof hsort hSg hm6 p0
                      try dsimp only
                      go_wp2_with fail
                      refine hs2.out.mono ?_
                      rintro e w7 ⟨rfl, d', hp', hs', ho', hm7⟩
                      have hdd := sort_ofS hG'.out hp' hs'
                      have hS7 := Lib.hid (hSg2.out w7 (by rw [eB'.out, ← hdd]; exact ho') hm7)
                      clear hs2 hSg2 hp' hs' ho' hm7 hdd eB' lp
                      try dsimp only
                      go_wp2_with fail
                      go_roundw
                      case rel => exact ⟨j + 1, by omega, by go_num, hS7⟩
                      case measure => simp [intOf]; omega
                    · have hjn : j = n := by omega
                      have p0 := (hS.out.blkAt 0 rfl).cell 0 rfl
                      have lp := (hS.out.blkAt 0 rfl).lt
                      have hfin : Hid (Sep w wr [ArcP b n L]) := by
                        have h5 := hS.out.dropAt 0 (by simp [newP])
                        rw [hjn] at h5
                        obtain ⟨F, q1, q2, q3⟩ := h5.out
                        refine Lib.hid ⟨F, ⟨inferInstance, F, [], by simp, ⟨gf, go, aa, ca, ?_⟩, rfl, by simp⟩, q2, q3⟩
                        rw [hm'.out]
                        exact q1
                      clear hS hj hjn
                      go_wp2_with fail
                      go_ret
                      exact ⟨b, rfl, hfin.out⟩
end Edge
end Go.Proofs.YtjpfmkfikidgkaaGreat
