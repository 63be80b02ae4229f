/- Merge. -/
import Derived.Test.YtjpfmkfikidgkaaGreatEdRow
import Derived.Test.YtjpfmkfikidgkaaGreatPairMap
import Derived.Test.YtjpfmkfikidgkaaGreatPosLaw
import Derived.Test.YtjpfmkfikidgkaaGreatTotLaw
import Derived.Test.YtjpfmkfikidgkaaGreatMerge2
import Derived.Test.YtjpfmkfikidgkaaGreatMerge3
set_option linter.unusedVariables false
set_option linter.unusedSimpArgs false
namespace Go.Proofs.YtjpfmkfikidgkaaGreat
open Go.RowKit
namespace Edge
open PairMap
theorem upd_snoc {L : List Ed} {e : Ed} (h : posAt (key e) 0 L = none) : upd (fun q => posAt q 0 L) (key e) (L.length : Int) = fun q => posAt q 0 (L ++ [e]) := by
  funext q
  rw [pos_snoc]
  show (if q = key e then some (L.length : Int) else posAt q 0 L) = _
  by_cases c : q = key e
  · subst c
    rw [if_pos rfl, h]
    simp
  · rw [if_neg c]
    cases hq : posAt q 0 L with
    | none => simp only; rw [if_neg (fun hh => c hh.symm)]
    | some d => rfl
/-- What Merge holds behind k edges. -/
structure MSt (w wr : World) (bm : Nat) (l : List Ed) (k : Nat) (L : List Ed) (a : Option Addr) (c : Nat) : Prop where
  eq : soFar l k = L
  sep : ∃ n, n ≤ k ∧ Sep w wr [MapP bm n (fun q => posAt q 0 L), Row 146 3 L.length (.slice a L.length c) (flat encEd L)]
/-- What Merge answers. -/
structure MergeOut (l : List Ed) (w : World) (e : Ending) (w' : World) : Prop where
  mk ::
  out : ∃ a c, e = .returned (.tuple #[.slice a (merged l).length c, .bool true]) ∧ Made w w' 146 3 a (merged l).length c (flat encEd (merged l))
set_option maxRecDepth 100000 in
set_option maxHeartbeats 4000000 in
theorem merge_tot {l : List Ed} {v : Value} {w : World} (h : Rd w 3 v l.length (flat encEd l)) (hl : l.length ≤ 1048576) (hw : ∀ e ∈ l, 0 ≤ e.1 ∧ e.1 < 4096 ∧ 0 ≤ e.2.1 ∧ e.2.1 < 4096 ∧ 0 ≤ e.2.2) (hT : total l ≤ 2251799813685248) :
    Calls Tryz.prog 101 #[v] w (MergeOut l w) := by
  obtain ⟨a0, c0, rfl⟩ := h.val
  have h' := Lib.hid h
  have hw' := Lib.hid hw
  obtain ⟨m, hm⟩ : ∃ m, l.length = m := ⟨_, rfl⟩
  rw [hm] at hl
  rw [hm]
  have hm' := Lib.hid hm
  clear h hw hm
  have hst := Lib.hid (show MSt w (w.alloc (.map #[] 0)) w.heap.size l 0 [] none 0 from ⟨by simp [soFar, ins], 0, Nat.le_refl _, by
    have h1 : Sep w w [Row 146 3 0 (.slice none 0 0) []] := (Sep.empty w).add (P := Row 146 3 0 (.slice none 0 0) []) (Mod.refl _ _) (F := []) ⟨World.ownsRow_nil w 0 _ 3, by simp [Value.ownBlock]⟩ (by simp)
    exact h1.add (P := MapP w.heap.size 0 (fun q => posAt q 0 [])) ((Mod.refl [] w).alloc _) (F := [w.heap.size]) ⟨Is.made w, rfl⟩ (by simp)⟩)
  have hmk : ∀ W : World, (Instr.makeMap 227 none).run Tryz.prog W = .ok (.map (some W.heap.size)) (W.alloc (.map #[] 0)) := fun W => run_makeMap _ W
  go_enter Tryz.func101, Tryz.ntmps101
  go_wp2_with fail
  generalize w.alloc (.map #[] 0) = w1 at *
  generalize w.heap.size = bm at *
  go_loopw [5, 17] (fun s5 i wr => ∃ (k : Nat) (L : List Ed) (a : Option Addr) (c : Nat), k ≤ m ∧ i = .int .i64 k ∧ s5 = .slice a L.length c ∧ Hid (MSt w wr bm l k L a c)) (fun _ i _ => m - (intOf i).toNat)
  case atStart => exact ⟨0, [], none, 0, Nat.zero_le _, rfl, rfl, hst⟩
  case round =>
    clear hst
    obtain ⟨k, L, a, c, hk, rfl, rfl, hst⟩ := hrel
    by_cases hlt : k < m
    · have hlt1 : (k : Int) < m := by omega
      have hkl : k < l.length := by rw [hm'.out]; exact hlt
      obtain ⟨n, hn, hS⟩ := hst.out.sep
      obtain ⟨g, o, rfl, hg, hcell⟩ := ed_cells h'.out hkl
      obtain ⟨q0, q1, q2⟩ := hcell _ hS.mod
      have hgl : g < wr.heap.size := Nat.lt_of_lt_of_le hg hS.mod.size
      have hck0 := hw'.out l[k] (List.getElem_mem hkl)
      have hckT := (tot_in (l := l) (fun e he => (hw'.out e he).2.2.2.2)).2 l[k] (List.getElem_mem hkl)
      have hck : 0 ≤ l[k].1 ∧ l[k].1 < 4096 ∧ 0 ≤ l[k].2.1 ∧ l[k].2.1 < 4096 ∧ 0 ≤ l[k].2.2 ∧ l[k].2.2 ≤ 2251799813685248 := ⟨hck0.1, hck0.2.1, hck0.2.2.1, hck0.2.2.2.1, hck0.2.2.2.2, by omega⟩
      clear hck0 hckT
      have hloop := Lib.hid (fun (hh : l[k].1 = l[k].2.1) => soFar_loop hkl hh)
      have hstep := Lib.hid (fun (hh : l[k].1 ≠ l[k].2.1) => soFar_step hkl hh)
      have hnl := Lib.hid (fun (hh : l[k].1 ≠ l[k].2.1) => norm_ends (e := l[k]) hh)
      have hnw := Lib.hid (norm_w l[k])
      generalize l[k] = x at *
      obtain ⟨xu, xv, xw⟩ := x
      simp only at q0 q1 q2 hck
      have hno := fun W => normal_any (xu, xv, xw) W
      generalize hen : norm (xu, xv, xw) = e at *
      obtain ⟨eu, ev, ew⟩ := e
      unfold edV at hno
      simp only at hno
      have hno' := Lib.hid hno
      have hS1 := Lib.hid (hS.still ((Mod.refl [] wr).alloc (.cells #[.int .i64 xu, .int .i64 xv, .int .i64 xw] 146)))
      have heq := Lib.hid hst.out.eq
      clear hst hS hcell hno hkl
      by_cases hxx : xu = xv
      · have he : (eu, ev, ew) = ((xu, xv, xw) : Ed) := by rw [← hen]; unfold norm; rw [if_neg (by simp only; omega)]
        simp only [Prod.mk.injEq] at he
        obtain ⟨rfl, rfl, rfl⟩ := he
        have hnx := Lib.hid (hloop.out hxx)
        subst hxx
        clear hen hloop hstep hnl hnw
        go_wp2_with fail
        refine (hno'.out _).mono ?_
        rintro e w2 ⟨rfl, hm2⟩
        try dsimp only
        have hS2 := Lib.hid (hS1.out.still (hm2.alloc (.cells #[.int .i64 eu, .int .i64 eu, .int .i64 ew] 146)))
        clear hm2 hS1
        go_wp2_with fail
        go_roundw
        case rel => exact ⟨k + 1, L, a, c, by omega, by go_num, rfl, Lib.hid ⟨by rw [hnx.out]; exact heq.out, n, by omega, hS2.out⟩⟩
        case measure => simp [intOf]; omega
      · obtain ⟨n1, n2, n3⟩ := hnl.out hxx
        simp only at n1 n2 n3
        have t1 : (eu == ev) = false := by simp; omega
        have hfit : fits (eu, ev) := ⟨by simp only; omega, by simp only; omega, by simp only; omega, by simp only; omega⟩
        have hst2 := Lib.hid (hstep.out hxx)
        have hnw' := Lib.hid hnw.out
        clear hen hloop hstep hnl hnw hxx n2 n3
        go_wp2_with fail
        refine (hno'.out _).mono ?_
        rintro e w2 ⟨rfl, hm2⟩
        try dsimp only
        have hS2 := (hS1.out.still hm2).box [.int .i64 eu, .int .i64 ev, .int .i64 ew] 146
        have hS3 := hS2.still ((Mod.refl [] _).alloc (.cells #[.int .i64 eu, .int .i64 ev] 109))
        have hS4 := Lib.hid hS3
        obtain ⟨F4, hF4, _⟩ := hS3.swap.first
        have hlk := hF4.1.look hfit
        simp only at hlk
        clear hm2 hS1 hS2 hF4 hS3
        cases hp : posAt (eu, ev) 0 L with
        | none =>
          rw [hp] at hlk
          simp only [Option.getD_none, Option.isSome_none] at hlk
          have hpn := Lib.hid hp
          clear hp
          have hLk : L.length ≤ k := by rw [← heq.out]; exact soFar_len l k
          have hnew := Lib.hid (pos_none (e := (eu, ev, ew)) hpn.out)
          go_wp2_with (first
            | (at_mapUpdate; refine wpList_put (w0 := w) rfl _ _ _ rfl bm n (fun q => posAt q 0 L) (eu, ev) L.length rfl rfl rfl hS4.out.swap (by omega) hfit (by omega) (by omega) ?_; intro w5 hS5; have hbe := hS5.swap.blk; have e0 := hbe.cell 0 rfl; have e1 := hbe.cell 1 rfl; have e2 := hbe.cell 2 rfl; have el := hbe.lt; have hS5' := Lib.hid (hS5.pick 2 (by simp)); clear hS5 hbe)
            | (at_builtin; refine app_own rfl (.tmp 45) (.tmp 47) 22 146 _ 3 24 rfl Tryz.underlying22 infoEd rfl (by omega) (by omega) (.slice a L.length c) L.length 1 (flat encEd L) (encEd (eu, ev, ew)) rfl rfl rfl rfl (by simp [encEd, Value.oneCell']) hS5'.out.row (by omega) ?_; intro a1 c1 w6 ho6 hm6 hb6; have hS6 := Lib.hid (hS5'.out.grow ho6 hm6 hb6); clear ho6 hm6 hb6))
          go_roundw
          case rel =>
            refine ⟨k + 1, L ++ [(eu, ev, ew)], a1, c1, by omega, by go_num, by simp, Lib.hid ⟨by rw [hst2.out, heq.out, hnew.out], n + 1, by omega, ?_⟩⟩
            have h6 := hS6.out.back2.second
            rw [show upd (fun q => posAt q 0 L) (eu, ev) (L.length : Int) = _ from upd_snoc (e := (eu, ev, ew)) hpn.out] at h6
            rw [flat_append, flat_one, List.length_append]
            exact h6
          case measure => simp [intOf]; omega
        | some i =>
          rw [hp] at hlk
          simp only [Option.getD_some, Option.isSome_some] at hlk
          obtain ⟨j, hj, rfl, hkj, hadd⟩ := pos_some (e := (eu, ev, ew)) hp
          rw [Nat.zero_add] at hlk
          have hbnd := soFar_le (l := l) (fun e he => (hw'.out e he).2.2.2.2) k L[j] (by rw [heq.out]; exact List.getElem_mem hj)
          have hj2 : (j : Int) < L.length := by omega
          have hrow := (hS4.out.pick 2 (by simp)).row
          obtain ⟨gr, rfl, hgr, hzr, _, _, r2⟩ := ed_row hrow hj
          have hsw := Lib.hid (flat_setw hj (L[j].2.2 + ew))
          have hpos : Hid (∀ q, posAt q 0 (L.set j (L[j].1, L[j].2.1, L[j].2.2 + ew)) = posAt q 0 L) := Lib.hid (fun q => pos_set (e := (L[j].1, L[j].2.1, L[j].2.2 + ew)) hj rfl)
          have hadd' := Lib.hid hadd
          have hew : ew ≤ 2251799813685248 := by have : ew = xw := hnw'.out; omega
          have hew0 : 0 ≤ ew := by have : ew = xw := hnw'.out; omega
          have hk3 : (k : Int) ≤ 1048576 := by omega
          have hsum : L[j].2.2 + ew ≤ 4611686018427387904 := by omega
          have hb0 := hbnd.1
          generalize L[j] = y at *
          obtain ⟨yu, yv, yw⟩ := y
          simp only at r2 hsum hb0
          have had := Lib.hid (fun W => add_any hb0 hew0 hsum W)
          clear hp hkj hadd hrow hbnd hew hnw'
          go_wp2_with fail
          go_quiet ((go_at_call 168; exact Calls.quiet_of_same (had.out _)))
          go_wp2_with fail
          go_roundw
          case rel =>
            refine ⟨k + 1, L.set j (yu, yv, yw + ew), some ⟨gr, 0, none⟩, c, by omega, by go_num, by rw [List.length_set], Lib.hid ⟨by rw [hst2.out, heq.out, hadd'.out], n, by omega, ?_⟩⟩
            have h6 := fun q => (((hS4.out.still ((Mod.refl [] _).drewN q)).pick 2 (by simp)).rowset (j * 3 + 2) (.int .i64 (yw + ew))).back2.tail
            rw [List.length_set, ← hsw.out, show (fun q => posAt q 0 (L.set j (yu, yv, yw + ew))) = fun q => posAt q 0 L from funext hpos.out]
            exact h6 _
          case measure => simp [intOf]; omega
    · have hkm : k = m := by omega
      subst hkm
      obtain ⟨n, hn, hS⟩ := hst.out.sep
      have heq := hst.out.eq
      rw [← hm'.out, soFar_all] at heq
      have hLk : L.length ≤ 1048576 := by
        have := soFar_len l l.length
        rw [soFar_all, heq] at this
        have := hm'.out
        omega
      have hd := Lib.hid (delete_any hS.tail hLk)
      have hap : Apart L := by rw [← heq]; exact (foldP (ins l) [] List.Pairwise.nil).1
      have hap2 : Apart (heavy L) := hap.sublist heavy_sub
      have hLk2 : (heavy L).length ≤ 1048576 := Nat.le_trans (List.length_filter_le _ _) hLk
      have hsort := Lib.hid (fun w1 hS1 => sort_any (w0 := w) (w := w1) (L := heavy L) (a := a) (c := c) (R := []) hS1 hap2 hLk2)
      have hsame := Lib.hid (fun M (hp : M.Perm (heavy L)) (hs : Rising M) => merge_same l (by unfold heavy at *; rw [heq]; exact hp) hs)
      clear hst hS heq hap hap2 hLk2 hLk hmk
      go_wp2_with fail
      refine hd.out.mono ?_
      rintro e w2 ⟨rfl, hS2⟩
      try dsimp only
      have hs2 := Lib.hid (hsort.out _ hS2)
      clear hS2 hd hsort
      go_wp2_with fail
      refine hs2.out.mono ?_
      rintro e w3 ⟨rfl, M, hp, hr, hS3⟩
      try dsimp only
      have hM := hsame.out M hp hr
      have hl2 := hp.length_eq
      rw [← hl2, hM] at hS3
      have hfin := Lib.hid hS3.toMade
      have hle := Lib.hid (show (heavy L).length = (merged l).length by rw [← hl2, hM])
      clear hp hr hS3 hM hl2 hs2 hsame
      go_wp2_with fail
      go_ret2
      rw [hle.out]
      exact ⟨a, c, rfl, hfin.out⟩
theorem merge_any {l : List Ed} {v : Value} {w : World} (h : Rd w 3 v l.length (flat encEd l)) (hl : l.length ≤ 1048576) (hw : ∀ e ∈ l, checkE 4096 e = 0) :
    Calls Tryz.prog 101 #[v] w (MergeOut l w) :=
  merge_tot h hl (fun e he => by have := checkE_ok.1 (hw e he); omega) (by
    have := (total_le (l := l) (fun e he => by have := checkE_ok.1 (hw e he); omega)).2
    omega)
end Edge
end Go.Proofs.YtjpfmkfikidgkaaGreat
