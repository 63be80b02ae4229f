/- The reference's edges: Merge. -/
import Derived.Test.YtjpfmkfikidgkaaGreatRefE2
import Derived.Test.YtjpfmkfikidgkaaGreatTotLaw
set_option linter.unusedVariables false
set_option linter.unusedSimpArgs false
namespace Go.Proofs.YtjpfmkfikidgkaaGreat
open Go.RowKit
namespace Edge
/-- What the reference has merged behind k edges. -/
def rk (l : List Ed) (k : Nat) : List Ed := (ins (l.take k)).foldl (addR false) []
theorem ins_append (l m : List Ed) : ins (l ++ m) = ins l ++ ins m := by unfold ins; rw [List.filter_append, List.map_append]
theorem rk_loop {l : List Ed} {k : Nat} (hk : k < l.length) (h : l[k].1 = l[k].2.1) : rk l (k + 1) = rk l k := by
  unfold rk
  rw [List.take_succ_eq_append_getElem hk, ins_append]
  have : ins [l[k]] = [] := by unfold ins; simp [h]
  rw [this, List.append_nil]
theorem rk_step {l : List Ed} {k : Nat} (hk : k < l.length) (h : l[k].1 ≠ l[k].2.1) : rk l (k + 1) = addR false (rk l k) (norm l[k]) := by
  unfold rk
  rw [List.take_succ_eq_append_getElem hk, ins_append]
  have : ins [l[k]] = [norm l[k]] := by unfold ins; simp [h]
  rw [this, List.foldl_append]
  rfl
theorem rk_len {l : List Ed} {k : Nat} : (rk l k).length ≤ k := by
  have h1 := foldR_len (ins (l.take k)) []
  have h2 := ins_len (l.take k)
  have h3 : (l.take k).length ≤ k := by rw [List.length_take]; omega
  unfold rk
  simp only [List.length_nil] at h1
  omega
theorem addR_pos {e : Ed} (he : 0 ≤ e.2.2) : ∀ {l : List Ed} {d : Bool}, (∀ x ∈ l, 0 ≤ x.2.2) → ∀ x ∈ addR d l e, 0 ≤ x.2.2
  | [], d, _, x, hx => by
    cases d <;> simp [addR] at hx
    subst hx; exact he
  | y :: l, d, h, x, hx => by
    have hy := h y (by simp)
    have hl : ∀ x ∈ l, 0 ≤ x.2.2 := fun x hx => h x (List.mem_cons_of_mem _ hx)
    unfold addR at hx
    split at hx
    · rcases List.mem_cons.1 hx with rfl | hx
      · show 0 ≤ y.2.2 + e.2.2; omega
      · exact addR_pos he hl x hx
    · split at hx
      · rcases List.mem_cons.1 hx with rfl | hx
        · exact he
        rcases List.mem_cons.1 hx with rfl | hx
        · exact hy
        · exact addR_pos he hl x hx
      · rcases List.mem_cons.1 hx with rfl | hx
        · exact hy
        · exact addR_pos he hl x hx
theorem foldR_pos : ∀ {m : List Ed} {s : List Ed}, (∀ e ∈ m, 0 ≤ e.2.2) → (∀ x ∈ s, 0 ≤ x.2.2) → ∀ x ∈ m.foldl (addR false) s, 0 ≤ x.2.2
  | [], s, _, h => h
  | e :: m, s, h1, h2 => foldR_pos (m := m) (s := addR false s e) (fun x hx => h1 x (List.mem_cons_of_mem _ hx)) (addR_pos (h1 e (by simp)) h2)
theorem le_total : ∀ {l : List Ed}, (∀ x ∈ l, 0 ≤ x.2.2) → 0 ≤ total l ∧ ∀ x ∈ l, x.2.2 ≤ total l
  | [], _ => ⟨Int.le_refl _, by simp⟩
  | y :: l, h => by
    obtain ⟨h1, h2⟩ := le_total (l := l) (fun x hx => h x (List.mem_cons_of_mem _ hx))
    have hy := h y (by simp)
    simp only [total]
    refine ⟨by omega, fun x hx => ?_⟩
    rcases List.mem_cons.1 hx with rfl | hx
    · omega
    · have := h2 x hx; omega
theorem rk_weights {l : List Ed} (hw : NN l) (ht : total l ≤ 2251799813685248) {k : Nat} {c : Int} (hc : c ≤ 2251799813685248) : ∀ x ∈ rk l k, 0 ≤ x.2.2 ∧ x.2.2 + c ≤ 4611686018427387904 := by
  have hwk : NN (l.take k) := fun e he => hw e (List.mem_of_mem_take he)
  have h1 := foldR_pos (m := ins (l.take k)) (s := []) (fun e he => nn_ins hwk e he) (by simp)
  have h2 := le_total h1
  have h3 : total (rk l k) = total (ins (l.take k)) := by unfold rk; rw [foldR_total _ _ List.Pairwise.nil]; simp [total]
  have h4 := tot_ins hwk
  have h5 := tot_take hw k
  intro x hx
  have h7 := h2.2 x hx
  have h8 := h1 x hx
  unfold rk at h3 hx
  rw [h3] at h7
  omega
theorem heavy_step {L : List Ed} {j : Nat} (hj : j < L.length) : heavy (L.take (j + 1)) = heavy (L.take j) ++ (if L[j].2.2 ≠ 0 then [L[j]] else []) := by
  unfold heavy
  rw [List.take_succ_eq_append_getElem hj, List.filter_append]
  congr 1
  by_cases c : L[j].2.2 = 0 <;> simp [c]
theorem heavy_len (L : List Ed) : (heavy L).length ≤ L.length := List.length_filter_le _ _
/-- What the reference's Merge answers. -/
structure RMergeOut (l : List Ed) (w : World) (e : Ending) (w' : World) : Prop where
  mk ::
  out : ∃ a c, e = .returned (.agg #[.slice a (merged l).length c, .bool true]) ∧ Made w w' 146 3 a (merged l).length c (flat encEd (merged l))
set_option maxRecDepth 100000 in
set_option maxHeartbeats 8000000 in
theorem rmerge_tot {l : List Ed} {v : Value} {w : World} (h : Rd w 3 v l.length (flat encEd l)) (hl : l.length ≤ 1048576) (hnn : NN l) (hT : total l ≤ 2251799813685248) :
    Calls Tryz.prog 108 #[v] w (RMergeOut l w) := by
  obtain ⟨a0, c0, rfl⟩ := h.val
  have h' := Lib.hid h
  have hw : ∀ e ∈ l, 0 ≤ e.2.2 ∧ e.2.2 ≤ 2251799813685248 := fun e he => ⟨hnn e he, Int.le_trans ((tot_in hnn).2 e he) hT⟩
  have hw' := Lib.hid hw
  have hwt := Lib.hid (fun k c hc => rk_weights (k := k) (c := c) hnn hT hc)
  obtain ⟨m, hm⟩ : ∃ m, l.length = m := ⟨_, rfl⟩
  rw [hm] at hl
  rw [hm]
  have hm' := Lib.hid hm
  clear h hw hm hnn hT
  have hst := Lib.hid (show Sep w (w.alloc (.cells #[.slice none 0 0, .bool false] 179)) [Row 146 3 (rk l 0).length (.slice none (rk l 0).length 0) (flat encEd (rk l 0)), Blk w.heap.size [.slice none 0 0, .bool false] 179] from by
    have h1 : Sep w w [Row 146 3 0 (.slice none 0 0) []] := (Sep.empty w).add (P := Row 146 3 0 (.slice none 0 0) []) (Mod.refl _ _) (F := []) ⟨World.ownsRow_nil w 0 _ 3, by simp [Value.ownBlock]⟩ (by simp)
    exact (h1.box [.slice none 0 0, .bool false] 179).swap)
  have hr0 : rk l 0 = [] := rfl
  have hr0' := Lib.hid hr0
  clear hr0
  go_enter Tryz.func108, Tryz.ntmps108
  go_wp2_with fail
  generalize (w.alloc (.cells #[.slice none 0 0, .bool false] 179)) = w1 at *
  generalize w.heap.size = b0 at *
  go_loopw [3, 4] (fun s3 s4 wr => ∃ (k : Nat) (a : Option Addr) (c : Nat), k ≤ m ∧ s4 = .int .i64 k ∧ s3 = .slice a (rk l k).length c ∧ Hid (Sep w wr [Row 146 3 (rk l k).length (.slice a (rk l k).length c) (flat encEd (rk l k)), Blk b0 [.slice none 0 0, .bool false] 179])) (fun _ s4 _ => m - (intOf s4).toNat)
  case atStart => exact ⟨0, none, 0, Nat.zero_le _, rfl, by rw [hr0'.out]; rfl, hst⟩
  case round =>
    clear hst
    obtain ⟨k, a, c, hk, rfl, rfl, hS⟩ := hrel
    by_cases hlt : k < m
    · have hlt1 : (k : Int) < m := by omega
      have hkl : k < l.length := by rw [hm'.out]; exact hlt
      obtain ⟨g, o, rfl, hg, hcell⟩ := ed_cells h'.out hkl
      obtain ⟨q0, q1, q2⟩ := hcell _ hS.out.mod
      have hgl : g < wr.heap.size := Nat.lt_of_lt_of_le hg hS.out.mod.size
      have hloop := Lib.hid (fun (hh : l[k].1 = l[k].2.1) => rk_loop hkl hh)
      have hstep := Lib.hid (fun (hh : l[k].1 ≠ l[k].2.1) => rk_step hkl hh)
      have hnw := Lib.hid (norm_w l[k])
      have hxw := Lib.hid (hw'.out l[k] (List.getElem_mem hkl))
      have hln := Lib.hid (rk_len (l := l) (k := k))
      generalize l[k] = x at *
      obtain ⟨xu, xv, xw⟩ := x
      simp only at q0 q1 q2
      have hno := fun W => rnormal_any (xu, xv, xw) W
      generalize hen : norm (xu, xv, xw) = e at *
      obtain ⟨eu, ev, ew⟩ := e
      unfold edV at hno
      simp only at hno
      have hno' := Lib.hid hno
      clear hcell hno hkl
      by_cases hxx : xu = xv
      · have hnx := Lib.hid (hloop.out hxx)
        have t1 : (xu != xv) = false := by simpa using hxx
        clear hen hloop hstep hnw hxx
        go_wp2_with fail
        go_quiet (fail)
        go_wp2_with fail
        go_roundw
        case rel => exact ⟨k + 1, a, c, by omega, by go_num, by rw [hnx.out], by rw [hnx.out]; exact Lib.hid (hS.out.still ((Mod.refl [] wr).drewN _))⟩
        case measure => simp [intOf]; omega
      · have hnx := Lib.hid (hstep.out hxx)
        have t1 : (xu != xv) = true := by simpa using hxx
        obtain ⟨L, hL⟩ : ∃ L, rk l k = L := ⟨_, rfl⟩
        have hwl := Lib.hid (hwt.out k ew (by have h1 := hnw.out; have h2 := hxw.out; simp only at h1 h2; omega))
        have hew : 0 ≤ ew := by have h1 := hnw.out; have h2 := hxw.out; simp only at h1 h2; omega
        rw [hL] at hS hnx hwl hln ⊢
        have hadd := Lib.hid (fun W a c (hR : Rd W 3 (.slice a L.length c) L.length (flat encEd L)) => radd_edge (e := (eu, ev, ew)) (w := W) hR (by have := hln.out; omega) hwl.out hew)
        clear hen hloop hstep hnw hxx hL hxw hwl
        unfold edV at hadd
        obtain ⟨L2, hL2⟩ : ∃ L2, rk l (k + 1) = L2 := ⟨_, rfl⟩
        rw [hL2] at hnx
        have hL2' := Lib.hid hL2
        clear hL2
        go_wp2_with fail
        go_quiet (fail)
        go_wp2_with fail
        refine (hno'.out _).mono ?_
        rintro e w2 ⟨rfl, hm2⟩
        try dsimp only
        have hS2 := Lib.hid ((hS.out.still ((Mod.refl [] wr).drewN _)).still hm2)
        clear hm2 hS
        go_wp2_with fail
        refine (hadd.out _ _ _ (Rd.own hS2.out.row)).mono ?_
        rintro e w3 hA
        obtain ⟨a3, c3, rfl, hm3⟩ := hA.out
        rw [← hnx.out] at hm3 ⊢
        have hS3 := Lib.hid (((hS2.out.tail).made hm3).still ((Mod.refl [] w3).alloc (.cells #[.slice a3 L2.length c3, .bool true] 179)))
        try dsimp only
        clear hA hm3 hS2 hnx
        go_wp2_with fail
        go_roundw
        case rel => exact ⟨k + 1, a3, c3, by omega, by go_num, by rw [hL2'.out], by rw [hL2'.out]; exact hS3⟩
        case measure => simp [intOf]; omega
    · have hkm : k = m := by omega
      subst hkm
      have hall : rk l k = allR l := by unfold rk allR; rw [← hm'.out, List.take_length]
      have hln := rk_len (l := l) (k := k)
      rw [hall] at hS hln ⊢
      have hmer := Lib.hid (show merged l = heavy (allR l) from rfl)
      generalize allR l = L at *
      obtain ⟨m2, hm2⟩ : ∃ m2, L.length = m2 := ⟨_, rfl⟩
      rw [hm2] at hS hln ⊢
      have hm2' := Lib.hid hm2
      have hS' := Lib.hid (show Sep w wr [Row 146 3 (heavy (L.take 0)).length (.slice none (heavy (L.take 0)).length 0) (flat encEd (heavy (L.take 0))), Row 146 3 m2 (.slice a m2 c) (flat encEd L), Blk b0 [.slice none 0 0, .bool false] 179] from
        hS.out.add (P := Row 146 3 0 (.slice none 0 0) []) (Mod.refl _ _) (F := []) ⟨World.ownsRow_nil wr 0 _ 3, by simp [Value.ownBlock]⟩ (by simp))
      have hh0 := Lib.hid (show (heavy (L.take 0)).length = 0 by simp [heavy])
      clear hm2 hall hlt hS hwt hw'
      go_wp2_with fail
      go_loopw [6, 7] (fun s6 s7 wr => ∃ (j : Nat) (a6 : Option Addr) (c6 : Nat), j ≤ m2 ∧ s7 = .int .i64 j ∧ s6 = .slice a6 (heavy (L.take j)).length c6 ∧ Hid (Sep w wr [Row 146 3 (heavy (L.take j)).length (.slice a6 (heavy (L.take j)).length c6) (flat encEd (heavy (L.take j))), Row 146 3 m2 (.slice a m2 c) (flat encEd L), Blk b0 [.slice none 0 0, .bool false] 179])) (fun _ s7 _ => m2 - (intOf s7).toNat)
      case atStart => exact ⟨0, none, 0, Nat.zero_le _, rfl, by rw [hh0.out], hS'⟩
      case round =>
        clear hS' hh0
        obtain ⟨j, a6, c6, hj, rfl, rfl, hS⟩ := hrel
        have hHl := heavy_len (L.take j)
        rw [List.length_take] at hHl
        by_cases hlt2 : j < m2
        · have hlt3 : (j : Int) < m2 := by omega
          have hjl : j < L.length := by rw [hm2'.out]; exact hlt2
          have hrow := hS.out.swap.row
          rw [← hm2'.out] at hrow
          obtain ⟨g2, rfl, hg2, _, r0, r1, r2⟩ := ed_row (L := L) hrow hjl
          have hstp := heavy_step hjl
          generalize L[j] = x at *
          obtain ⟨xu, xv, xw⟩ := x
          simp only at r0 r1 r2 hstp
          obtain ⟨H, hH⟩ : ∃ H, heavy (L.take j) = H := ⟨_, rfl⟩
          obtain ⟨H2, hH2⟩ : ∃ H2, heavy (L.take (j + 1)) = H2 := ⟨_, rfl⟩
          rw [hH] at hS hHl hstp ⊢
          rw [hH2] at hstp
          have hH2' := Lib.hid hH2
          clear hrow hH hH2
          by_cases hx : xw = 0
          · rw [if_neg (by simpa using hx), List.append_nil] at hstp
            have t1 : (xw != 0) = false := by simpa using hx
            have hstp' := Lib.hid hstp
            clear hstp hx
            go_wp2_with fail
            go_roundw
            case rel => exact ⟨j + 1, a6, c6, by omega, by go_num, by rw [hH2'.out, hstp'.out], by rw [hH2'.out, hstp'.out]; exact hS⟩
            case measure => simp [intOf]; omega
          · rw [if_pos (by simpa using hx)] at hstp
            have t1 : (xw != 0) = true := by simpa using hx
            have hstp' := Lib.hid hstp
            obtain ⟨n, hn⟩ : ∃ n, H.length = n := ⟨_, rfl⟩
            rw [hn] at hS hHl ⊢
            have hn' := Lib.hid hn
            clear hstp hx hn
            go_wp2_with (at_builtin; refine app_own rfl (.tmp 50) (.tmp 55) 22 146 _ 3 24 rfl Tryz.underlying22 infoEd rfl (by omega) (by omega) (.slice a6 n c6) n 1 (flat encEd H) (encEd (xu, xv, xw)) rfl rfl (by simp [World.setCell]) rfl (by simp [encEd, Value.oneCell']) hS.out.row (by omega) ?_; intro a7 c7 w7 ho7 hm7 hb7; have hS7 := Lib.hid (hS.out.grow ho7 hm7 hb7); clear ho7 hm7 hb7)
            go_roundw
            case rel =>
              refine ⟨j + 1, a7, c7, by omega, by go_num, by rw [hH2'.out, hstp'.out]; simp [hn'.out], ?_⟩
              rw [hH2'.out, hstp'.out]
              have h7 := hS7.out
              rw [← hn'.out] at h7
              exact Lib.hid (sep_row1 h7)
            case measure => simp [intOf]; omega
        · obtain rfl : j = m2 := by omega
          have hme : heavy (L.take j) = merged l := by rw [hmer.out, ← hm2'.out, List.take_length]
          rw [hme] at hS ⊢
          have hS1 := hS.out.swap.tail
          have hres := hS1.swap.blk
          obtain ⟨n, hn⟩ : ∃ n, (merged l).length = n := ⟨_, rfl⟩
          rw [hn] at hS1 ⊢
          have hS5 := (hS1.swap.set 0 (.slice a6 n c6)).set 1 (.bool true)
          have hb5 := hS5.blk
          have z0 := hres.cell 0 rfl
          have z1 := hres.cell 1 rfl
          have zf := hres.free
          have zl := hres.lt
          have s0 := hb5.cell 0 rfl
          have s1 := hb5.cell 1 rfl
          have hfin := Lib.hid (RMergeOut.mk (l := l) (w := w) (e := .returned (.agg #[.slice a6 n c6, .bool true])) ⟨a6, c6, by rw [hn], by rw [hn]; exact hS5.swap.toMade⟩)
          clear hS hres hS5 hb5 hS1 hme hn hHl
          go_wp2_with fail
          generalize (wr.setCell ⟨b0, 0, none⟩ (.slice a6 n c6)).setCell ⟨b0, 1, none⟩ (.bool true) = wf at *
          refine bodyPost_ret (v := .agg #[.slice a6 n c6, .bool true]) ?_ rfl hfin.out
          simp [results, Tryz.results108, go_sem, s0, s1]
theorem rmerge_any {l : List Ed} {v : Value} {w : World} (h : Rd w 3 v l.length (flat encEd l)) (hl : l.length ≤ 1048576) (hw : ∀ e ∈ l, 0 ≤ e.2.2 ∧ e.2.2 ≤ 2147483648) :
    Calls Tryz.prog 108 #[v] w (RMergeOut l w) :=
  rmerge_tot h hl (fun e he => (hw e he).1) (by have := (total_le hw).2; omega)
end Edge
end Go.Proofs.YtjpfmkfikidgkaaGreat
