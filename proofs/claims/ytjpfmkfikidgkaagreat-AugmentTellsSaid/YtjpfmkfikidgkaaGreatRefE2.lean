/- The reference's edges: an edge is put in order into the merged ones. -/
import Derived.Test.YtjpfmkfikidgkaaGreatRefE1
set_option linter.unusedVariables false
set_option linter.unusedSimpArgs false
namespace Go.Proofs.YtjpfmkfikidgkaaGreat
open Go.RowKit
namespace Edge
theorem flat_one' (e : Ed) : flat encEd [e] = encEd e := by simp [flat]
theorem addR_at {l : List Ed} {k : Nat} (hk : k < l.length) (d : Bool) (e : Ed) : addR d (l.drop k) e = if key l[k] = key e then (l[k].1, l[k].2.1, l[k].2.2 + e.2.2) :: addR true (l.drop (k + 1)) e else if d = false ∧ before (key e) (key l[k]) then e :: l[k] :: addR true (l.drop (k + 1)) e else l[k] :: addR d (l.drop (k + 1)) e := by
  rw [List.drop_eq_getElem_cons hk]
  rfl
/-- What add holds behind k edges. -/
structure ASt (w wr : World) (b0 b1 : Nat) (l : List Ed) (e : Ed) (k : Nat) (d : Bool) (out : List Ed) (a : Option Addr) (c : Nat) : Prop where
  eq : out ++ addR d (l.drop k) e = addR false l e
  sep : Sep w wr [Row 146 3 out.length (.slice a out.length c) (flat encEd out), Blk b1 [.slice none 0 0, .bool false] 179, Blk b0 [.int .i64 e.1, .int .i64 e.2.1, .int .i64 e.2.2] 146]
theorem ASt.len {w wr : World} {b0 b1 : Nat} {l : List Ed} {e : Ed} {k : Nat} {d : Bool} {out : List Ed} {a : Option Addr} {c : Nat} (h : ASt w wr b0 b1 l e k d out a c) : out.length ≤ l.length + 1 := by
  have h1 := congrArg List.length h.eq
  have h2 := addR_len (e := e) (l := l) (d := false)
  simp only [List.length_append, Bool.false_eq_true, if_false] at h1 h2
  omega
theorem sep_row1 {w0 w : World} {c : Nat} {a : Option Addr} {e : Ed} {L : List Ed} {R : List Part} (h : Sep w0 w (Row 146 3 (L.length + 1) (.slice a (L.length + 1) c) (flat encEd L ++ encEd e) :: R)) :
    Sep w0 w (Row 146 3 (L ++ [e]).length (.slice a (L ++ [e]).length c) (flat encEd (L ++ [e])) :: R) := by
  rw [flat_append, flat_one', List.length_append]
  exact h
/-- What add answers. -/
structure AddOut (l : List Ed) (e : Ed) (w : World) (en : Ending) (w' : World) : Prop where
  mk ::
  out : ∃ a c, en = .returned (.agg #[.slice a (addR false l e).length c, .bool true]) ∧ Made w w' 146 3 a (addR false l e).length c (flat encEd (addR false l e))
set_option maxRecDepth 100000 in
set_option maxHeartbeats 8000000 in
theorem radd_edge {l : List Ed} {v : Value} {e : Ed} {w : World} (h : Rd w 3 v l.length (flat encEd l)) (hl : l.length ≤ 2097152) (hw : ∀ x ∈ l, 0 ≤ x.2.2 ∧ x.2.2 + e.2.2 ≤ 4611686018427387904) (he : 0 ≤ e.2.2) :
    Calls Tryz.prog 179 #[v, edV e] w (AddOut l e w) := by
  obtain ⟨a0, c0, rfl⟩ := h.val
  have h' := Lib.hid h
  have hw' := Lib.hid hw
  obtain ⟨m, hm⟩ : ∃ m, l.length = m := ⟨_, rfl⟩
  rw [hm] at hl
  rw [hm]
  have hm' := Lib.hid hm
  have hst := Lib.hid (show ASt w ((w.alloc (.cells #[.int .i64 e.1, .int .i64 e.2.1, .int .i64 e.2.2] 146)).alloc (.cells #[.slice none 0 0, .bool false] 179)) w.heap.size (w.heap.size + 1) l e 0 false [] none 0 from ⟨by simp, by
    have h1 : Sep w w [Row 146 3 0 (.slice none 0 0) []] := (Sep.empty w).add (P := Row 146 3 0 (.slice none 0 0) []) (Mod.refl _ _) (F := []) ⟨World.ownsRow_nil w 0 _ 3, by simp [Value.ownBlock]⟩ (by simp)
    have h2 := (h1.box [.int .i64 e.1, .int .i64 e.2.1, .int .i64 e.2.2] 146).box [.slice none 0 0, .bool false] 179
    rw [World.size_alloc] at h2
    exact h2.pick 2 (by simp)⟩)
  clear h hw hm
  obtain ⟨eu, ev, ew⟩ := e
  simp only at hst he hw'
  obtain ⟨r, hr⟩ : ∃ r, addR false l (eu, ev, ew) = r := ⟨_, rfl⟩
  have hr' := Lib.hid hr
  clear hr
  unfold edV
  go_enter Tryz.func179, Tryz.ntmps179
  go_wp2_with fail
  have hsz := Lib.hid (rfl : w.heap.size = w.heap.size)
  generalize ((w.alloc (.cells #[.int .i64 eu, .int .i64 ev, .int .i64 ew] 146)).alloc (.cells #[.slice none 0 0, .bool false] 179)) = w1 at *
  generalize w.heap.size = b0 at *
  go_loopw [5, 6, 7] (fun s5 s6 s7 wr => ∃ (k : Nat) (d : Bool) (out : List Ed) (a : Option Addr) (c : Nat), k ≤ m ∧ s7 = .int .i64 k ∧ s6 = .bool d ∧ s5 = .slice a out.length c ∧ Hid (ASt w wr b0 (b0 + 1) l (eu, ev, ew) k d out a c)) (fun _ _ s7 _ => m - (intOf s7).toNat)
  case atStart => exact ⟨0, false, [], none, 0, Nat.zero_le _, rfl, rfl, rfl, hst⟩
  case round =>
    clear hst
    obtain ⟨k, d, out, a, c, hk, rfl, rfl, rfl, hst⟩ := hrel
    have hol := hst.out.len
    rw [hm'.out] at hol
    have hS := hst.out.sep
    have heq := hst.out.eq
    obtain ⟨n, hn⟩ : ∃ n, out.length = n := ⟨_, rfl⟩
    have hn' := Lib.hid hn
    rw [hn] at hS hol ⊢
    have hS' := Lib.hid hS
    have hbe := (hS.pick 2 (by simp)).blk
    have e0 := hbe.cell 0 rfl
    have e1 := hbe.cell 1 rfl
    have e2 := hbe.cell 2 rfl
    have el := hbe.lt
    clear hbe hn
    by_cases hlt : k < m
    · have hlt1 : (k : Int) < m := by omega
      have hkl : k < l.length := by rw [hm'.out]; exact hlt
      obtain ⟨g, o, rfl, hg, hcell⟩ := ed_cells h'.out hkl
      obtain ⟨q0, q1, q2⟩ := hcell _ hS.mod
      have hgl : g < wr.heap.size := Nat.lt_of_lt_of_le hg hS.mod.size
      rw [addR_at hkl] at heq
      obtain ⟨hx1, hx2⟩ := hw'.out l[k] (List.getElem_mem hkl)
      generalize l[k] = x at *
      obtain ⟨xu, xv, xw⟩ := x
      simp only at q0 q1 q2 hx1 hx2 heq
      have hS3 := Lib.hid ((hS.box [.int .i64 xu, .int .i64 xv, .int .i64 xw] 146).swap)
      have hS4 := Lib.hid (hS.box [.int .i64 xu, .int .i64 xv, .int .i64 xw] 146)
      clear hst hS hcell hkl hS'
      rcases (show xu < eu ∨ eu < xu ∨ (eu = xu ∧ xv < ev) ∨ (eu = xu ∧ ev < xv) ∨ (eu = xu ∧ ev = xv) by omega) with t1 | t1 | ⟨t0, t1⟩ | ⟨t0, t1⟩ | ⟨t0, t1⟩
      · cases d with
        | true =>
          have t2 : (xu == eu) = false := by simp; omega
          have heq' := Lib.hid (show (out ++ [(xu, xv, xw)]) ++ addR true (l.drop (k + 1)) (eu, ev, ew) = addR false l (eu, ev, ew) by rw [← heq, if_neg (by simp only [key, Prod.mk.injEq]; omega), if_neg (by simp only [before, key]; simp only [Bool.true_eq_false, false_and, not_false_eq_true, true_and] <;> omega)]; simp)
          clear heq hS4
          try clear t0
          go_wp2_with (at_builtin; refine app_own rfl (.tmp 71) (.tmp 73) 22 146 _ 3 24 rfl Tryz.underlying22 infoEd rfl (by omega) (by omega) (.slice a n c) (n) 1 (flat encEd out) (encEd (xu, xv, xw)) rfl rfl (by simp [World.setCell]) rfl (by simp [encEd, Value.oneCell']) hS3.out.row (by omega) ?_; intro a6 c6 w6 ho6 hm6 hb6; have hS6 := Lib.hid (hS3.out.grow ho6 hm6 hb6); clear ho6 hm6 hb6)
          go_roundw
          case rel =>
            refine ⟨k + 1, true, out ++ [(xu, xv, xw)], a6, c6, by omega, by go_num, rfl, by simp [hn'.out], Lib.hid ⟨heq'.out, ?_⟩⟩
            have h6 := (hS6.out.swap.tail)
            rw [← hn'.out] at h6
            exact sep_row1 h6
          case measure => simp [intOf]; omega
        | false =>
          have t2 : (xu == eu) = false := by simp; omega
          have heq' := Lib.hid (show (out ++ [(xu, xv, xw)]) ++ addR false (l.drop (k + 1)) (eu, ev, ew) = addR false l (eu, ev, ew) by rw [← heq, if_neg (by simp only [key, Prod.mk.injEq]; omega), if_neg (by simp only [before, key]; simp only [Bool.true_eq_false, false_and, not_false_eq_true, true_and] <;> omega)]; simp)
          clear heq hS4
          try clear t0
          go_wp2_with (at_builtin; refine app_own rfl (.tmp 71) (.tmp 73) 22 146 _ 3 24 rfl Tryz.underlying22 infoEd rfl (by omega) (by omega) (.slice a n c) (n) 1 (flat encEd out) (encEd (xu, xv, xw)) rfl rfl (by simp [World.setCell]) rfl (by simp [encEd, Value.oneCell']) hS3.out.row (by omega) ?_; intro a6 c6 w6 ho6 hm6 hb6; have hS6 := Lib.hid (hS3.out.grow ho6 hm6 hb6); clear ho6 hm6 hb6)
          go_roundw
          case rel =>
            refine ⟨k + 1, false, out ++ [(xu, xv, xw)], a6, c6, by omega, by go_num, rfl, by simp [hn'.out], Lib.hid ⟨heq'.out, ?_⟩⟩
            have h6 := (hS6.out.swap.tail)
            rw [← hn'.out] at h6
            exact sep_row1 h6
          case measure => simp [intOf]; omega
      · cases d with
        | true =>
          have t2 : (xu == eu) = false := by simp; omega
          have heq' := Lib.hid (show (out ++ [(xu, xv, xw)]) ++ addR true (l.drop (k + 1)) (eu, ev, ew) = addR false l (eu, ev, ew) by rw [← heq, if_neg (by simp only [key, Prod.mk.injEq]; omega), if_neg (by simp only [before, key]; simp only [Bool.true_eq_false, false_and, not_false_eq_true, true_and] <;> omega)]; simp)
          clear heq hS4
          try clear t0
          go_wp2_with (at_builtin; refine app_own rfl (.tmp 71) (.tmp 73) 22 146 _ 3 24 rfl Tryz.underlying22 infoEd rfl (by omega) (by omega) (.slice a n c) (n) 1 (flat encEd out) (encEd (xu, xv, xw)) rfl rfl (by simp [World.setCell]) rfl (by simp [encEd, Value.oneCell']) hS3.out.row (by omega) ?_; intro a6 c6 w6 ho6 hm6 hb6; have hS6 := Lib.hid (hS3.out.grow ho6 hm6 hb6); clear ho6 hm6 hb6)
          go_roundw
          case rel =>
            refine ⟨k + 1, true, out ++ [(xu, xv, xw)], a6, c6, by omega, by go_num, rfl, by simp [hn'.out], Lib.hid ⟨heq'.out, ?_⟩⟩
            have h6 := (hS6.out.swap.tail)
            rw [← hn'.out] at h6
            exact sep_row1 h6
          case measure => simp [intOf]; omega
        | false =>
          have t2 : (xu == eu) = false := by simp; omega
          have heq' := Lib.hid (show ((out ++ [(eu, ev, ew)]) ++ [(xu, xv, xw)]) ++ addR true (l.drop (k + 1)) (eu, ev, ew) = addR false l (eu, ev, ew) by rw [← heq, if_neg (by simp only [key, Prod.mk.injEq]; omega), if_pos (by simp only [before, key]; exact ⟨trivial, by omega⟩)]; simp)
          clear heq hS4
          try clear t0
          go_wp2_with (first
            | (at_builtin; refine app_own rfl (.tmp 67) (.tmp 69) 22 146 _ 3 24 rfl Tryz.underlying22 infoEd rfl (by omega) (by omega) (.slice a n c) (n) 1 (flat encEd out) (encEd (eu, ev, ew)) rfl rfl (by simp [World.setCell]) rfl (by simp [encEd, Value.oneCell']) hS3.out.row (by omega) ?_; intro a5 c5 w5 ho5 hm5 hb5; have hS5 := Lib.hid (hS3.out.grow ho5 hm5 hb5); clear ho5 hm5 hb5; have hbx := hS5.out.swap.blk; have x0 := hbx.cell 0 rfl; have x1 := hbx.cell 1 rfl; have x2 := hbx.cell 2 rfl; have xl := hbx.lt; clear hbx)
            | (at_builtin; refine app_own rfl (.tmp 71) (.tmp 73) 22 146 _ 3 24 rfl Tryz.underlying22 infoEd rfl (by omega) (by omega) (.slice a5 (n + 1) c5) (n + 1) 1 (flat encEd out ++ encEd (eu, ev, ew)) (encEd (xu, xv, xw)) rfl rfl (by simp [World.setCell]) rfl (by simp [encEd, Value.oneCell']) hS5.out.row (by omega) ?_; intro a6 c6 w6 ho6 hm6 hb6; have hS6 := Lib.hid (hS5.out.grow ho6 hm6 hb6); clear ho6 hm6 hb6))
          go_roundw
          case rel =>
            refine ⟨k + 1, true, (out ++ [(eu, ev, ew)]) ++ [(xu, xv, xw)], a6, c6, by omega, by go_num, rfl, by simp [hn'.out], Lib.hid ⟨heq'.out, ?_⟩⟩
            have h6 := (hS6.out.swap.tail)
            rw [← hn'.out, ← flat_one' (eu, ev, ew), ← flat_append] at h6
            refine sep_row1 ?_
            simpa using h6
          case measure => simp [intOf]; omega
      · cases d with
        | true =>
          have t3 : (xu == eu) = true := by simp; omega
          have t5 : ¬ eu < xu := by omega
          have t2 : (xv == ev) = false := by simp; omega
          have heq' := Lib.hid (show (out ++ [(xu, xv, xw)]) ++ addR true (l.drop (k + 1)) (eu, ev, ew) = addR false l (eu, ev, ew) by rw [← heq, if_neg (by simp only [key, Prod.mk.injEq]; omega), if_neg (by simp only [before, key]; simp only [Bool.true_eq_false, false_and, not_false_eq_true, true_and] <;> omega)]; simp)
          clear heq hS4
          try clear t0
          go_wp2_with (at_builtin; refine app_own rfl (.tmp 71) (.tmp 73) 22 146 _ 3 24 rfl Tryz.underlying22 infoEd rfl (by omega) (by omega) (.slice a n c) (n) 1 (flat encEd out) (encEd (xu, xv, xw)) rfl rfl (by simp [World.setCell]) rfl (by simp [encEd, Value.oneCell']) hS3.out.row (by omega) ?_; intro a6 c6 w6 ho6 hm6 hb6; have hS6 := Lib.hid (hS3.out.grow ho6 hm6 hb6); clear ho6 hm6 hb6)
          go_roundw
          case rel =>
            refine ⟨k + 1, true, out ++ [(xu, xv, xw)], a6, c6, by omega, by go_num, rfl, by simp [hn'.out], Lib.hid ⟨heq'.out, ?_⟩⟩
            have h6 := (hS6.out.swap.tail)
            rw [← hn'.out] at h6
            exact sep_row1 h6
          case measure => simp [intOf]; omega
        | false =>
          have t3 : (xu == eu) = true := by simp; omega
          have t5 : ¬ eu < xu := by omega
          have t2 : (xv == ev) = false := by simp; omega
          have heq' := Lib.hid (show (out ++ [(xu, xv, xw)]) ++ addR false (l.drop (k + 1)) (eu, ev, ew) = addR false l (eu, ev, ew) by rw [← heq, if_neg (by simp only [key, Prod.mk.injEq]; omega), if_neg (by simp only [before, key]; simp only [Bool.true_eq_false, false_and, not_false_eq_true, true_and] <;> omega)]; simp)
          clear heq hS4
          try clear t0
          go_wp2_with (at_builtin; refine app_own rfl (.tmp 71) (.tmp 73) 22 146 _ 3 24 rfl Tryz.underlying22 infoEd rfl (by omega) (by omega) (.slice a n c) (n) 1 (flat encEd out) (encEd (xu, xv, xw)) rfl rfl (by simp [World.setCell]) rfl (by simp [encEd, Value.oneCell']) hS3.out.row (by omega) ?_; intro a6 c6 w6 ho6 hm6 hb6; have hS6 := Lib.hid (hS3.out.grow ho6 hm6 hb6); clear ho6 hm6 hb6)
          go_roundw
          case rel =>
            refine ⟨k + 1, false, out ++ [(xu, xv, xw)], a6, c6, by omega, by go_num, rfl, by simp [hn'.out], Lib.hid ⟨heq'.out, ?_⟩⟩
            have h6 := (hS6.out.swap.tail)
            rw [← hn'.out] at h6
            exact sep_row1 h6
          case measure => simp [intOf]; omega
      · cases d with
        | true =>
          have t3 : (xu == eu) = true := by simp; omega
          have t5 : ¬ eu < xu := by omega
          have t2 : (xv == ev) = false := by simp; omega
          have heq' := Lib.hid (show (out ++ [(xu, xv, xw)]) ++ addR true (l.drop (k + 1)) (eu, ev, ew) = addR false l (eu, ev, ew) by rw [← heq, if_neg (by simp only [key, Prod.mk.injEq]; omega), if_neg (by simp only [before, key]; simp only [Bool.true_eq_false, false_and, not_false_eq_true, true_and] <;> omega)]; simp)
          clear heq hS4
          try clear t0
          go_wp2_with (at_builtin; refine app_own rfl (.tmp 71) (.tmp 73) 22 146 _ 3 24 rfl Tryz.underlying22 infoEd rfl (by omega) (by omega) (.slice a n c) (n) 1 (flat encEd out) (encEd (xu, xv, xw)) rfl rfl (by simp [World.setCell]) rfl (by simp [encEd, Value.oneCell']) hS3.out.row (by omega) ?_; intro a6 c6 w6 ho6 hm6 hb6; have hS6 := Lib.hid (hS3.out.grow ho6 hm6 hb6); clear ho6 hm6 hb6)
          go_roundw
          case rel =>
            refine ⟨k + 1, true, out ++ [(xu, xv, xw)], a6, c6, by omega, by go_num, rfl, by simp [hn'.out], Lib.hid ⟨heq'.out, ?_⟩⟩
            have h6 := (hS6.out.swap.tail)
            rw [← hn'.out] at h6
            exact sep_row1 h6
          case measure => simp [intOf]; omega
        | false =>
          have t3 : (xu == eu) = true := by simp; omega
          have t5 : ¬ eu < xu := by omega
          have t2 : (xv == ev) = false := by simp; omega
          have heq' := Lib.hid (show ((out ++ [(eu, ev, ew)]) ++ [(xu, xv, xw)]) ++ addR true (l.drop (k + 1)) (eu, ev, ew) = addR false l (eu, ev, ew) by rw [← heq, if_neg (by simp only [key, Prod.mk.injEq]; omega), if_pos (by simp only [before, key]; exact ⟨trivial, by omega⟩)]; simp)
          clear heq hS4
          try clear t0
          go_wp2_with (first
            | (at_builtin; refine app_own rfl (.tmp 67) (.tmp 69) 22 146 _ 3 24 rfl Tryz.underlying22 infoEd rfl (by omega) (by omega) (.slice a n c) (n) 1 (flat encEd out) (encEd (eu, ev, ew)) rfl rfl (by simp [World.setCell]) rfl (by simp [encEd, Value.oneCell']) hS3.out.row (by omega) ?_; intro a5 c5 w5 ho5 hm5 hb5; have hS5 := Lib.hid (hS3.out.grow ho5 hm5 hb5); clear ho5 hm5 hb5; have hbx := hS5.out.swap.blk; have x0 := hbx.cell 0 rfl; have x1 := hbx.cell 1 rfl; have x2 := hbx.cell 2 rfl; have xl := hbx.lt; clear hbx)
            | (at_builtin; refine app_own rfl (.tmp 71) (.tmp 73) 22 146 _ 3 24 rfl Tryz.underlying22 infoEd rfl (by omega) (by omega) (.slice a5 (n + 1) c5) (n + 1) 1 (flat encEd out ++ encEd (eu, ev, ew)) (encEd (xu, xv, xw)) rfl rfl (by simp [World.setCell]) rfl (by simp [encEd, Value.oneCell']) hS5.out.row (by omega) ?_; intro a6 c6 w6 ho6 hm6 hb6; have hS6 := Lib.hid (hS5.out.grow ho6 hm6 hb6); clear ho6 hm6 hb6))
          go_roundw
          case rel =>
            refine ⟨k + 1, true, (out ++ [(eu, ev, ew)]) ++ [(xu, xv, xw)], a6, c6, by omega, by go_num, rfl, by simp [hn'.out], Lib.hid ⟨heq'.out, ?_⟩⟩
            have h6 := (hS6.out.swap.tail)
            rw [← hn'.out, ← flat_one' (eu, ev, ew), ← flat_append] at h6
            refine sep_row1 ?_
            simpa using h6
          case measure => simp [intOf]; omega
      · have t3 : (xu == eu) = true := by simp; omega
        have t4 : (xv == ev) = true := by simp; omega
        have heq' := Lib.hid (show (out ++ [(xu, xv, xw + ew)]) ++ addR true (l.drop (k + 1)) (eu, ev, ew) = addR false l (eu, ev, ew) by rw [← heq, if_pos (by simp only [key, Prod.mk.injEq]; omega)]; simp)
        have hra := Lib.hid (fun W => radd_any hx1 he hx2 W)
        clear heq hS3 t0 t1
        go_wp2_with fail
        refine (hra.out _).mono ?_
        rintro e w2 ⟨rfl, hm2⟩
        try dsimp only
        have hS5 := hS4.out.still hm2
        have hbx := hS5.blk
        have x0 := hbx.cell 0 rfl
        have x1 := hbx.cell 1 rfl
        have x2 := hbx.cell 2 rfl
        have xf := hbx.free
        have xl := hbx.lt
        have hS7 := hS5.set 2 (.int .i64 (xw + ew))
        have hbx2 := hS7.blk
        have y0 := hbx2.cell 0 rfl
        have y1 := hbx2.cell 1 rfl
        have y2 := hbx2.cell 2 rfl
        have yl := hbx2.lt
        have hS8 := Lib.hid (hS7.swap.still ((Mod.refl [] _).alloc (.cells #[.int .i64 (xw + ew), .bool true] 311)))
        clear hm2 hS4 hS5 hS7 hbx hbx2
        go_wp2_with (at_builtin; refine app_own rfl (.tmp 71) (.tmp 73) 22 146 _ 3 24 rfl Tryz.underlying22 infoEd rfl (by omega) (by omega) (.slice a n c) (n) 1 (flat encEd out) (encEd (xu, xv, xw + ew)) rfl rfl (by simp [World.setCell]) rfl (by simp [encEd, Value.oneCell']) hS8.out.row (by omega) ?_; intro a6 c6 w6 ho6 hm6 hb6; have hS6 := Lib.hid (hS8.out.grow ho6 hm6 hb6); clear ho6 hm6 hb6)
        go_roundw
        case rel =>
          refine ⟨k + 1, true, out ++ [(xu, xv, xw + ew)], a6, c6, by omega, by go_num, rfl, by simp [hn'.out], Lib.hid ⟨heq'.out, ?_⟩⟩
          have h6 := (hS6.out.swap.tail)
          rw [← hn'.out] at h6
          exact sep_row1 h6
        case measure => simp [intOf]; omega
    · have hkm : k = m := by omega
      subst hkm
      have hd : l.drop k = [] := by rw [← hm'.out]; exact List.drop_length
      rw [hd] at heq
      have hres := (hS.swap.blk)
      cases d with
      | true =>
        have hout : out = addR false l (eu, ev, ew) := by rw [← heq]; simp [addR]
        have hS5 := (hS.swap.set 0 (.slice a n c)).set 1 (.bool true)
        have hb5 := hS5.blk
        have z0 := hres.cell 0 rfl
        have z1 := hres.cell 1 rfl
        have zf := hres.free
        have zl := hres.lt
        have s0 := hb5.cell 0 rfl
        have s1 := hb5.cell 1 rfl
        have hfin := Lib.hid (AddOut.mk (l := l) (e := (eu, ev, ew)) (w := w) (en := .returned (.agg #[.slice a n c, .bool true])) ⟨a, c, by rw [← hout, hn'.out], by rw [← hout, hn'.out]; exact hS5.swap.toMade⟩)
        clear hst hS hS' hres hS5 hb5 heq hout hd
        go_wp2_with fail
        generalize (wr.setCell ⟨b0 + 1, 0, none⟩ (.slice a n c)).setCell ⟨b0 + 1, 1, none⟩ (.bool true) = wf at *
        refine bodyPost_ret (v := .agg #[.slice a n c, .bool true]) ?_ rfl hfin.out
        simp [results, Tryz.results179, go_sem, s0, s1]
      | false =>
        have hout := Lib.hid (show out ++ [(eu, ev, ew)] = addR false l (eu, ev, ew) by rw [← heq]; simp [addR])
        clear hst hS hres heq hd
        go_upto_region 19 with (at_builtin; refine app_own rfl (.tmp 77) (.tmp 79) 22 146 _ 3 24 rfl Tryz.underlying22 infoEd rfl (by omega) (by omega) (.slice a n c) (n) 1 (flat encEd out) (encEd (eu, ev, ew)) rfl rfl (by simp [World.setCell]) rfl (by simp [encEd, Value.oneCell']) hS'.out.row (by omega) ?_; intro a6 c6 w6 ho6 hm6 hb6; have hS6 := Lib.hid (hS'.out.grow ho6 hm6 hb6); clear ho6 hm6 hb6)
        have hS := hS6.out
        rw [← hn'.out] at hS
        replace hS := sep_row1 hS
        rw [hout.out] at hS
        have hle : out.length + 1 = (addR false l (eu, ev, ew)).length := by rw [← hout.out]; simp
        have hres := (hS.swap.blk)
        have hS5 := (hS.swap.set 0 (.slice a6 (n + 1) c6)).set 1 (.bool true)
        have hb5 := hS5.blk
        have z0 := hres.cell 0 rfl
        have z1 := hres.cell 1 rfl
        have zf := hres.free
        have zl := hres.lt
        have s0 := hb5.cell 0 rfl
        have s1 := hb5.cell 1 rfl
        have hfin := Lib.hid (AddOut.mk (l := l) (e := (eu, ev, ew)) (w := w) (en := .returned (.agg #[.slice a6 (n + 1) c6, .bool true])) ⟨a6, c6, by rw [← hle, hn'.out], hS5.swap.toMade⟩)
        clear hS hres hS5 hb5 hS6 hout hle
        go_wp2_with fail
        generalize (w6.setCell ⟨b0 + 1, 0, none⟩ (.slice a6 (n + 1) c6)).setCell ⟨b0 + 1, 1, none⟩ (.bool true) = wf at *
        refine bodyPost_ret (v := .agg #[.slice a6 (n + 1) c6, .bool true]) ?_ rfl hfin.out
        simp [results, Tryz.results179, go_sem, s0, s1]
end Edge
end Go.Proofs.YtjpfmkfikidgkaaGreat
