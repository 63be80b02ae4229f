/- Merge: DeleteFunc of the edges that weigh nothing. -/
import Derived.Test.YtjpfmkfikidgkaaGreatEdRow
import Derived.Test.YtjpfmkfikidgkaaGreatPosLaw
import Derived.Lib.SliceRun
import Derived.Laws.EntriesVeiled
set_option linter.unusedVariables false
set_option linter.unusedSimpArgs false
namespace Go.Proofs.YtjpfmkfikidgkaaGreat
open Go.RowKit
namespace Edge
theorem zero_any (e : Ed) (w : World) : Calls Tryz.prog 170 #[edV e] w fun en w' => en = .returned (.bool (e.2.2 == 0)) ∧ Mod [] w w' := by
  obtain ⟨u, v, c⟩ := e
  unfold edV
  go_enter Tryz.func170, Tryz.ntmps170
  go_wp2_with fail
  go_ret
  exact ⟨rfl, (Mod.refl [] w).alloc _⟩
/-- The place of the first one that weighs nothing. -/
def firstZ : Nat → List Ed → Int
  | _, [] => -1
  | i, e :: l => if e.2.2 = 0 then i else firstZ (i + 1) l
theorem firstZ_none : ∀ {l : List Ed} {i : Nat}, firstZ i l = -1 → heavy l = l
  | [], _, _ => rfl
  | e :: l, i, h => by
    unfold firstZ at h
    by_cases c : e.2.2 = 0
    · rw [if_pos c] at h; omega
    · rw [if_neg c] at h
      have := firstZ_none h
      unfold heavy at this ⊢
      rw [List.filter_cons, if_pos (by simpa using c), this]
theorem firstZ_some : ∀ {l : List Ed} {i : Nat}, firstZ i l ≠ -1 → ∃ (j : Nat) (hj : j < l.length), firstZ i l = ((i + j : Nat) : Int) ∧ l[j].2.2 = 0 ∧ heavy (l.take j) = l.take j
  | [], _, h => absurd rfl h
  | e :: l, i, h => by
    unfold firstZ at h ⊢
    by_cases c : e.2.2 = 0
    · rw [if_pos c]
      exact ⟨0, by simp, by omega, c, rfl⟩
    · rw [if_neg c] at h ⊢
      obtain ⟨j, hj, h1, h2, h3⟩ := firstZ_some h
      refine ⟨j + 1, by simp; omega, by rw [h1]; omega, h2, ?_⟩
      rw [List.take_succ_cons]
      unfold heavy at h3 ⊢
      rw [List.filter_cons, if_pos (by simpa using c), h3]
set_option maxRecDepth 100000 in
set_option maxHeartbeats 1000000 in
theorem index_any {l : List Ed} {v : Value} {w : World} (h : Rd w 3 v l.length (flat encEd l)) :
    Calls Tryz.prog 219 #[v, .func (.func 170) #[] #[]] w fun en w' => en = .returned (.int .i64 (firstZ 0 l)) ∧ Mod [] w w' := by
  obtain ⟨a, c, rfl⟩ := h.val
  have hle := h.le
  have h' := Lib.hid h
  obtain ⟨r, hr⟩ : ∃ r, firstZ 0 l = r := ⟨_, rfl⟩
  rw [hr]
  have hr' := Lib.hid hr
  obtain ⟨m, hm⟩ : ∃ m, l.length = m := ⟨_, rfl⟩
  rw [hm]
  have hm' := Lib.hid hm
  rw [hm] at hle
  clear h hr hm
  go_enter Tryz.func219, Tryz.ntmps219
  go_wp2_with fail
  go_loopw [8] (fun i wr => ∃ k : Nat, k ≤ m ∧ i = .int .i64 k ∧ Hid (firstZ k (l.drop k) = r) ∧ Hid (Mod [] w wr)) (fun i _ => m - (intOf i).toNat)
  case atStart => exact ⟨0, Nat.zero_le _, rfl, hr', Lib.hid (Mod.refl _ _)⟩
  case round =>
    clear hr'
    obtain ⟨k, hk, rfl, hc, hmod⟩ := hrel
    by_cases hlt : k < m
    · have hlt1 : (k : Int) < m := by omega
      have hkl : k < l.length := by rw [hm'.out]; exact hlt
      obtain ⟨g, o, rfl, hg, hcell⟩ := ed_cells h'.out hkl
      obtain ⟨q0, q1, q2⟩ := hcell _ hmod.out
      have hgl : g < wr.heap.size := Nat.lt_of_lt_of_le hg hmod.out.size
      have hd : l.drop k = l[k] :: l.drop (k + 1) := List.drop_eq_getElem_cons hkl
      rw [hd] at hc
      generalize l[k] = e at *
      obtain ⟨eu, ev, ec⟩ := e
      simp only at q0 q1 q2
      have hz := fun W => zero_any (eu, ev, ec) W
      unfold edV at hz
      simp only at hz
      have hc2 : Hid ((ec ≠ 0 ∧ firstZ (k + 1) (l.drop (k + 1)) = r) ∨ (ec = 0 ∧ r = k)) := by
        have := hc.out
        unfold firstZ at this
        by_cases h0 : ec = 0
        · rw [if_pos h0] at this; exact Lib.hid (.inr ⟨h0, this.symm⟩)
        · rw [if_neg h0] at this; exact Lib.hid (.inl ⟨h0, this⟩)
      clear hc hd hcell hkl
      rcases hc2.out with ⟨hne, hc3⟩ | ⟨rfl, rfl⟩
      · have hne1 : (ec == 0) = false := by simpa using hne
        rw [hne1] at hz
        have hz' := Lib.hid hz
        have hc3' := Lib.hid hc3
        clear hc2 hc3 hne hne1 hz
        go_wp2_with fail
        refine (hz'.out _).mono ?_
        rintro e w1 ⟨rfl, hm1⟩
        try dsimp only
        have hm2 := Lib.hid (hmod.out.trans hm1 (by simp))
        clear hm1
        go_wp2_with fail
        go_roundw
        case rel => exact ⟨k + 1, by omega, by go_num, hc3', hm2⟩
        case measure => simp [intOf]; omega
      · have hz' := Lib.hid hz
        clear hc2 hz
        go_wp2_with fail
        refine (hz'.out _).mono ?_
        rintro e w1 ⟨rfl, hm1⟩
        try dsimp only
        have hm2 := Lib.hid (hmod.out.trans hm1 (by simp))
        clear hm1
        go_wp2_with fail
        go_ret
        exact ⟨rfl, hm2.out⟩
    · have hkm : k = m := by omega
      subst hkm
      have hd : l.drop k = [] := by rw [← hm'.out]; exact List.drop_length
      rw [hd] at hc
      have hc2 : -1 = r := hc.out
      subst hc2
      clear hd hc
      go_wp2_with fail
      go_ret
      exact ⟨rfl, hmod.out⟩
/-! ### what is left of a row -/
theorem sep_shrink {w0 w : World} {e size n g c : Nat} {xs : List Value} {L : List Part} (h : Sep w0 w (Row e size n (.slice (some ⟨g, 0, none⟩) n c) xs :: L)) {i : Nat} (hi : i ≤ n) :
    Sep w0 w (Row e size i (.slice (some ⟨g, 0, none⟩) i c) (xs.take (i * size)) :: L) := by
  obtain ⟨F, ⟨h1, rfl⟩, h2, h3⟩ := h.first
  refine h3 _ w _ ⟨?_, rfl⟩ (Mod.refl _ _) (fun b hb => .inl hb)
  obtain ⟨hl, h1⟩ := h1
  have hle : i * size ≤ n * size := Nat.mul_le_mul_right _ hi
  refine ⟨by rw [List.length_take, hl]; omega, ?_⟩
  rcases h1 with ⟨he, _⟩ | ⟨g', cap, cur, he, a1, a2, a3, a4, a5, a6⟩
  · cases he
  · injection he with e1 e2 e3
    injection e1 with e1
    injection e1 with e1
    subst e1
    subst e3
    refine .inr ⟨g, c, cur, rfl, a1, a2, by omega, a4, a5, ?_⟩
    rw [← a6, List.take_take, Nat.min_eq_left hle]
theorem sep_beyond {w0 w : World} {e size n g c : Nat} {xs : List Value} {L : List Part} (h : Sep w0 w (Row e size n (.slice (some ⟨g, 0, none⟩) n c) xs :: L)) : ∀ (vs : List Value) (j : Nat) (w : World), Sep w0 w (Row e size n (.slice (some ⟨g, 0, none⟩) n c) xs :: L) → n * size ≤ j → Sep w0 (w.setCells g j vs) (Row e size n (.slice (some ⟨g, 0, none⟩) n c) xs :: L)
  | [], _, _, h, _ => h
  | v :: vs, j, w, h, hj => by
    have hx : xs.length = n * size := by have := h.row; exact this.1
    have h2 := h.rowset j v
    rw [List.set_eq_of_length_le (by omega)] at h2
    exact sep_beyond h2 vs (j + 1) _ h2 (by omega)
theorem flat_set3 {L : List Ed} {j : Nat} (hj : j < L.length) (x : Ed) : (((flat encEd L).set (j * 3) (.int .i64 x.1)).set (j * 3 + 1) (.int .i64 x.2.1)).set (j * 3 + 2) (.int .i64 x.2.2) = flat encEd (L.set j x) := by
  rw [flat_split L j hj, show j * 3 = j * 3 + 0 from rfl]
  have hl := flat_take_length (enc := encEd) (size := 3) encEd_len L j hj
  rw [mid_set _ _ _ (j * 3) 0 _ hl (by simp [encEd]), mid_set _ _ _ (j * 3) 1 _ hl (by simp [encEd]), mid_set _ _ _ (j * 3) 2 _ hl (by simp [encEd]), ← flat_mid L j hj]
  rfl
theorem flat_take {L : List Ed} {i : Nat} (hi : i ≤ L.length) : (flat encEd L).take (i * 3) = flat encEd (L.take i) := by
  have e : flat encEd L = flat encEd (L.take i) ++ flat encEd (L.drop i) := by rw [← flat_append, List.take_append_drop]
  rw [e, List.take_left' (by rw [flat_length encEd_len, List.length_take, Nat.min_eq_left hi])]
def zs (n : Nat) : List Value := (Builtin.zeroCells #[.int .i64 0, .int .i64 0, .int .i64 0] n).toList
theorem zs_len (n : Nat) : (zs n).length = n * 3 := by simp [zs, Builtin.zeroCells]
theorem zs_one (n : Nat) : ∀ u ∈ zs n, u.oneCell' = true := by
  intro u hu
  simp only [zs, Builtin.zeroCells, Array.toList_map, List.mem_map] at hu
  obtain ⟨i, _, rfl⟩ := hu
  have h : i % 3 < 3 := Nat.mod_lt _ (by omega)
  show (#[Value.int .i64 0, Value.int .i64 0, Value.int .i64 0][i % 3]!).oneCell' = true
  rcases (show i % 3 = 0 ∨ i % 3 = 1 ∨ i % 3 = 2 by omega) with e | e | e <;> rw [e] <;> rfl
theorem run_clear_ed (w : World) (ty : TypeId) (g o n c : Nat) (hn : 0 < n) (hc : ∀ j, j < n * 3 → (w.cell? ⟨g, o + j, none⟩).isSome = true) (hf : ∀ j, j < n * 3 → w.frozen? ⟨g, o + j, none⟩ = false) :
    (Builtin.clear_ #[22] ty #[.slice (some ⟨g, o, none⟩) n c]).run Tryz.prog w = .ok (.tuple #[]) (w.setCells g o (zs n)) := by
  have hst := run_storeCells_cells (P := Tryz.prog) g o (zs n) 0 w (by rw [zs_len]; simpa using hc) (by rw [zs_len]; simpa using hf) (zs_one n)
  simp only [Nat.add_zero] at hst
  have hv := Tryz.zeroValue146
  obtain ⟨m, rfl⟩ : ∃ m, n = m + 1 := ⟨n - 1, by omega⟩
  unfold zs at hst ⊢
  simp [Builtin.clear_, run_underlying Tryz.underlying22, hv, hst, Value.cells]
/-- What DeleteFunc has behind j edges: i are kept. -/
structure Kept (L D : List Ed) (i j : Nat) : Prop where
  len : D.length = L.length
  lt : i < j
  le : j ≤ L.length
  low : D.take i = heavy (L.take j)
  high : D.drop j = L.drop j
theorem Kept.start {L : List Ed} {j : Nat} (hj : j < L.length) (hz : L[j].2.2 = 0) (hh : heavy (L.take j) = L.take j) : Kept L L j (j + 1) :=
  ⟨rfl, by omega, by omega, by rw [List.take_succ_eq_append_getElem hj]; unfold heavy at hh ⊢; rw [List.filter_append, hh]; simp [hz], rfl⟩
theorem Kept.at {L D : List Ed} {i j : Nat} (h : Kept L D i j) (hj : j < L.length) : D[j]'(by rw [h.len]; exact hj) = L[j] := by
  have h1 := h.high
  rw [List.drop_eq_getElem_cons hj, List.drop_eq_getElem_cons (by rw [h.len]; exact hj)] at h1
  exact (List.cons.inj h1).1
theorem Kept.skip {L D : List Ed} {i j : Nat} (h : Kept L D i j) (hj : j < L.length) (hz : L[j].2.2 = 0) : Kept L D i (j + 1) := by
  refine ⟨h.len, by have := h.lt; omega, by omega, ?_, ?_⟩
  · rw [h.low, List.take_succ_eq_append_getElem hj]; unfold heavy; rw [List.filter_append]; simp [hz]
  · have := congrArg (List.drop 1) h.high
    simpa [List.drop_drop] using this
theorem Kept.keep {L D : List Ed} {i j : Nat} (h : Kept L D i j) (hj : j < L.length) (hz : L[j].2.2 ≠ 0) : Kept L (D.set i L[j]) (i + 1) (j + 1) := by
  have hlt := h.lt
  have hlen := h.len
  refine ⟨by rw [List.length_set]; exact h.len, by omega, by omega, ?_, ?_⟩
  · rw [List.take_succ_eq_append_getElem (by rw [List.length_set]; omega), List.getElem_set_self, List.take_set_of_le (Nat.le_refl _), h.low, List.take_succ_eq_append_getElem hj]
    unfold heavy
    rw [List.filter_append]
    simp [hz]
  · rw [List.drop_set_of_lt (by omega)]
    have := congrArg (List.drop 1) h.high
    simpa [List.drop_drop] using this
set_option maxRecDepth 100000 in
set_option maxHeartbeats 4000000 in
theorem delete_any {w0 w : World} {L : List Ed} {a : Option Addr} {c : Nat} {R : List Part} (hS : Sep w0 w (Row 146 3 L.length (.slice a L.length c) (flat encEd L) :: R)) (hl : L.length ≤ 1048576) :
    Calls Tryz.prog 169 #[.slice a L.length c, .func (.func 170) #[] #[]] w fun en w' => en = .returned (.slice a (heavy L).length c) ∧ Sep w0 w' (Row 146 3 (heavy L).length (.slice a (heavy L).length c) (flat encEd (heavy L)) :: R) := by
  have hix := Lib.hid (index_any (Rd.own hS.row))
  have hS' := Lib.hid hS
  clear hS
  obtain ⟨n, hn⟩ : ∃ n, L.length = n := ⟨_, rfl⟩
  by_cases hz : firstZ 0 L = -1
  · have hh := Lib.hid (firstZ_none hz)
    rw [hz] at hix
    rw [hn] at hix hl ⊢
    have hn' := Lib.hid hn
    clear hz hn
    go_enter Tryz.func169, Tryz.ntmps169
    go_wp2_with fail
    refine hix.out.mono ?_
    rintro e w1 ⟨rfl, hm⟩
    try dsimp only
    have hS1 := Lib.hid (hS'.out.still hm)
    clear hm hS'
    go_wp2_with fail
    go_ret
    rw [hh.out, hn'.out]
    have := hS1.out
    rw [hn'.out] at this
    exact ⟨rfl, this⟩
  · obtain ⟨j0, hj0, hz1, hz2, hz3⟩ := firstZ_some hz
    rw [Nat.zero_add] at hz1
    rw [hz1] at hix
    obtain ⟨g, rfl, _⟩ : ∃ g, a = some ⟨g, 0, none⟩ ∧ True := by
      rcases hS'.out.row.2 with ⟨he, h0⟩ | ⟨g, cap, cur, he, _⟩
      · omega
      · injection he with he _ _; exact ⟨g, he, trivial⟩
    have hst := Lib.hid (Kept.start hj0 hz2 hz3)
    rw [hn] at hix hl hS' ⊢
    have hn' := Lib.hid hn
    have hj0' : j0 < n := by omega
    clear hz hz1 hz2 hz3 hn hj0
    go_enter Tryz.func169, Tryz.ntmps169
    go_wp2_with fail
    refine hix.out.mono ?_
    rintro e w1 ⟨rfl, hm⟩
    try dsimp only
    have hS1 := Lib.hid (hS'.out.still hm)
    have hj1 : ((j0 : Int) == -1) = false := by simp
    clear hm hS' hix
    go_wp2_with fail
    go_loopw [5, 6] (fun s5 s6 wr => ∃ (i j : Nat) (D : List Ed), j ≤ n ∧ s5 = .int .i64 i ∧ s6 = .int .i64 j ∧ Hid (Kept L D i j) ∧ Hid (Sep w0 wr (Row 146 3 n (.slice (some ⟨g, 0, none⟩) n c) (flat encEd D) :: R))) (fun _ s6 _ => n - (intOf s6).toNat)
    case atStart => exact ⟨j0, j0 + 1, L, by omega, rfl, by go_num, hst, hS1⟩
    case round =>
      clear hst hS1 hj1 hj0'
      obtain ⟨i, j, D, hj, rfl, rfl, hK, hS⟩ := hrel
      have hDl : D.length = n := by rw [hK.out.len, hn'.out]
      have hij := hK.out.lt
      by_cases hlt : j < n
      · have hlt1 : (j : Int) < n := by omega
        have hjl : j < L.length := by rw [hn'.out]; exact hlt
        have hrow := hS.out.row
        have hDj := hK.out.at hjl
        obtain ⟨g', eg, hgl, hzf, q0, q1, q2⟩ := ed_row (L := D) (by rw [hDl]; exact hrow) (show j < D.length by omega)
        obtain ⟨g'', eg2, _, _, r0, r1, r2⟩ := ed_row (L := D) (by rw [hDl]; exact hrow) (show i < D.length by omega)
        simp only [Option.some.injEq, Addr.mk.injEq, and_true] at eg eg2
        subst eg
        subst eg2
        rw [hDj] at q0 q1 q2
        have hkp := Lib.hid (fun (h0 : L[j].2.2 ≠ 0) => hK.out.keep hjl h0)
        have hsk := Lib.hid (fun (h0 : L[j].2.2 = 0) => hK.out.skip hjl h0)
        have hz := fun W => zero_any L[j] W
        have hfs := Lib.hid (flat_set3 (L := D) (show i < D.length by omega) L[j])
        generalize L[j] = e at *
        obtain ⟨eu, ev, ec⟩ := e
        unfold edV at hz
        simp only at hz q0 q1 q2
        generalize D[i] = y at *
        obtain ⟨yu, yv, yc⟩ := y
        simp only at r0 r1 r2
        have hDl' := Lib.hid hDl
        clear hrow hDj hDl
        by_cases h0 : ec = 0
        · have hk2 := Lib.hid (hsk.out h0)
          subst h0
          have hz' := Lib.hid hz
          clear hz hkp hsk hK hfs r0 r1 r2
          go_wp2_with fail
          refine (hz'.out _).mono ?_
          rintro e w2 ⟨rfl, hm2⟩
          try dsimp only
          have hS2 := Lib.hid ((hS.out.still ((Mod.refl [] wr).alloc _)).still hm2)
          clear hm2 hS
          go_wp2_with fail
          go_roundw
          case rel => exact ⟨i, j + 1, D, by omega, rfl, by go_num, hk2, hS2⟩
          case measure => simp [intOf]; omega
        · have hk2 := Lib.hid (hkp.out h0)
          have h0' : (ec == 0) = false := by simpa using h0
          rw [h0'] at hz
          have hz' := Lib.hid hz
          clear hz hkp hsk hK h0 h0'
          go_wp2_with fail
          refine (hz'.out _).mono ?_
          rintro e w2 ⟨rfl, hm2⟩
          try dsimp only
          have hS2 := Lib.hid ((hS.out.still ((Mod.refl [] wr).alloc (.cells #[.int .i64 eu, .int .i64 ev, .int .i64 ec] 146))).still hm2)
          have hB := (Has.new wr [.int .i64 eu, .int .i64 ev, .int .i64 ec] 146).keep hm2 (by simp)
          have b0 := hB.cell 0 rfl
          have b1 := hB.cell 1 rfl
          have b2 := hB.cell 2 rfl
          have bl := hB.lt
          have hiD : i < D.length := by have := hDl'.out; omega
          obtain ⟨g', eg, hgl, hzf, r0, r1, r2⟩ := ed_row (L := D) (by rw [hDl'.out]; exact hS2.out.row) hiD
          simp only [Option.some.injEq, Addr.mk.injEq, and_true] at eg
          subst eg
          generalize D[i] = y2 at *
          obtain ⟨zu, zv, zc⟩ := y2
          simp only at r0 r1 r2
          clear hm2 hS hB q0 q1 q2
          go_wp2_with fail
          go_roundw
          case rel =>
            have h6 := ((hS2.out.rowset (i * 3) (.int .i64 eu)).rowset (i * 3 + 1) (.int .i64 ev)).rowset (i * 3 + 2) (.int .i64 ec)
            rw [hfs.out] at h6
            exact ⟨i + 1, j + 1, _, by omega, by go_num, by go_num, hk2, Lib.hid h6⟩
          case measure => simp [intOf]; omega
      · have hjn : j = n := by omega
        subst hjn
        have hi2 : (i : Int) < j := by omega
        have hrow := hS.out.row
        rw [← hDl] at hrow
        have hfit : j ≤ c := by
          rcases hrow.2 with ⟨he, _⟩ | ⟨g', cap, cur, he, _, _, h1, _⟩
          · cases he
          · injection he with _ _ e3; omega
        have hsl := slice_from (P := Tryz.prog) 22 146 3 (by kernel_rfl) (fun w => by kernel_rfl) g 0 j c i (i : Int) rfl (by omega)
        rw [show offAt c i 0 3 = i * 3 by unfold offAt; rw [if_neg (by omega)]; omega] at hsl
        have hcl : ∀ ty, (Builtin.clear_ #[22] ty #[.slice (some ⟨g, i * 3, none⟩) (j - i) (c - i)]).run Tryz.prog wr = .ok (.tuple #[]) (wr.setCells g (i * 3) (zs (j - i))) := fun ty => run_clear_ed wr ty g (i * 3) (j - i) (c - i) (by omega)
          (fun t ht => by
            rw [hrow.cellAt (i * 3 + t) (by omega), List.getElem?_eq_getElem (by rw [hrow.1]; omega)]
            rfl)
          (fun t ht => hrow.frozenAt (i * 3 + t))
        have hlow : heavy L = D.take i := by have := hK.out.low; rw [← hn'.out, List.take_length] at this; exact this.symm
        have hlen : (heavy L).length = i := by rw [hlow, List.length_take]; omega
        have hS2 := sep_beyond (sep_shrink hS.out (show i ≤ j by omega)) (zs (j - i)) (i * 3) _ (sep_shrink hS.out (show i ≤ j by omega)) (by omega)
        rw [flat_take (by omega), ← hlow] at hS2
        have hlen' := Lib.hid hlen
        have hS2' := Lib.hid hS2
        clear hrow hlow hlen hS2 hK hS hDl
        go_wp2_with fail
        go_ret
        rw [hlen'.out]
        exact ⟨rfl, hS2'.out⟩
end Edge
end Go.Proofs.YtjpfmkfikidgkaaGreat
