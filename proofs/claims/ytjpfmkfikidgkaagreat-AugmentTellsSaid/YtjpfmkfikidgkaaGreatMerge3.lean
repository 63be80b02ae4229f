/- Edges are sorted. -/
import Derived.Test.YtjpfmkfikidgkaaGreatEdRow
import Derived.Test.YtjpfmkfikidgkaaGreatSortRow
import Derived.Test.YtjpfmkfikidgkaaGreatShelf
import Derived.Laws.EntriesVeiled
set_option linter.unusedVariables false
set_option linter.unusedSimpArgs false
namespace Go.Proofs.YtjpfmkfikidgkaaGreat
open Go.RowKit
namespace Edge
def cmpI (x y : Int) : Int := if x < y then -1 else if y < x then 1 else 0
def cmpE (a b : Ed) : Int := if cmpI a.1 b.1 ≠ 0 then cmpI a.1 b.1 else if cmpI a.2.1 b.2.1 ≠ 0 then cmpI a.2.1 b.2.1 else cmpI a.2.2 b.2.2
theorem cmpE_lt {a b : Ed} : cmpE a b < 0 ↔ a.1 < b.1 ∨ (a.1 = b.1 ∧ (a.2.1 < b.2.1 ∨ (a.2.1 = b.2.1 ∧ a.2.2 < b.2.2))) := by
  unfold cmpE cmpI
  repeat' split
  all_goals omega
theorem nan_any (x : Int) (w : World) : Calls Tryz.prog 234 #[.int .i64 x] w fun e w' => e = .returned (.bool false) ∧ w' = w := by
  go_enter Tryz.func234, Tryz.ntmps234
  go_wp2
  go_ret
  exact ⟨by simp, rfl⟩
theorem nan64_any (x : Int) (w : World) : Calls Tryz.prog 266 #[.int .i64 x] w fun e w' => e = .returned (.bool false) ∧ w' = w := by
  go_enter Tryz.func266, Tryz.ntmps266
  go_wp2
  go_ret
  exact ⟨by simp, rfl⟩
theorem compare_any (x y : Int) (w : World) : Calls Tryz.prog 177 #[.int .i64 x, .int .i64 y] w fun e w' => e = .returned (.int .i64 (cmpI x y)) ∧ w' = w := by
  obtain ⟨r, hr⟩ : ∃ r, cmpI x y = r := ⟨_, rfl⟩
  rw [hr]
  unfold cmpI at hr
  by_cases h1 : x < y
  · rw [if_pos h1] at hr
    subst hr
    go_enter Tryz.func177, Tryz.ntmps177
    go_wp2_with (go_at_call 234; refine (nan_any _ _).mono ?_; rintro e w1 ⟨rfl, rfl⟩)
    go_ret
    exact ⟨rfl, rfl⟩
  · rw [if_neg h1] at hr
    by_cases h2 : y < x
    · rw [if_pos h2] at hr
      subst hr
      go_enter Tryz.func177, Tryz.ntmps177
      go_wp2_with (go_at_call 234; refine (nan_any _ _).mono ?_; rintro e w1 ⟨rfl, rfl⟩)
      go_ret
      exact ⟨rfl, rfl⟩
    · rw [if_neg h2] at hr
      subst hr
      go_enter Tryz.func177, Tryz.ntmps177
      go_wp2_with (go_at_call 234; refine (nan_any _ _).mono ?_; rintro e w1 ⟨rfl, rfl⟩)
      go_ret
      exact ⟨rfl, rfl⟩
theorem compare64_any (x y : Int) (w : World) : Calls Tryz.prog 221 #[.int .i64 x, .int .i64 y] w fun e w' => e = .returned (.int .i64 (cmpI x y)) ∧ w' = w := by
  obtain ⟨r, hr⟩ : ∃ r, cmpI x y = r := ⟨_, rfl⟩
  rw [hr]
  unfold cmpI at hr
  by_cases h1 : x < y
  · rw [if_pos h1] at hr
    subst hr
    go_enter Tryz.func221, Tryz.ntmps221
    go_wp2_with (go_at_call 266; refine (nan64_any _ _).mono ?_; rintro e w1 ⟨rfl, rfl⟩)
    go_ret
    exact ⟨rfl, rfl⟩
  · rw [if_neg h1] at hr
    by_cases h2 : y < x
    · rw [if_pos h2] at hr
      subst hr
      go_enter Tryz.func221, Tryz.ntmps221
      go_wp2_with (go_at_call 266; refine (nan64_any _ _).mono ?_; rintro e w1 ⟨rfl, rfl⟩)
      go_ret
      exact ⟨rfl, rfl⟩
    · rw [if_neg h2] at hr
      subst hr
      go_enter Tryz.func221, Tryz.ntmps221
      go_wp2_with (go_at_call 266; refine (nan64_any _ _).mono ?_; rintro e w1 ⟨rfl, rfl⟩)
      go_ret
      exact ⟨rfl, rfl⟩
/-- The first that is not 0. -/
def orI : List Int → Int
  | [] => 0
  | x :: l => if x ≠ 0 then x else orI l
set_option maxRecDepth 100000 in
set_option maxHeartbeats 1000000 in
theorem or_any {l : List Int} {a : Option Addr} {c : Nat} {w : World} (h : Rd w 1 (.slice a l.length c) l.length (l.map fun x => .int .i64 x)) :
    Calls Tryz.prog 207 #[.slice a l.length c] w fun e w' => e = .returned (.int .i64 (orI l)) ∧ w' = w := by
  have hle := h.le
  have h' := Lib.hid h
  obtain ⟨r, hr⟩ : ∃ r, orI l = r := ⟨_, rfl⟩
  rw [hr]
  have hr' := Lib.hid hr
  obtain ⟨m, hm⟩ : ∃ m, l.length = m := ⟨_, rfl⟩
  rw [hm]
  have hm' := Lib.hid hm
  rw [hm] at hle
  clear h hr hm
  go_enter Tryz.func207, Tryz.ntmps207
  go_wp2_with fail
  go_loop [8] (fun i => ∃ k : Nat, k ≤ m ∧ i = .int .i64 k ∧ Hid (orI (l.drop k) = r)) (fun i => m - (intOf i).toNat)
  case atStart => exact ⟨0, Nat.zero_le _, rfl, hr'⟩
  case round =>
    clear hr'
    obtain ⟨k, hk, rfl, hc⟩ := hrel
    by_cases hlt : k < m
    · have hlt1 : (k : Int) < m := by omega
      have hkl : k < l.length := by rw [hm'.out]; exact hlt
      obtain ⟨g, o, rfl, hg, hcell⟩ := rd_cell h'.out hkl
      have q0 := hcell w k (.int .i64 l[k]) (Mod.refl _ _) (by simp [hkl])
      have hd : l.drop k = l[k] :: l.drop (k + 1) := List.drop_eq_getElem_cons hkl
      rw [hd] at hc
      generalize l[k] = x at *
      have hc2 : Hid ((x = 0 ∧ orI (l.drop (k + 1)) = r) ∨ (x ≠ 0 ∧ x = r)) := by
        have := hc.out
        unfold orI at this
        by_cases h0 : x = 0
        · rw [if_neg (by simpa using h0)] at this; exact Lib.hid (.inl ⟨h0, this⟩)
        · rw [if_pos h0] at this; exact Lib.hid (.inr ⟨h0, this⟩)
      clear hc hd hcell hkl
      rcases hc2.out with ⟨rfl, hc3⟩ | ⟨hne, rfl⟩
      · have hc3' := Lib.hid hc3
        clear hc2 hc3
        go_wp2_with fail
        go_round
        case rel => exact ⟨k + 1, by omega, by go_num, hc3'⟩
        case measure => simp [intOf]; omega
      · have hne1 : (x == 0) = false := by simpa using hne
        clear hc2 hne
        go_wp2_with fail
        go_ret
        exact ⟨rfl, rfl⟩
    · have hkm : k = m := by omega
      subst hkm
      have hd : l.drop k = [] := by rw [← hm'.out]; exact List.drop_length
      rw [hd] at hc
      have hc2 : 0 = r := hc.out
      subst hc2
      clear hd hc
      go_wp2_with fail
      go_ret
      exact ⟨rfl, rfl⟩
theorem rd_has {w : World} {b : Nat} {cs : List Value} {t : TypeId} (h : Has w b cs t) (hl : cs.length ≤ 1000000000) : Rd w 1 (.slice (some ⟨b, 0, none⟩) cs.length cs.length) cs.length cs :=
  ⟨by omega, .inr ⟨⟨b, 0, none⟩, cs.length, rfl, Nat.le_refl _, by simp only [maxLen]; omega, fun j u hu => by rw [Addr.add_lit, Nat.zero_add]; exact h.cell j hu⟩⟩
set_option maxRecDepth 100000 in
set_option maxHeartbeats 2000000 in
theorem cmp_any (a b : Ed) (w : World) : Calls Tryz.prog 172 #[edV a, edV b] w fun e w' => e = .returned (.int .i64 (cmpE a b)) ∧ ∃ q os, w' = Sort.grow (w.drewN q) os := by
  obtain ⟨au, av, aw⟩ := a
  obtain ⟨bu, bv, bw⟩ := b
  have hA := (Has.new w [.int .i64 au, .int .i64 av, .int .i64 aw] 146).alloc (.cells #[.int .i64 bu, .int .i64 bv, .int .i64 bw] 146)
  have hB := Has.new (w.alloc (.cells #[.int .i64 au, .int .i64 av, .int .i64 aw] 146)) [.int .i64 bu, .int .i64 bv, .int .i64 bw] 146
  rw [World.size_alloc] at hB
  obtain ⟨W, hW⟩ : ∃ W, W = ((w.alloc (.cells #[.int .i64 au, .int .i64 av, .int .i64 aw] 146)).alloc (.cells #[.int .i64 bu, .int .i64 bv, .int .i64 bw] 146)).drew := ⟨_, rfl⟩
  replace hA : Has W w.heap.size [.int .i64 au, .int .i64 av, .int .i64 aw] 146 := by rw [hW]; exact hA
  replace hB : Has W (w.heap.size + 1) [.int .i64 bu, .int .i64 bv, .int .i64 bw] 146 := by rw [hW]; exact hB
  have f0 : ∀ m : Fut (Mod []) W, m.v.cell? ⟨w.heap.size, 0, none⟩ = some (.int .i64 au) := fun m => (hA.keep m.of (by simp)).cell 0 rfl
  have f1 : ∀ m : Fut (Mod []) W, m.v.cell? ⟨w.heap.size, 1, none⟩ = some (.int .i64 av) := fun m => (hA.keep m.of (by simp)).cell 1 rfl
  have f2 : ∀ m : Fut (Mod []) W, m.v.cell? ⟨w.heap.size, 2, none⟩ = some (.int .i64 aw) := fun m => (hA.keep m.of (by simp)).cell 2 rfl
  have g0 : ∀ m : Fut (Mod []) W, m.v.cell? ⟨w.heap.size + 1, 0, none⟩ = some (.int .i64 bu) := fun m => (hB.keep m.of (by simp)).cell 0 rfl
  have g1 : ∀ m : Fut (Mod []) W, m.v.cell? ⟨w.heap.size + 1, 1, none⟩ = some (.int .i64 bv) := fun m => (hB.keep m.of (by simp)).cell 1 rfl
  have g2 : ∀ m : Fut (Mod []) W, m.v.cell? ⟨w.heap.size + 1, 2, none⟩ = some (.int .i64 bw) := fun m => (hB.keep m.of (by simp)).cell 2 rfl
  have c1 := Lib.hid (fun w => compare_any au bu w)
  have c2 := Lib.hid (fun w => compare_any av bv w)
  have c3 := Lib.hid (fun w => compare64_any aw bw w)
  have hr : orI [cmpI au bu, cmpI av bv, cmpI aw bw] = cmpE (au, av, aw) (bu, bv, bw) := by
    unfold cmpE
    simp only [orI]
    repeat' split
    all_goals simp_all
  obtain ⟨r, hr2⟩ : ∃ r, cmpE (au, av, aw) (bu, bv, bw) = r := ⟨_, rfl⟩
  rw [hr2]
  rw [hr2] at hr
  have hor : ∀ w, Has w W.heap.size ([cmpI au bu, cmpI av bv, cmpI aw bw].map fun x => Value.int .i64 x) 3 → Calls Tryz.prog 207 #[.slice (some ⟨W.heap.size, 0, none⟩) 3 3] w fun e w' => e = .returned (.int .i64 r) ∧ w' = w := fun w h => by
    have := or_any (l := [cmpI au bu, cmpI av bv, cmpI aw bw]) (rd_has h (by simp))
    rw [hr] at this
    exact this
  generalize cmpI au bu = x1 at *
  generalize cmpI av bv = x2 at *
  generalize cmpI aw bw = x3 at *
  have hor' := Lib.hid hor
  have hfin : Hid (∃ q os, W.alloc (.cells #[.int .i64 x1, .int .i64 x2, .int .i64 x3] 3) = Sort.grow (w.drewN q) os) := Lib.hid ⟨1, _, by rw [hW, Sort.alloc_eq_grow, Sort.alloc_eq_grow, Sort.alloc_eq_grow, Sort.grow_grow, Sort.drew_grow, Sort.grow_grow]; rfl⟩
  have hW' := Lib.hid hW
  unfold edV
  clear hor hr hr2 hA hB hW
  go_enter Tryz.func172, Tryz.ntmps172
  go_upto_region 1 with fail
  refine region_sched (G := Mod []) [([0,1,2,3,5,6,7,8,10,11,12,13],4), ([],9), ([],14), ([],15), ([],16)] [17] (by kernel_rfl) (by kernel_rfl) (by kernel_rfl) rfl (Mod.refl []) (fun _ _ _ h1 h2 => h1.trans h2 (by simp)) ?_
  simp only [stages, pickO, nthO, headO, List.cons_append, List.nil_append]
  rw [← hW'.out]
  refine sched_step ?_
  repeat (go_big_quiet_step (fail))
  refine wpQuiet_nil ?_
  intro K hK
  rw [if_pos (by rfl)]
  go_simp
  refine (c1.out _).mono ?_
  rintro e w1 ⟨rfl, rfl⟩
  try dsimp only
  refine hK.out _ _ (Mod.refl _ _) ?_
  clear hK K f0 f1 f2 g0 g1 g2
  refine sched_step ?_
  refine wpQuiet_nil ?_
  intro K hK
  rw [if_pos (by rfl)]
  go_simp
  refine (c2.out _).mono ?_
  rintro e w1 ⟨rfl, rfl⟩
  try dsimp only
  refine hK.out _ _ (Mod.refl _ _) ?_
  clear hK K
  refine sched_step ?_
  refine wpQuiet_nil ?_
  intro K hK
  rw [if_pos (by rfl)]
  go_simp
  refine (c3.out _).mono ?_
  rintro e w1 ⟨rfl, rfl⟩
  try dsimp only
  refine hK.out _ _ (Mod.refl _ _) ?_
  clear hK K
  refine sched_step ?_
  refine wpQuiet_nil ?_
  intro K hK
  rw [if_pos (by rfl)]
  go_simp
  refine hK.out _ _ ((Mod.refl [] _).alloc _) ?_
  clear hK K
  refine sched_step ?_
  refine wpQuiet_nil ?_
  intro K hK
  rw [if_pos (by rfl)]
  go_simp
  refine (hor'.out _ (Has.new _ _ _)).mono ?_
  rintro e w2 ⟨rfl, rfl⟩
  try dsimp only
  refine hK.out _ _ (Mod.refl _ _) ?_
  clear hK K
  refine sched_last ?_
  repeat (go_big_quiet_step (fail))
  refine wpQuiet_nil ?_
  go_wp2_with fail
  go_ret
  exact ⟨rfl, hfin.out⟩
open Go.Sort Go.Shelf in
theorem ltOf_eq (x y : Ed) : ltOf cmpE x y = decide (x.1 < y.1 ∨ (x.1 = y.1 ∧ (x.2.1 < y.2.1 ∨ (x.2.1 = y.2.1 ∧ x.2.2 < y.2.2)))) := by
  unfold ltOf
  rw [decide_eq_decide]
  exact cmpE_lt
open Go.Sort Go.Shelf in
theorem swoE : SWO (ltOf cmpE) where
  irrefl x := by rw [ltOf_eq, decide_eq_false_iff_not]; omega
  trans x y z h1 h2 := by rw [ltOf_eq, decide_eq_true_eq] at *; omega
  ntrans x y z h1 h2 := by rw [ltOf_eq, decide_eq_false_iff_not] at *; omega
open Go.Sort Go.Shelf in
theorem cmpLays (blk off size : Nat) (w : World) : CmpLays Tryz.prog 172 #[] encEd 3 cmpE blk off size w := fun _ _ _ _ x y => cmp_any x y _
theorem sizeEd : ∀ w, (Go.sizeOf 146).run Tryz.prog w = .ok 3 w := Tryz.sizeOf146
theorem aggEd : ∀ w, (isAgg 146).run Tryz.prog w = .ok true w := Tryz.isAgg146
open Go.Sort Go.Shelf in
/-- SortFunc of edges of unlike pairs. -/
theorem sort_any {w0 w : World} {L : List Ed} {a : Option Addr} {c : Nat} {R : List Part} (hS : Sep w0 w (Row 146 3 L.length (.slice a L.length c) (flat encEd L) :: R)) (hap : Apart L) (hl : L.length ≤ 1048576) :
    Calls Tryz.prog 171 #[.slice a L.length c, .func (.func 172) #[] #[]] w fun e w' => e = .returned (.tuple #[]) ∧ ∃ M, M.Perm L ∧ Rising M ∧ Sep w0 w' (Row 146 3 L.length (.slice a L.length c) (flat encEd M) :: R) := by
  rcases Nat.eq_zero_or_pos L.length with h0 | h0
  · have hL := List.eq_nil_of_length_eq_zero h0
    subst hL
    have hn := AnyF.slices_SortFunc_none Sh.sortEd a c (.func (.func 172) #[] #[]) w
    refine Calls.mono (show Calls Tryz.prog 171 _ _ _ from hn) ?_
    rintro e w' ⟨rfl, rfl⟩
    exact ⟨rfl, [], List.Perm.refl _, List.Pairwise.nil, hS⟩
  · obtain ⟨F, ⟨h1, rfl⟩, h2, h3⟩ := hS.first
    obtain ⟨g, rfl, _⟩ : ∃ g, a = some ⟨g, 0, none⟩ ∧ True := by
      rcases h1.2 with ⟨he, h0⟩ | ⟨g, cap, cur, he, _⟩
      · omega
      · injection he with he _ _; exact ⟨g, he, trivial⟩
    have eg : ∀ args w, (callFunc 172 args).run Tryz.prog w = .ok (.enter 172 args) w := enters_of Tryz.func172 (by kernel_rfl) rfl
    have hcon := AnyQ.slices_SortFunc Sh.sortEd 3 aggEd sizeEd encEd encEd_len (fun x v hv => by simp [encEd] at hv; rcases hv with rfl | rfl | rfl <;> rfl) cmpE swoE 172 #[] g 0 c L.toArray w eg (cmpLays g 0 L.toArray.size w) (own_holdsK encEd_len h1) (own_lt h1 rfl) (by rw [List.size_toArray]; omega)
    rw [List.size_toArray] at hcon
    refine Calls.mono (show Calls Tryz.prog 171 _ _ _ from hcon) ?_
    rintro e w' ⟨rfl, d', n, os, ⟨p1, p2, p3⟩, hs, rfl⟩
    have hp : d'.toList.Perm L := by
      have e1 : (d'.extract 0 L.length).toList = d'.toList := by rw [← List.size_toArray, ← p1, Array.extract_size]
      have e2 : (L.toArray.extract 0 L.length).toList = L := by rw [← List.size_toArray, Array.extract_size]
      rw [e1, e2] at p3
      exact p3
    have hlen := hp.length_eq
    have hM := own_sortedK (m := n) encEd_len (l' := d'.toList) h1 hlen os
    refine ⟨rfl, d'.toList, hp, ?_, h3 (Row _ _ _ _ _) _ _ ⟨by simpa using hM.1, rfl⟩ (by simpa [Value.ownBlock] using hM.2) (fun b hb => .inl hb)⟩
    have hap2 : Apart d'.toList := hp.symm.pairwise hap (fun h => h.symm)
    unfold Rising
    unfold Apart at hap2
    rw [List.pairwise_iff_getElem] at hap2 ⊢
    intro i j hi hj hij
    have h4 := hs i j (Nat.zero_le _) hij (by omega)
    have h5 := hap2 i j hi hj hij
    simp only [Array.length_toList] at hi hj
    simp only [Array.getElem_toList] at h5 ⊢
    rw [getElem!_pos d' j hj, getElem!_pos d' i hi, ltOf_eq, decide_eq_false_iff_not] at h4
    generalize d'[i] = x at *
    generalize d'[j] = y at *
    obtain ⟨xu, xv, xw⟩ := x
    obtain ⟨yu, yv, yw⟩ := y
    unfold before key
    unfold key at h5
    simp only at h4 h5 ⊢
    have : ¬ (xu = yu ∧ xv = yv) := fun hh => h5 (by rw [hh.1, hh.2])
    omega
end Edge
end Go.Proofs.YtjpfmkfikidgkaaGreat
