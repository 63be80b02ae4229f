/- Two edges' pairs are compared; where a pair lies is sought. -/
import Derived.Test.YtjpfmkfikidgkaaGreatMerge3
import Derived.Test.YtjpfmkfikidgkaaGreatNetLaw
import Derived.Laws.EntriesVeiled
set_option linter.unusedVariables false
set_option linter.unusedSimpArgs false
namespace Go.Proofs.YtjpfmkfikidgkaaGreat
open Go.RowKit
namespace Edge
def cmpW (a b : Ed) : Int := if cmpI a.1 b.1 ≠ 0 then cmpI a.1 b.1 else cmpI a.2.1 b.2.1
theorem cmpW_lt {a b : Ed} : cmpW a b < 0 ↔ before (key a) (key b) := by
  unfold cmpW cmpI before key
  simp only
  repeat' split
  all_goals omega
theorem cmpW_eq {a b : Ed} : cmpW a b = 0 ↔ key a = key b := by
  unfold cmpW cmpI key
  rw [Prod.mk.injEq]
  repeat' split
  all_goals omega
set_option maxRecDepth 100000 in
set_option maxHeartbeats 2000000 in
theorem cmpW_any (a b : Ed) (w : World) : Calls Tryz.prog 206 #[edV a, edV b] w fun e w' => e = .returned (.int .i64 (cmpW a b)) ∧ Mod [] w w' := by
  obtain ⟨au, av, aw⟩ := a
  obtain ⟨bu, bv, bw⟩ := b
  have hA := (Has.new w [.int .i64 au, .int .i64 av, .int .i64 aw] 146).alloc (.cells #[.int .i64 bu, .int .i64 bv, .int .i64 bw] 146)
  have hB := Has.new (w.alloc (.cells #[.int .i64 au, .int .i64 av, .int .i64 aw] 146)) [.int .i64 bu, .int .i64 bv, .int .i64 bw] 146
  rw [World.size_alloc] at hB
  obtain ⟨W, hW⟩ : ∃ W, W = ((w.alloc (.cells #[.int .i64 au, .int .i64 av, .int .i64 aw] 146)).alloc (.cells #[.int .i64 bu, .int .i64 bv, .int .i64 bw] 146)).drew := ⟨_, rfl⟩
  replace hA : Has W w.heap.size [.int .i64 au, .int .i64 av, .int .i64 aw] 146 := by rw [hW]; exact hA
  replace hB : Has W (w.heap.size + 1) [.int .i64 bu, .int .i64 bv, .int .i64 bw] 146 := by rw [hW]; exact hB
  have f0 : ∀ m : Fut (Mod []) W, m.v.cell? ⟨w.heap.size, 0, none⟩ = some (.int .i64 au) := fun m => (hA.keep m.of (by simp)).cell 0 rfl
  have f1 : ∀ m : Fut (Mod []) W, m.v.cell? ⟨w.heap.size, 1, none⟩ = some (.int .i64 av) := fun m => (hA.keep m.of (by simp)).cell 1 rfl
  have g0 : ∀ m : Fut (Mod []) W, m.v.cell? ⟨w.heap.size + 1, 0, none⟩ = some (.int .i64 bu) := fun m => (hB.keep m.of (by simp)).cell 0 rfl
  have g1 : ∀ m : Fut (Mod []) W, m.v.cell? ⟨w.heap.size + 1, 1, none⟩ = some (.int .i64 bv) := fun m => (hB.keep m.of (by simp)).cell 1 rfl
  have c1 := Lib.hid (fun w => compare_any au bu w)
  have c2 := Lib.hid (fun w => compare_any av bv w)
  have hr : orI [cmpI au bu, cmpI av bv] = cmpW (au, av, aw) (bu, bv, bw) := by
    unfold cmpW
    simp only [orI]
    repeat' split
    all_goals simp_all
  obtain ⟨r, hr2⟩ : ∃ r, cmpW (au, av, aw) (bu, bv, bw) = r := ⟨_, rfl⟩
  rw [hr2]
  rw [hr2] at hr
  have hor : ∀ w, Has w W.heap.size ([cmpI au bu, cmpI av bv].map fun x => Value.int .i64 x) 3 → Calls Tryz.prog 207 #[.slice (some ⟨W.heap.size, 0, none⟩) 2 2] w fun e w' => e = .returned (.int .i64 r) ∧ w' = w := fun w h => by
    have := or_any (l := [cmpI au bu, cmpI av bv]) (rd_has h (by simp))
    rw [hr] at this
    exact this
  generalize cmpI au bu = x1 at *
  generalize cmpI av bv = x2 at *
  have hor' := Lib.hid hor
  have hfin : Hid (Mod [] w (W.alloc (.cells #[.int .i64 x1, .int .i64 x2] 3))) := Lib.hid (by
    rw [hW]
    refine Mod.alloc ?_ _
    exact (((Mod.refl [] w).alloc _).alloc _).drew)
  have hW' := Lib.hid hW
  unfold edV
  clear hor hr hr2 hA hB hW
  go_enter Tryz.func206, Tryz.ntmps206
  go_upto_region 1 with fail
  refine region_sched (G := Mod []) [([0,1,2,3,5,6,7,8],4), ([],9), ([],10), ([],11)] [12] (by kernel_rfl) (by kernel_rfl) (by kernel_rfl) rfl (Mod.refl []) (fun _ _ _ h1 h2 => h1.trans h2 (by simp)) ?_
  simp only [stages, pickO, nthO, headO, List.cons_append, List.nil_append]
  rw [← hW'.out]
  refine sched_step ?_
  repeat (go_big_quiet_step (fail))
  refine wpQuiet_nil ?_
  intro K hK
  rw [if_pos (by rfl)]
  go_simp
  refine (c1.out _).mono ?_
  rintro e w1 ⟨rfl, rfl⟩
  try dsimp only
  refine hK.out _ _ (Mod.refl _ _) ?_
  clear hK K f0 f1 g0 g1
  refine sched_step ?_
  refine wpQuiet_nil ?_
  intro K hK
  rw [if_pos (by rfl)]
  go_simp
  refine (c2.out _).mono ?_
  rintro e w1 ⟨rfl, rfl⟩
  try dsimp only
  refine hK.out _ _ (Mod.refl _ _) ?_
  clear hK K
  refine sched_step ?_
  refine wpQuiet_nil ?_
  intro K hK
  rw [if_pos (by rfl)]
  go_simp
  refine hK.out _ _ ((Mod.refl [] _).alloc _) ?_
  clear hK K
  refine sched_step ?_
  refine wpQuiet_nil ?_
  intro K hK
  rw [if_pos (by rfl)]
  go_simp
  refine (hor'.out _ (Has.new _ _ _)).mono ?_
  rintro e w2 ⟨rfl, rfl⟩
  try dsimp only
  refine hK.out _ _ (Mod.refl _ _) ?_
  clear hK K
  refine sched_last ?_
  repeat (go_big_quiet_step (fail))
  refine wpQuiet_nil ?_
  go_wp2_with fail
  go_ret
  exact ⟨rfl, hfin.out⟩
/-! ### a search by halves -/
/-- All ahead of i come ahead of t; none from j on. -/
structure Cut (L : List Ed) (t : Ed) (i j : Nat) : Prop where
  low : ∀ k (h : k < L.length), k < i → cmpW L[k] t < 0
  high : ∀ k (h : k < L.length), j ≤ k → ¬ cmpW L[k] t < 0
theorem Cut.start (L : List Ed) (t : Ed) {n : Nat} (hn : L.length = n) : Cut L t 0 n := ⟨fun k _ h => by omega, fun k h h1 => by omega⟩
theorem Cut.up {L : List Ed} {t : Ed} {i j m : Nat} (h : Cut L t i j) (hs : Rising L) (hm : m < L.length) (hc : cmpW L[m] t < 0) : Cut L t (m + 1) j := by
  refine ⟨fun k hk hkm => ?_, h.high⟩
  rcases Nat.lt_or_ge k m with h1 | h1
  · rw [cmpW_lt] at *
    exact before_trans (List.pairwise_iff_getElem.1 hs k m hk hm h1) hc
  · obtain rfl : k = m := by omega
    exact hc
theorem Cut.down {L : List Ed} {t : Ed} {i j m : Nat} (h : Cut L t i j) (hs : Rising L) (hm : m < L.length) (hc : ¬ cmpW L[m] t < 0) : Cut L t i m := by
  refine ⟨h.low, fun k hk hkm => ?_⟩
  rcases Nat.lt_or_ge m k with h1 | h1
  · rw [cmpW_lt] at *
    exact fun h2 => hc (before_trans (List.pairwise_iff_getElem.1 hs m k hm hk h1) h2)
  · obtain rfl : k = m := by omega
    exact hc
/-- The search's answer: where, and whether there. -/
def Found (L : List Ed) (t : Ed) (i : Nat) (b : Bool) : Prop := (b = true → ∃ h : i < L.length, key L[i] = key t) ∧ (b = false → ∀ e ∈ L, key e ≠ key t)
theorem Cut.found {L : List Ed} {t : Ed} {i : Nat} (h : Cut L t i i) (hs : Rising L) (hi : i < L.length) : Found L t i (cmpW L[i] t == 0) := by
  constructor
  · intro hb
    exact ⟨hi, cmpW_eq.1 (by simpa using hb)⟩
  · intro hb e he hk
    have hne : cmpW L[i] t ≠ 0 := by simpa using hb
    obtain ⟨k, hk1, rfl⟩ := List.getElem_of_mem he
    rcases Nat.lt_trichotomy k i with h1 | h1 | h1
    · have := cmpW_lt.1 (h.low k hk1 h1)
      rw [hk] at this
      exact before_irrefl _ this
    · subst h1
      exact hne (cmpW_eq.2 hk)
    · have h2 := List.pairwise_iff_getElem.1 hs i k hi hk1 h1
      rw [hk] at h2
      exact h.high i hi (Nat.le_refl _) (cmpW_lt.2 h2)
theorem Cut.none {L : List Ed} {t : Ed} {i : Nat} (h : Cut L t i i) (hi : L.length ≤ i) : Found L t i false := by
  refine ⟨fun hb => Bool.noConfusion hb, fun _ e he hk => ?_⟩
  obtain ⟨k, hk1, rfl⟩ := List.getElem_of_mem he
  have := cmpW_lt.1 (h.low k hk1 (by omega))
  rw [hk] at this
  exact before_irrefl _ this
theorem found_weight {L : List Ed} (hs : Rising L) {u v : Int} {i : Nat} {b : Bool} {t : Ed} (ht : key t = (min u v, max u v)) (h : Found L t i b) : (b = true → ∃ hi : i < L.length, L[i].2.2 = weight L u v) ∧ (b = false → weight L u v = 0) := by
  constructor
  · intro hb
    obtain ⟨hi, h1⟩ := h.1 hb
    refine ⟨hi, ?_⟩
    rw [weight_wt hs.apart, ← ht, ← h1, wt_mem hs.apart _ (List.getElem_mem hi)]
  · intro hb
    rw [weight_wt hs.apart, ← ht]
    exact wt_away (fun x hx => h.2 hb x hx)
set_option maxRecDepth 100000 in
set_option maxHeartbeats 4000000 in
theorem search_any {l : List Ed} {a : Option Addr} {c : Nat} {w : World} (h : Rd w 3 (.slice a l.length c) l.length (flat encEd l)) (hs : Rising l) (hl : l.length ≤ 1048576) (t : Ed) :
    Calls Tryz.prog 205 #[.slice a l.length c, edV t, .func (.func 206) #[] #[]] w fun en w' => ∃ (i : Nat) (b : Bool), en = .returned (.tuple #[.int .i64 i, .bool b]) ∧ Found l t i b ∧ Mod [] w w' := by
  have h' := Lib.hid h
  have hs' := Lib.hid hs
  obtain ⟨n, hn⟩ : ∃ n, l.length = n := ⟨_, rfl⟩
  have hst := Lib.hid (Cut.start l t hn)
  have hn' := Lib.hid hn
  rw [hn] at hl ⊢
  obtain ⟨tu, tv, tw⟩ := t
  have hcm := Lib.hid (fun e w => cmpW_any e (tu, tv, tw) w)
  have hB := Lib.hid (Has.new w [.int .i64 tu, .int .i64 tv, .int .i64 tw] 146)
  unfold edV
  clear h hs hn
  go_enter Tryz.func205, Tryz.ntmps205
  go_wp2_with fail
  go_loopw [9, 10] (fun s9 s10 wr => ∃ i j : Nat, i ≤ j ∧ j ≤ n ∧ s9 = .int .i64 i ∧ s10 = .int .i64 j ∧ Hid (Cut l (tu, tv, tw) i j) ∧ Hid (Mod [] (w.alloc (.cells #[.int .i64 tu, .int .i64 tv, .int .i64 tw] 146)) wr)) (fun s9 s10 _ => (intOf s10).toNat - (intOf s9).toNat)
  case atStart => exact ⟨0, n, Nat.zero_le _, Nat.le_refl _, rfl, rfl, hst, Lib.hid (Mod.refl _ _)⟩
  case round =>
    clear hst
    obtain ⟨i, j, hij, hjn, rfl, rfl, hC, hmod⟩ := hrel
    by_cases hlt : i < j
    · have hlt1 : (i : Int) < j := by omega
      obtain ⟨m, hm, hm1, hm2⟩ : ∃ m : Nat, ((i : Int) + j) / 2 = m ∧ i ≤ m ∧ m < j := ⟨(i + j) / 2, by omega, by omega, by omega⟩
      go_upto_region 5 with fail
      try rw [hm]
      have hml : m < l.length := by have := hn'.out; omega
      obtain ⟨g, o, rfl, hg, hcell⟩ := ed_cells h'.out hml
      have hup := Lib.hid (fun hc => hC.out.up hs'.out hml hc)
      have hdn := Lib.hid (fun hc => hC.out.down hs'.out hml hc)
      have hmw := Lib.hid (fun (m : Fut (Mod []) wr.drew) => (((Mod.refl [] w).alloc (.cells #[.int .i64 tu, .int .i64 tv, .int .i64 tw] 146)).trans hmod.out (by simp)).drew.trans m.of (by simp))
      have q0 := fun (m : Fut (Mod []) wr.drew) => (hcell _ (hmw.out m)).1
      have q1 := fun (m : Fut (Mod []) wr.drew) => (hcell _ (hmw.out m)).2.1
      have q2 := fun (m : Fut (Mod []) wr.drew) => (hcell _ (hmw.out m)).2.2
      have hbk := Lib.hid (fun (m : Fut (Mod []) wr.drew) => hB.out.keep (hmod.out.drew.trans m.of (by simp)) (by simp))
      have r0 := fun (m : Fut (Mod []) wr.drew) => (hbk.out m).cell 0 rfl
      have r1 := fun (m : Fut (Mod []) wr.drew) => (hbk.out m).cell 1 rfl
      have r2 := fun (m : Fut (Mod []) wr.drew) => (hbk.out m).cell 2 rfl
      have hcm1 := fun w => hcm.out l[m] w
      generalize l[m] = e at *
      obtain ⟨eu, ev, ew⟩ := e
      unfold edV at hcm1
      simp only at hcm1 q0 q1 q2
      have hcm2 := Lib.hid hcm1
      clear hcm1 hcell hC
      refine region_sched (G := Mod []) [([0,1,2,3,4,5],6)] [7] (by kernel_rfl) (by kernel_rfl) (by kernel_rfl) rfl (Mod.refl []) (fun _ _ _ h1 h2 => h1.trans h2 (by simp)) ?_
      simp only [stages, pickO, nthO, headO, List.cons_append, List.nil_append]
      refine sched_step ?_
      repeat (go_big_quiet_step (fail))
      refine wpQuiet_nil ?_
      intro K hK
      rw [if_pos (by rfl)]
      go_simp
      refine (hcm2.out _).mono ?_
      rintro e w1 ⟨rfl, hm1'⟩
      try dsimp only
      refine hK.out _ _ hm1' ?_
      have hmod2 := Lib.hid ((hmod.out.drew).trans hm1' (by simp))
      clear hK K hm1' q0 q1 q2 r0 r1 r2 hcm2 hbk hmw
      refine sched_last ?_
      generalize cmpW (eu, ev, ew) (tu, tv, tw) = z at *
      by_cases hz : z < 0
      · have hC2 := Lib.hid (hup.out hz)
        clear hup hdn
        repeat (go_big_quiet_step (fail))
        refine wpQuiet_nil ?_
        go_wp2_with fail
        go_roundw
        case rel => exact ⟨m + 1, j, by omega, hjn, by go_num, rfl, hC2, hmod2⟩
        case measure => simp [intOf]; omega
      · have hC2 := Lib.hid (hdn.out hz)
        clear hup hdn
        repeat (go_big_quiet_step (fail))
        refine wpQuiet_nil ?_
        go_wp2_with fail
        go_roundw
        case rel => exact ⟨i, m, by omega, by omega, rfl, by go_num, hC2, hmod2⟩
        case measure => simp [intOf]; omega
    · obtain rfl : i = j := by omega
      by_cases hin : i < n
      · have hin1 : (i : Int) < n := by omega
        go_upto_region 8 with fail
        have hml : i < l.length := by have := hn'.out; omega
        obtain ⟨g, o, rfl, hg, hcell⟩ := ed_cells h'.out hml
        have hfd := Lib.hid (hC.out.found hs'.out hml)
        have hmw := Lib.hid (fun (m : Fut (Mod []) wr.drew) => (((Mod.refl [] w).alloc (.cells #[.int .i64 tu, .int .i64 tv, .int .i64 tw] 146)).trans hmod.out (by simp)).drew.trans m.of (by simp))
        have q0 := fun (m : Fut (Mod []) wr.drew) => (hcell _ (hmw.out m)).1
        have q1 := fun (m : Fut (Mod []) wr.drew) => (hcell _ (hmw.out m)).2.1
        have q2 := fun (m : Fut (Mod []) wr.drew) => (hcell _ (hmw.out m)).2.2
        have hbk := Lib.hid (fun (m : Fut (Mod []) wr.drew) => hB.out.keep (hmod.out.drew.trans m.of (by simp)) (by simp))
        have r0 := fun (m : Fut (Mod []) wr.drew) => (hbk.out m).cell 0 rfl
        have r1 := fun (m : Fut (Mod []) wr.drew) => (hbk.out m).cell 1 rfl
        have r2 := fun (m : Fut (Mod []) wr.drew) => (hbk.out m).cell 2 rfl
        have hcm1 := fun w => hcm.out l[i] w
        generalize l[i] = e at *
        obtain ⟨eu, ev, ew⟩ := e
        unfold edV at hcm1
        simp only at hcm1 q0 q1 q2
        have hcm2 := Lib.hid hcm1
        clear hcm1 hcell hC
        refine region_sched (G := Mod []) [([0,1,2,3,4,5,6,7,8,9,10],11)] [12,13,14,15] (by kernel_rfl) (by kernel_rfl) (by kernel_rfl) rfl (Mod.refl []) (fun _ _ _ h1 h2 => h1.trans h2 (by simp)) ?_
        simp only [stages, pickO, nthO, headO, List.cons_append, List.nil_append]
        refine sched_step ?_
        repeat (go_big_quiet_step (fail))
        refine wpQuiet_nil ?_
        intro K hK
        rw [if_pos (by rfl)]
        go_simp
        refine (hcm2.out _).mono ?_
        rintro e w1 ⟨rfl, hm1'⟩
        try dsimp only
        refine hK.out _ _ hm1' ?_
        have hmod2 := Lib.hid ((((Mod.refl [] w).alloc (.cells #[.int .i64 tu, .int .i64 tv, .int .i64 tw] 146)).trans hmod.out (by simp)).drew.trans hm1' (by simp))
        clear hK K hm1' q0 q1 q2 r0 r1 r2 hcm2 hbk hmw
        refine sched_last ?_
        generalize cmpW (eu, ev, ew) (tu, tv, tw) = z at *
        obtain ⟨b, hb⟩ : ∃ b, (z == 0) = b := ⟨_, rfl⟩
        rw [hb] at hfd
        repeat (go_big_quiet_step (fail))
        refine wpQuiet_nil ?_
        try rw [hb]
        go_wp2_with fail
        exact bodyPost_ret (v := .tuple #[.int .i64 i, .bool b]) (by simp [results, Tryz.results205, go_sem]) rfl ⟨i, b, rfl, hfd.out, hmod2.out⟩
      · obtain rfl : i = n := by omega
        have hfd := Lib.hid (hC.out.none (by rw [hn'.out]; exact Nat.le_refl _))
        have hmod2 := Lib.hid ((((Mod.refl [] w).alloc (.cells #[.int .i64 tu, .int .i64 tv, .int .i64 tw] 146)).trans hmod.out (by simp)))
        clear hC
        go_upto_region 8 with fail
        refine region_sched (G := Mod []) [([0,1,2,3,4,5,6,7,8,9,10],11)] [12,13,14,15] (by kernel_rfl) (by kernel_rfl) (by kernel_rfl) rfl (Mod.refl []) (fun _ _ _ h1 h2 => h1.trans h2 (by simp)) ?_
        simp only [stages, pickO, nthO, headO, List.cons_append, List.nil_append]
        refine sched_step ?_
        repeat (go_big_quiet_step (fail))
        refine wpQuiet_nil ?_
        intro K hK
        rw [if_neg (by exact Bool.false_ne_true)]
        go_simp
        refine hK.out _ _ (Mod.refl [] _) ?_
        clear hK K
        refine sched_last ?_
        repeat (go_big_quiet_step (fail))
        refine wpQuiet_nil ?_
        go_wp2_with fail
        exact bodyPost_ret (v := .tuple #[.int .i64 i, .bool false]) (by simp [results, Tryz.results205, go_sem]) rfl ⟨i, false, rfl, hfd.out, (hmod2.out).drew⟩
end Edge
end Go.Proofs.YtjpfmkfikidgkaaGreat
