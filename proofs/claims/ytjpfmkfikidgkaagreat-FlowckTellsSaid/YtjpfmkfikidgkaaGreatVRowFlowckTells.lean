/- Regions that draw their order and call yield: quiet operations first, stage by stage, as in XSched; a stage's last operation may begin a round of a loop over a function. (Ahead of it: Two edges' pairs are compared; where a pair lies is sought. What an edge of a graph weighs. The law's awake: a graph is made at all, and tells. A graph's edges: one, all. Whether two slices hold the same numbers. The reference's edges: the same list? slices.Equal of edges. What no graph at all tells; whether two graphs are the same. The arcs of a graph that is there; the law's awake: arcs are told at all. What is left of arcs as a plain thing: a flow of each edge; what an arc has left, what stays at a vertex, what a push does. What is left of arcs, as an object: what it tells; a push. What is left of arcs: a push along an arc; all flows; of nil there is nothing. What is left of arcs: all flows; of nil there is nothing; New. The reference's flow: New, Left. The reference's flow: Excess. Whether a flow may be, as plain things. To where something may go, as a plain thing. How far it is: levels, as plain things. What is left of arcs: to where something may go. The search for how far it is: a vertex is seen. What is left of arcs: New. What is left of arcs: the contracts over several objects; the law's awake. What stays anywhere, of any flow: the program's. The reference's Excess of a flow (straitref28). Vertices put together, as plain things: what a naming is; edges that are split and merged again; the naming of two vertices. Whether names are a naming. Edges that weigh too much are split. The graph of a naming. Two vertices put together. The reference: whether a number is in a list; namings; two vertices put together. The reference's Carries (straitref28).) -/
import Derived.Test.YtjpfmkfikidgkaaGreatMerge3
import Derived.Test.YtjpfmkfikidgkaaGreatNetLaw
import Derived.Laws.EntriesVeiled
import Derived.Test.YtjpfmkfikidgkaaGreatURowFlowckTells
import Derived.Test.YtjpfmkfikidgkaaGreatRd
import Derived.Test.YtjpfmkfikidgkaaGreatEdRow
import Derived.Laws.StructEq
import Derived.Test.YtjpfmkfikidgkaaGreatCsrLaw
import Derived.Test.YtjpfmkfikidgkaaGreatCsr2
import Derived.Test.YtjpfmkfikidgkaaGreatRefN2
import Derived.Test.YtjpfmkfikidgkaaGreatRefN3
import Derived.Test.YtjpfmkfikidgkaaGreatTotLaw
import Derived.Test.YtjpfmkfikidgkaaGreatSepAt
import Derived.Test.YtjpfmkfikidgkaaGreatStepApp
import Derived.Test.YtjpfmkfikidgkaaGreatKit3
import Derived.Test.YtjpfmkfikidgkaaGreatFork
import Derived.StillTailTactics
import Derived.Deep.Cut
import Derived.Test.YtjpfmkfikidgkaaGreatSched
import Derived.OrdersIn
set_option linter.unusedVariables false
set_option linter.unusedSimpArgs false
namespace Go.Proofs.YtjpfmkfikidgkaaGreat
open Go.RowKit
namespace Edge
def cmpW (a b : Ed) : Int := if cmpI a.1 b.1 ≠ 0 then cmpI a.1 b.1 else cmpI a.2.1 b.2.1
theorem cmpW_lt {a b : Ed} : cmpW a b < 0 ↔ before (key a) (key b) := by
  unfold cmpW cmpI before key
  simp only
  repeat' split
  all_goals omega
theorem cmpW_eq {a b : Ed} : cmpW a b = 0 ↔ key a = key b := by
  unfold cmpW cmpI key
  rw [Prod.mk.injEq]
  repeat' split
  all_goals omega
set_option maxRecDepth 100000 in
set_option maxHeartbeats 2000000 in
theorem cmpW_any (a b : Ed) (w : World) : Calls Tryz.prog 206 #[edV a, edV b] w fun e w' => e = .returned (.int .i64 (cmpW a b)) ∧ Mod [] w w' := by
  obtain ⟨au, av, aw⟩ := a
  obtain ⟨bu, bv, bw⟩ := b
  have hA := (Has.new w [.int .i64 au, .int .i64 av, .int .i64 aw] 146).alloc (.cells #[.int .i64 bu, .int .i64 bv, .int .i64 bw] 146)
  have hB := Has.new (w.alloc (.cells #[.int .i64 au, .int .i64 av, .int .i64 aw] 146)) [.int .i64 bu, .int .i64 bv, .int .i64 bw] 146
  rw [World.size_alloc] at hB
  obtain ⟨W, hW⟩ : ∃ W, W = ((w.alloc (.cells #[.int .i64 au, .int .i64 av, .int .i64 aw] 146)).alloc (.cells #[.int .i64 bu, .int .i64 bv, .int .i64 bw] 146)).drew := ⟨_, rfl⟩
  replace hA : Has W w.heap.size [.int .i64 au, .int .i64 av, .int .i64 aw] 146 := by rw [hW]; exact hA
  replace hB : Has W (w.heap.size + 1) [.int .i64 bu, .int .i64 bv, .int .i64 bw] 146 := by rw [hW]; exact hB
  have f0 : ∀ m : Fut (Mod []) W, m.v.cell? ⟨w.heap.size, 0, none⟩ = some (.int .i64 au) := fun m => (hA.keep m.of (by simp)).cell 0 rfl
  have f1 : ∀ m : Fut (Mod []) W, m.v.cell? ⟨w.heap.size, 1, none⟩ = some (.int .i64 av) := fun m => (hA.keep m.of (by simp)).cell 1 rfl
  have g0 : ∀ m : Fut (Mod []) W, m.v.cell? ⟨w.heap.size + 1, 0, none⟩ = some (.int .i64 bu) := fun m => (hB.keep m.of (by simp)).cell 0 rfl
  have g1 : ∀ m : Fut (Mod []) W, m.v.cell? ⟨w.heap.size + 1, 1, none⟩ = some (.int .i64 bv) := fun m => (hB.keep m.of (by simp)).cell 1 rfl
  have c1 := Lib.hid (fun w => compare_any au bu w)
  have c2 := Lib.hid (fun w => compare_any av bv w)
  have hr : orI [cmpI au bu, cmpI av bv] = cmpW (au, av, aw) (bu, bv, bw) := by
    unfold cmpW
    simp only [orI]
    repeat' split
    all_goals simp_all
  obtain ⟨r, hr2⟩ : ∃ r, cmpW (au, av, aw) (bu, bv, bw) = r := ⟨_, rfl⟩
  rw [hr2]
  rw [hr2] at hr
  have hor : ∀ w, Has w W.heap.size ([cmpI au bu, cmpI av bv].map fun x => Value.int .i64 x) 3 → Calls Tryz.prog 207 #[.slice (some ⟨W.heap.size, 0, none⟩) 2 2] w fun e w' => e = .returned (.int .i64 r) ∧ w' = w := fun w h => by
    have := or_any (l := [cmpI au bu, cmpI av bv]) (rd_has h (by simp))
    rw [hr] at this
    exact this
  generalize cmpI au bu = x1 at *
  generalize cmpI av bv = x2 at *
  have hor' := Lib.hid hor
  have hfin : Hid (Mod [] w (W.alloc (.cells #[.int .i64 x1, .int .i64 x2] 3))) := Lib.hid (by
    rw [hW]
    refine Mod.alloc ?_ _
    exact (((Mod.refl [] w).alloc _).alloc _).drew)
  have hW' := Lib.hid hW
  unfold edV
  clear hor hr hr2 hA hB hW
  go_enter Tryz.func206, Tryz.ntmps206
  go_upto_region 1 with fail
  refine region_sched (G := Mod []) [([0,1,2,3,5,6,7,8],4), ([],9), ([],10), ([],11)] [12] (by kernel_rfl) (by kernel_rfl) (by kernel_rfl) rfl (Mod.refl []) (fun _ _ _ h1 h2 => h1.trans h2 (by simp)) ?_
  simp only [stages, pickO, nthO, headO, List.cons_append, List.nil_append]
  rw [← hW'.out]
  refine sched_step ?_
  repeat (go_big_quiet_step (fail))
  refine wpQuiet_nil ?_
  intro K hK
  rw [if_pos (by rfl)]
  go_simp
  refine (c1.out _).mono ?_
  rintro e w1 ⟨rfl, rfl⟩
  try dsimp only
  refine hK.out _ _ (Mod.refl _ _) ?_
  clear hK K f0 f1 g0 g1
  refine sched_step ?_
  refine wpQuiet_nil ?_
  intro K hK
  rw [if_pos (by rfl)]
  go_simp
  refine (c2.out _).mono ?_
  rintro e w1 ⟨rfl, rfl⟩
  try dsimp only
  refine hK.out _ _ (Mod.refl _ _) ?_
  clear hK K
  refine sched_step ?_
  refine wpQuiet_nil ?_
  intro K hK
  rw [if_pos (by rfl)]
  go_simp
  refine hK.out _ _ ((Mod.refl [] _).alloc _) ?_
  clear hK K
  refine sched_step ?_
  refine wpQuiet_nil ?_
  intro K hK
  rw [if_pos (by rfl)]
  go_simp
  refine (hor'.out _ (Has.new _ _ _)).mono ?_
  rintro e w2 ⟨rfl, rfl⟩
  try dsimp only
  refine hK.out _ _ (Mod.refl _ _) ?_
  clear hK K
  refine sched_last ?_
  repeat (go_big_quiet_step (fail))
  refine wpQuiet_nil ?_
  go_wp2_with fail
  go_ret
  exact ⟨rfl, hfin.out⟩
/-! ### a search by halves -/
/-- All ahead of i come ahead of t; none from j on. -/
structure Cut (L : List Ed) (t : Ed) (i j : Nat) : Prop where
  low : ∀ k (h : k < L.length), k < i → cmpW L[k] t < 0
  high : ∀ k (h : k < L.length), j ≤ k → ¬ cmpW L[k] t < 0
theorem Cut.start (L : List Ed) (t : Ed) {n : Nat} (hn : L.length = n) : Cut L t 0 n := ⟨fun k _ h => by omega, fun k h h1 => by omega⟩
theorem Cut.up {L : List Ed} {t : Ed} {i j m : Nat} (h : Cut L t i j) (hs : Rising L) (hm : m < L.length) (hc : cmpW L[m] t < 0) : Cut L t (m + 1) j := by
  refine ⟨fun k hk hkm => ?_, h.high⟩
  rcases Nat.lt_or_ge k m with h1 | h1
  · rw [cmpW_lt] at *
    exact before_trans (List.pairwise_iff_getElem.1 hs k m hk hm h1) hc
  · obtain rfl : k = m := by omega
    exact hc
theorem Cut.down {L : List Ed} {t : Ed} {i j m : Nat} (h : Cut L t i j) (hs : Rising L) (hm : m < L.length) (hc : ¬ cmpW L[m] t < 0) : Cut L t i m := by
  refine ⟨h.low, fun k hk hkm => ?_⟩
  rcases Nat.lt_or_ge m k with h1 | h1
  · rw [cmpW_lt] at *
    exact fun h2 => hc (before_trans (List.pairwise_iff_getElem.1 hs m k hm hk h1) h2)
  · obtain rfl : k = m := by omega
    exact hc
/-- The search's answer: where, and whether there. -/
def Found (L : List Ed) (t : Ed) (i : Nat) (b : Bool) : Prop := (b = true → ∃ h : i < L.length, key L[i] = key t) ∧ (b = false → ∀ e ∈ L, key e ≠ key t)
theorem Cut.found {L : List Ed} {t : Ed} {i : Nat} (h : Cut L t i i) (hs : Rising L) (hi : i < L.length) : Found L t i (cmpW L[i] t == 0) := by
  constructor
  · intro hb
    exact ⟨hi, cmpW_eq.1 (by simpa using hb)⟩
  · intro hb e he hk
    have hne : cmpW L[i] t ≠ 0 := by simpa using hb
    obtain ⟨k, hk1, rfl⟩ := List.getElem_of_mem he
    rcases Nat.lt_trichotomy k i with h1 | h1 | h1
    · have := cmpW_lt.1 (h.low k hk1 h1)
      rw [hk] at this
      exact before_irrefl _ this
    · subst h1
      exact hne (cmpW_eq.2 hk)
    · have h2 := List.pairwise_iff_getElem.1 hs i k hi hk1 h1
      rw [hk] at h2
      exact h.high i hi (Nat.le_refl _) (cmpW_lt.2 h2)
theorem Cut.none {L : List Ed} {t : Ed} {i : Nat} (h : Cut L t i i) (hi : L.length ≤ i) : Found L t i false := by
  refine ⟨fun hb => Bool.noConfusion hb, fun _ e he hk => ?_⟩
  obtain ⟨k, hk1, rfl⟩ := List.getElem_of_mem he
  have := cmpW_lt.1 (h.low k hk1 (by omega))
  rw [hk] at this
  exact before_irrefl _ this
theorem found_weight {L : List Ed} (hs : Rising L) {u v : Int} {i : Nat} {b : Bool} {t : Ed} (ht : key t = (min u v, max u v)) (h : Found L t i b) : (b = true → ∃ hi : i < L.length, L[i].2.2 = weight L u v) ∧ (b = false → weight L u v = 0) := by
  constructor
  · intro hb
    obtain ⟨hi, h1⟩ := h.1 hb
    refine ⟨hi, ?_⟩
    rw [weight_wt hs.apart, ← ht, ← h1, wt_mem hs.apart _ (List.getElem_mem hi)]
  · intro hb
    rw [weight_wt hs.apart, ← ht]
    exact wt_away (fun x hx => h.2 hb x hx)
set_option maxRecDepth 100000 in
set_option maxHeartbeats 4000000 in
theorem search_any {l : List Ed} {a : Option Addr} {c : Nat} {w : World} (h : Rd w 3 (.slice a l.length c) l.length (flat encEd l)) (hs : Rising l) (hl : l.length ≤ 1048576) (t : Ed) :
    Calls Tryz.prog 205 #[.slice a l.length c, edV t, .func (.func 206) #[] #[]] w fun en w' => ∃ (i : Nat) (b : Bool), en = .returned (.tuple #[.int .i64 i, .bool b]) ∧ Found l t i b ∧ Mod [] w w' := by
  have h' := Lib.hid h
  have hs' := Lib.hid hs
  obtain ⟨n, hn⟩ : ∃ n, l.length = n := ⟨_, rfl⟩
  have hst := Lib.hid (Cut.start l t hn)
  have hn' := Lib.hid hn
  rw [hn] at hl ⊢
  obtain ⟨tu, tv, tw⟩ := t
  have hcm := Lib.hid (fun e w => cmpW_any e (tu, tv, tw) w)
  have hB := Lib.hid (Has.new w [.int .i64 tu, .int .i64 tv, .int .i64 tw] 146)
  unfold edV
  clear h hs hn
  go_enter Tryz.func205, Tryz.ntmps205
  go_wp2_with fail
  go_loopw [9, 10] (fun s9 s10 wr => ∃ i j : Nat, i ≤ j ∧ j ≤ n ∧ s9 = .int .i64 i ∧ s10 = .int .i64 j ∧ Hid (Cut l (tu, tv, tw) i j) ∧ Hid (Mod [] (w.alloc (.cells #[.int .i64 tu, .int .i64 tv, .int .i64 tw] 146)) wr)) (fun s9 s10 _ => (intOf s10).toNat - (intOf s9).toNat)
  case atStart => exact ⟨0, n, Nat.zero_le _, Nat.le_refl _, rfl, rfl, hst, Lib.hid (Mod.refl _ _)⟩
  case round =>
    clear hst
    obtain ⟨i, j, hij, hjn, rfl, rfl, hC, hmod⟩ := hrel
    by_cases hlt : i < j
    · have hlt1 : (i : Int) < j := by omega
      obtain ⟨m, hm, hm1, hm2⟩ : ∃ m : Nat, ((i : Int) + j) / 2 = m ∧ i ≤ m ∧ m < j := ⟨(i + j) / 2, by omega, by omega, by omega⟩
      go_upto_region 5 with fail
      try rw [hm]
      have hml : m < l.length := by have := hn'.out; omega
      obtain ⟨g, o, rfl, hg, hcell⟩ := ed_cells h'.out hml
      have hup := Lib.hid (fun hc => hC.out.up hs'.out hml hc)
      have hdn := Lib.hid (fun hc => hC.out.down hs'.out hml hc)
      have hmw := Lib.hid (fun (m : Fut (Mod []) wr.drew) => (((Mod.refl [] w).alloc (.cells #[.int .i64 tu, .int .i64 tv, .int .i64 tw] 146)).trans hmod.out (by simp)).drew.trans m.of (by simp))
      have q0 := fun (m : Fut (Mod []) wr.drew) => (hcell _ (hmw.out m)).1
      have q1 := fun (m : Fut (Mod []) wr.drew) => (hcell _ (hmw.out m)).2.1
      have q2 := fun (m : Fut (Mod []) wr.drew) => (hcell _ (hmw.out m)).2.2
      have hbk := Lib.hid (fun (m : Fut (Mod []) wr.drew) => hB.out.keep (hmod.out.drew.trans m.of (by simp)) (by simp))
      have r0 := fun (m : Fut (Mod []) wr.drew) => (hbk.out m).cell 0 rfl
      have r1 := fun (m : Fut (Mod []) wr.drew) => (hbk.out m).cell 1 rfl
      have r2 := fun (m : Fut (Mod []) wr.drew) => (hbk.out m).cell 2 rfl
      have hcm1 := fun w => hcm.out l[m] w
      generalize l[m] = e at *
      obtain ⟨eu, ev, ew⟩ := e
      unfold edV at hcm1
      simp only at hcm1 q0 q1 q2
      have hcm2 := Lib.hid hcm1
      clear hcm1 hcell hC
      refine region_sched (G := Mod []) [([0,1,2,3,4,5],6)] [7] (by kernel_rfl) (by kernel_rfl) (by kernel_rfl) rfl (Mod.refl []) (fun _ _ _ h1 h2 => h1.trans h2 (by simp)) ?_
      simp only [stages, pickO, nthO, headO, List.cons_append, List.nil_append]
      refine sched_step ?_
      repeat (go_big_quiet_step (fail))
      refine wpQuiet_nil ?_
      intro K hK
      rw [if_pos (by rfl)]
      go_simp
      refine (hcm2.out _).mono ?_
      rintro e w1 ⟨rfl, hm1'⟩
      try dsimp only
      refine hK.out _ _ hm1' ?_
      have hmod2 := Lib.hid ((hmod.out.drew).trans hm1' (by simp))
      clear hK K hm1' q0 q1 q2 r0 r1 r2 hcm2 hbk hmw
      refine sched_last ?_
      generalize cmpW (eu, ev, ew) (tu, tv, tw) = z at *
      by_cases hz : z < 0
      · have hC2 := Lib.hid (hup.out hz)
        clear hup hdn
        repeat (go_big_quiet_step (fail))
        refine wpQuiet_nil ?_
        go_wp2_with fail
        go_roundw
        case rel => exact ⟨m + 1, j, by omega, hjn, by go_num, rfl, hC2, hmod2⟩
        case measure => simp [intOf]; omega
      · have hC2 := Lib.hid (hdn.out hz)
        clear hup hdn
        repeat (go_big_quiet_step (fail))
        refine wpQuiet_nil ?_
        go_wp2_with fail
        go_roundw
        case rel => exact ⟨i, m, by omega, by omega, rfl, by go_num, hC2, hmod2⟩
        case measure => simp [intOf]; omega
    · obtain rfl : i = j := by omega
      by_cases hin : i < n
      · have hin1 : (i : Int) < n := by omega
        go_upto_region 8 with fail
        have hml : i < l.length := by have := hn'.out; omega
        obtain ⟨g, o, rfl, hg, hcell⟩ := ed_cells h'.out hml
        have hfd := Lib.hid (hC.out.found hs'.out hml)
        have hmw := Lib.hid (fun (m : Fut (Mod []) wr.drew) => (((Mod.refl [] w).alloc (.cells #[.int .i64 tu, .int .i64 tv, .int .i64 tw] 146)).trans hmod.out (by simp)).drew.trans m.of (by simp))
        have q0 := fun (m : Fut (Mod []) wr.drew) => (hcell _ (hmw.out m)).1
        have q1 := fun (m : Fut (Mod []) wr.drew) => (hcell _ (hmw.out m)).2.1
        have q2 := fun (m : Fut (Mod []) wr.drew) => (hcell _ (hmw.out m)).2.2
        have hbk := Lib.hid (fun (m : Fut (Mod []) wr.drew) => hB.out.keep (hmod.out.drew.trans m.of (by simp)) (by simp))
        have r0 := fun (m : Fut (Mod []) wr.drew) => (hbk.out m).cell 0 rfl
        have r1 := fun (m : Fut (Mod []) wr.drew) => (hbk.out m).cell 1 rfl
        have r2 := fun (m : Fut (Mod []) wr.drew) => (hbk.out m).cell 2 rfl
        have hcm1 := fun w => hcm.out l[i] w
        generalize l[i] = e at *
        obtain ⟨eu, ev, ew⟩ := e
        unfold edV at hcm1
        simp only at hcm1 q0 q1 q2
        have hcm2 := Lib.hid hcm1
        clear hcm1 hcell hC
        refine region_sched (G := Mod []) [([0,1,2,3,4,5,6,7,8,9,10],11)] [12,13,14,15] (by kernel_rfl) (by kernel_rfl) (by kernel_rfl) rfl (Mod.refl []) (fun _ _ _ h1 h2 => h1.trans h2 (by simp)) ?_
        simp only [stages, pickO, nthO, headO, List.cons_append, List.nil_append]
        refine sched_step ?_
        repeat (go_big_quiet_step (fail))
        refine wpQuiet_nil ?_
        intro K hK
        rw [if_pos (by rfl)]
        go_simp
        refine (hcm2.out _).mono ?_
        rintro e w1 ⟨rfl, hm1'⟩
        try dsimp only
        refine hK.out _ _ hm1' ?_
        have hmod2 := Lib.hid ((((Mod.refl [] w).alloc (.cells #[.int .i64 tu, .int .i64 tv, .int .i64 tw] 146)).trans hmod.out (by simp)).drew.trans hm1' (by simp))
        clear hK K hm1' q0 q1 q2 r0 r1 r2 hcm2 hbk hmw
        refine sched_last ?_
        generalize cmpW (eu, ev, ew) (tu, tv, tw) = z at *
        obtain ⟨b, hb⟩ : ∃ b, (z == 0) = b := ⟨_, rfl⟩
        rw [hb] at hfd
        repeat (go_big_quiet_step (fail))
        refine wpQuiet_nil ?_
        try rw [hb]
        go_wp2_with fail
        exact bodyPost_ret (v := .tuple #[.int .i64 i, .bool b]) (by simp [results, Tryz.results205, go_sem]) rfl ⟨i, b, rfl, hfd.out, hmod2.out⟩
      · obtain rfl : i = n := by omega
        have hfd := Lib.hid (hC.out.none (by rw [hn'.out]; exact Nat.le_refl _))
        have hmod2 := Lib.hid ((((Mod.refl [] w).alloc (.cells #[.int .i64 tu, .int .i64 tv, .int .i64 tw] 146)).trans hmod.out (by simp)))
        clear hC
        go_upto_region 8 with fail
        refine region_sched (G := Mod []) [([0,1,2,3,4,5,6,7,8,9,10],11)] [12,13,14,15] (by kernel_rfl) (by kernel_rfl) (by kernel_rfl) rfl (Mod.refl []) (fun _ _ _ h1 h2 => h1.trans h2 (by simp)) ?_
        simp only [stages, pickO, nthO, headO, List.cons_append, List.nil_append]
        refine sched_step ?_
        repeat (go_big_quiet_step (fail))
        refine wpQuiet_nil ?_
        intro K hK
        rw [if_neg (by exact Bool.false_ne_true)]
        go_simp
        refine hK.out _ _ (Mod.refl [] _) ?_
        clear hK K
        refine sched_last ?_
        repeat (go_big_quiet_step (fail))
        refine wpQuiet_nil ?_
        go_wp2_with fail
        exact bodyPost_ret (v := .tuple #[.int .i64 i, .bool false]) (by simp [results, Tryz.results205, go_sem]) rfl ⟨i, false, rfl, hfd.out, (hmod2.out).drew⟩
end Edge
end Go.Proofs.YtjpfmkfikidgkaaGreat

set_option linter.unusedVariables false
set_option linter.unusedSimpArgs false
namespace Go.Proofs.YtjpfmkfikidgkaaGreat
open Go.RowKit
namespace Edge
theorem norm_key (u v : Int) : ∃ x y : Int, norm (u, v, 0) = (x, y, 0) ∧ key (x, y, 0) = (min u v, max u v) := by
  unfold norm key
  simp only
  split
  · exact ⟨v, u, rfl, by simp only [Prod.mk.injEq]; omega⟩
  · exact ⟨u, v, rfl, by simp only [Prod.mk.injEq]; omega⟩
set_option maxRecDepth 100000 in
set_option maxHeartbeats 4000000 in
theorem weight_net {w : World} {b n : Nat} {L : List Ed} {F : List Nat} (h : NetP b n L w F) (hG : GOk n L) (u v : Int) : Calls Tryz.prog 143 #[.pointer (some ⟨b, 0, none⟩), .int .i64 u, .int .i64 v] w fun e w' => e = .returned (.int .i64 (weight L u v)) ∧ Mod [] w w' := by
  obtain ⟨gn, gd, a, c, hr⟩ := h.rd
  obtain ⟨x, y, hxy, hkey⟩ := norm_key u v
  have hnm := Lib.hid (normal_any (u, v, 0) w)
  unfold edV at hnm
  rw [hxy] at hnm
  simp only at hnm
  have hfw := Lib.hid (fun i b (hf : Found L (x, y, 0) i b) => found_weight hG.rising (u := u) (v := v) hkey hf)
  have hse := Lib.hid (fun W (m : Mod [] w W) => search_any (hr.eds.still m) hG.rising hG.len (x, y, 0))
  have hb := Lib.hid hr.hb
  have hce := Lib.hid (fun i (hi : i < L.length) => ed_cells hr.eds hi)
  clear hxy h hG hkey hr
  generalize weight L u v = r at *
  go_enter Tryz.func143, Tryz.ntmps143
  go_upto_region 4 with (go_at_call 167; refine hnm.out.mono ?_; rintro e w1 ⟨rfl, hm1⟩; have hm1' := Lib.hid hm1; clear hm1)
  have hbk := Lib.hid (fun (m : Fut (Mod []) (w1.alloc (.cells #[.int .i64 x, .int .i64 y, .int .i64 0] 146)).drew) => hb.out.keep (((hm1'.out.alloc (.cells #[.int .i64 x, .int .i64 y, .int .i64 0] 146)).drew).trans m.of (by simp)) (by simp))
  have hbb := Lib.hid (fun (m : Fut (Mod []) (w1.alloc (.cells #[.int .i64 x, .int .i64 y, .int .i64 0] 146)).drew) => (Has.new w1 [.int .i64 x, .int .i64 y, .int .i64 0] 146).keep ((Mod.refl [] (w1.alloc (.cells #[.int .i64 x, .int .i64 y, .int .i64 0] 146))).drew.trans m.of (by simp)) (by simp))
  have b2 := fun m => (hbk.out m).cell 2 rfl
  have r0 := fun m => (hbb.out m).cell 0 rfl
  have r1 := fun m => (hbb.out m).cell 1 rfl
  have r2 := fun m => (hbb.out m).cell 2 rfl
  have hse2 := Lib.hid (hse.out _ (hm1'.out.alloc (.cells #[.int .i64 x, .int .i64 y, .int .i64 0] 146)).drew)
  clear hse
  refine region_sched (G := Mod []) [([0,1,2,3,4],5)] [6,7,8,9,10] (by kernel_rfl) (by kernel_rfl) (by kernel_rfl) rfl (Mod.refl []) (fun _ _ _ h1 h2 => h1.trans h2 (by simp)) ?_
  simp only [stages, pickO, nthO, headO, List.cons_append, List.nil_append]
  refine sched_step ?_
  repeat (go_big_quiet_step (fail))
  refine wpQuiet_nil ?_
  intro K hK
  rw [if_pos (by rfl)]
  go_simp
  refine hse2.out.mono ?_
  rintro e w2 ⟨i, q, rfl, hf, hm2⟩
  try dsimp only
  refine hK.out _ _ hm2 ?_
  have hmod2 := Lib.hid ((hm1'.out.alloc (.cells #[.int .i64 x, .int .i64 y, .int .i64 0] 146)).drew.trans hm2 (by simp))
  have hfw2 := hfw.out i q hf
  clear hK K hm2 b2 r0 r1 r2 hse2 hbk hbb hfw hf
  refine sched_last ?_
  repeat (go_big_quiet_step (fail))
  refine wpQuiet_nil ?_
  cases q with
  | false =>
    have hz := hfw2.2 rfl
    subst hz
    clear hfw2
    go_wp2_with fail
    go_ret
    exact ⟨rfl, hmod2.out⟩
  | true =>
    obtain ⟨hi, hz⟩ := hfw2.1 rfl
    obtain ⟨g, o, rfl, hg, hcell⟩ := hce.out i hi
    obtain ⟨_, _, q2⟩ := hcell w2 hmod2.out
    rw [hz] at q2
    have hb2 := hb.out.keep hmod2.out (by simp)
    have b2 := hb2.cell 2 rfl
    have bl := hb2.lt
    have hg2 : g < w2.heap.size := Nat.lt_of_lt_of_le hg hmod2.out.size
    have hi1 : (i : Int) < L.length := by omega
    clear hfw2 hz hce hcell hb2
    go_wp2_with fail
    go_ret
    exact ⟨rfl, hmod2.out⟩
end Edge
end Go.Proofs.YtjpfmkfikidgkaaGreat

set_option linter.unusedVariables false
set_option linter.unusedSimpArgs false
namespace Go.Proofs.YtjpfmkfikidgkaaGreat
open Go.RowKit
namespace Edge
theorem rd_ed {w : World} {b : Nat} {l : List Ed} {t : TypeId} (h : Has w b (flat encEd l) t) (hl : l.length ≤ 1000000000) : Rd w 3 (.slice (some ⟨b, 0, none⟩) l.length l.length) l.length (flat encEd l) :=
  ⟨flat_length encEd_len l, .inr ⟨⟨b, 0, none⟩, l.length, rfl, Nat.le_refl _, by simp only [maxLen]; omega, fun j u hu => by rw [Addr.add_lit, Nat.zero_add]; exact h.cell j hu⟩⟩
section
variable {w0 w : World} {b n : Nat} {L : List Ed} {R : List Part}
theorem n_sep (h : Sep w0 w (NetP b n L :: R)) : Calls Tryz.prog 72 #[.pointer (some ⟨b, 0, none⟩)] w fun e w' => e = .returned (.int .i64 n) ∧ w' = w := by
  obtain ⟨F, h1, _⟩ := h.first
  exact n_net h1
theorem m_sep (h : Sep w0 w (NetP b n L :: R)) : Calls Tryz.prog 73 #[.pointer (some ⟨b, 0, none⟩)] w fun e w' => e = .returned (.int .i64 L.length) ∧ w' = w := by
  obtain ⟨F, h1, _⟩ := h.first
  exact m_net h1
theorem total_sep (h : Sep w0 w (NetP b n L :: R)) : Calls Tryz.prog 95 #[.pointer (some ⟨b, 0, none⟩)] w fun e w' => e = .returned (.int .i64 (total L)) ∧ w' = w := by
  obtain ⟨F, h1, _⟩ := h.first
  exact total_net h1
theorem near_sep (h : Sep w0 w (NetP b n L :: R)) (hG : GOk n L) (v : Int) : Calls Tryz.prog 141 #[.pointer (some ⟨b, 0, none⟩), .int .i64 v] w fun e w' => ∃ a c, e = .returned (.slice a (near n L v).length c) ∧ Sep w0 w' (Row 3 1 (near n L v).length (.slice a (near n L v).length c) (i64s (near n L v)) :: NetP b n L :: R) := by
  obtain ⟨F, h1, _⟩ := h.first
  refine (near_net h1 hG v).mono ?_
  rintro e w' ⟨a, c, rfl, hm⟩
  exact ⟨a, c, rfl, h.made hm⟩
theorem weight_sep (h : Sep w0 w (NetP b n L :: R)) (hG : GOk n L) (u v : Int) : Calls Tryz.prog 143 #[.pointer (some ⟨b, 0, none⟩), .int .i64 u, .int .i64 v] w fun e w' => e = .returned (.int .i64 (weight L u v)) ∧ Mod [] w w' := by
  obtain ⟨F, h1, _⟩ := h.first
  exact weight_net h1 hG u v
end
theorem newE_ok {n : Int} {l : List Ed} (h : newE n l = (0, 0)) : 0 ≤ n ∧ n ≤ 4096 ∧ l.length ≤ 1048576 ∧ ∀ e ∈ l, checkE n e = 0 := by
  unfold newE at h
  split at h
  · cases h
  split at h
  · cases h
  · exact ⟨by omega, by omega, by omega, checksE_ok.1 (by rw [h])⟩
theorem new_ok {n : Int} {l : List Ed} (h : newE n l = (0, 0)) : GOk n.toNat (merged l) := by
  obtain ⟨h1, h2, h3, h4⟩ := newE_ok h
  exact merged_ok (by omega) h3 (fun e he => by rw [show ((n.toNat : Nat) : Int) = n by omega]; exact h4 e he)
theorem merged16 : merged [(1, 0, 2), (0, 1, 3)] = [(0, 1, 5)] := by decide +kernel
end Edge
end Go.Proofs.YtjpfmkfikidgkaaGreat

set_option linter.unusedVariables false
set_option linter.unusedSimpArgs false
namespace Go.Proofs.YtjpfmkfikidgkaaGreat
open Go.RowKit
namespace Edge
theorem eds_of {w : World} {b n : Nat} {L : List Ed} {F : List Nat} (h : NetP b n L w F) : ∃ a c b0 b1 b3, Has w b [b0, b1, .slice a L.length c, b3] 169 ∧ Reads w 3 (.slice a L.length c) L.length (flat encEd L) := by
  obtain ⟨gn, gd, a, c, RS, hl, h⟩ := h
  have hz : (rowsP RS (nearL n L)).length = n := by unfold rowsP nearL; simp [hl]
  obtain ⟨_, ⟨k0, _⟩, _⟩ := parts_at h 0 _ rfl
  obtain ⟨_, ⟨k3, _⟩, _⟩ := parts_at h (n + 3) (Row 146 3 L.length (.slice a L.length c) (flat encEd L)) (by
    unfold endsL
    simp only [List.getElem?_cons_succ]
    rw [List.getElem?_append_right (by omega), hz]
    simp)
  exact ⟨a, c, _, _, _, k0, Reads.own k3⟩
/-- slices.Clone of edges. -/
theorem cloneEd_any {w : World} {a : Option Addr} {c : Nat} {L : List Ed} (h : Reads w 3 (.slice a L.length c) L.length (flat encEd L)) (hl : L.length ≤ 4294967296) :
    Calls Tryz.prog 163 #[.slice a L.length c] w fun e w' => ∃ a' c', e = .returned (.slice a' L.length c') ∧ Made w w' 146 3 a' L.length c' (flat encEd L) := by
  rcases h.cases with ⟨he, hn, hx⟩ | ⟨g, o, c', he, _, _⟩
  · injection he with e1 e2 e3
    subst e1
    subst e3
    have hx := List.eq_nil_of_length_eq_zero hn
    subst hx
    refine Calls.mono (show Calls Tryz.prog 163 _ _ _ from AnyE.slices_Clone_nil Sh.cloneEd 0 0 w) ?_
    rintro e w' ⟨rfl, rfl⟩
    exact ⟨none, 0, rfl, World.ownsRow_nil _ _ _ _, Mod.refl _ _, by simp [Value.ownBlock]⟩
  · injection he with e1 e2 e3
    subst e1
    subst e3
    have hcon := AnyE.slices_Clone Sh.cloneEd _ (.agg #[.int .i64 0, .int .i64 0, .int .i64 0]) 3 24 (Option.map_eq_some_iff.1 infoEd).choose_spec.1 (by have := (Option.map_eq_some_iff.1 infoEd).choose_spec.2; exact (Prod.mk.inj this).1) (by have := (Option.map_eq_some_iff.1 infoEd).choose_spec.2; exact (Prod.mk.inj (Prod.mk.inj this).2).1) (by have := (Option.map_eq_some_iff.1 infoEd).choose_spec.2; exact (Prod.mk.inj (Prod.mk.inj this).2).2) rfl (by omega) Tryz.sizeOf146 g o L.length c (flat encEd L) w (by rw [flat_length encEd_len]) (by simp only [maxLen]; omega) (by omega) (fun j u hu => h.cell j hu) (encEd_one L)
    refine Calls.mono (show Calls Tryz.prog 163 _ _ _ from hcon) ?_
    rintro e w' ⟨v', rfl, ho, hne, hb⟩
    obtain ⟨a', c', rfl, hm⟩ := made_below ho hb
    exact ⟨a', c', rfl, hm⟩
set_option maxHeartbeats 1000000 in
theorem edges_sep {w0 w : World} {b n : Nat} {L : List Ed} {R : List Part} (h : Sep w0 w (NetP b n L :: R)) (hl : L.length ≤ 1048576) :
    Calls Tryz.prog 92 #[.pointer (some ⟨b, 0, none⟩)] w fun e w' => ∃ a c, e = .returned (.slice a L.length c) ∧ Made w w' 146 3 a L.length c (flat encEd L) := by
  obtain ⟨F, h1, _⟩ := h.first
  obtain ⟨a, c, x0, x1, x3, hb, hr⟩ := eds_of h1
  have b2 := hb.cell 2 rfl
  have bl := hb.lt
  have hcl := Lib.hid (cloneEd_any hr (by omega))
  clear h h1 hb hr
  go_enter Tryz.func92, Tryz.ntmps92
  go_wp2_with (go_at_call 163; refine hcl.out.mono ?_; rintro e w1 ⟨a', c', rfl, hm⟩; have hm' := Lib.hid hm; clear hm)
  go_ret
  exact ⟨a', c', rfl, hm'.out⟩
/-- The edge of a number; whether there is one. -/
def edAt (L : List Ed) (i : Int) : Ed × Bool := if h : 0 ≤ i ∧ i < L.length then (L[i.toNat], true) else ((0, 0, 0), false)
set_option maxRecDepth 100000 in
set_option maxHeartbeats 2000000 in
theorem edge_sep {w0 w : World} {b n : Nat} {L : List Ed} {R : List Part} (h : Sep w0 w (NetP b n L :: R)) (i : Int) :
    Calls Tryz.prog 159 #[.pointer (some ⟨b, 0, none⟩), .int .i64 i] w fun e w' => e = .returned (.tuple #[edV (edAt L i).1, .bool (edAt L i).2]) ∧ Mod [] w w' := by
  obtain ⟨F, h1, _⟩ := h.first
  obtain ⟨a, c, x0, x1, x3, hb, hr⟩ := eds_of h1
  have hm := Lib.hid (fun (W : World) (m : Mod [] w W) => m_sep (h.still m))
  have hmod := Lib.hid ((Mod.refl [] w).alloc (.cells #[.int .i64 0, .int .i64 0, .int .i64 0] 146))
  have b2 := hb.cell 2 rfl
  have bl := hb.lt
  have hr' := Lib.hid (Rd.ofReads hr)
  clear h h1 hb hr
  by_cases h0 : i < 0
  · have e : edAt L i = ((0, 0, 0), false) := by unfold edAt; rw [dif_neg (by omega)]
    rw [e]
    unfold edV
    go_enter Tryz.func159, Tryz.ntmps159
    go_wp2_with fail
    exact bodyPost_ret (v := .tuple #[.agg #[.int .i64 0, .int .i64 0, .int .i64 0], .bool false]) (by simp [results, Tryz.results159, go_sem]) rfl ⟨rfl, hmod.out⟩
  by_cases h1 : (L.length : Int) ≤ i
  · have e : edAt L i = ((0, 0, 0), false) := by unfold edAt; rw [dif_neg (by omega)]
    rw [e]
    unfold edV
    go_enter Tryz.func159, Tryz.ntmps159
    go_wp2_with (go_at_call 73; refine (hm.out _ hmod.out).mono ?_; rintro e w1 ⟨rfl, rfl⟩)
    exact bodyPost_ret (v := .tuple #[.agg #[.int .i64 0, .int .i64 0, .int .i64 0], .bool false]) (by simp [results, Tryz.results159, go_sem]) rfl ⟨rfl, hmod.out⟩
  · obtain ⟨k, rfl⟩ := Int.eq_ofNat_of_zero_le (show 0 ≤ i by omega)
    have hk : k < L.length := by omega
    have e : edAt L (k : Int) = (L[k], true) := by unfold edAt; rw [dif_pos (by omega)]; simp
    rw [e]
    obtain ⟨g, o, rfl, hg, hcell⟩ := ed_cells hr'.out hk
    obtain ⟨q0, q1, q2⟩ := hcell w (Mod.refl _ _)
    generalize L[k] = x at *
    obtain ⟨xu, xv, xw⟩ := x
    unfold edV
    simp only at q0 q1 q2
    have hk1 : (k : Int) < L.length := by omega
    clear hcell e
    go_enter Tryz.func159, Tryz.ntmps159
    go_wp2_with (go_at_call 73; refine (hm.out _ hmod.out).mono ?_; rintro e w1 ⟨rfl, rfl⟩)
    exact bodyPost_ret (v := .tuple #[.agg #[.int .i64 xu, .int .i64 xv, .int .i64 xw], .bool true]) (by simp [results, Tryz.results159, go_sem]) rfl ⟨rfl, (Mod.refl [] w).alloc _⟩
end Edge
end Go.Proofs.YtjpfmkfikidgkaaGreat

set_option linter.unusedVariables false
set_option linter.unusedSimpArgs false
namespace Go.Proofs.YtjpfmkfikidgkaaGreat
open Go.RowKit
namespace Edge
/-- The same list of whole numbers? -/
def eqI (xs ys : List Int) : Bool := decide (xs = ys)
def intsV (l : List Int) : List Value := l.map fun x => .int .i64 x
/-- The world is the old one, but that some orders have been drawn. -/
def Drawn (w w' : World) : Prop := ∃ n, w' = w.drewN n
theorem Drawn.mod {w w' : World} (h : Drawn w w') : Mod [] w w' := by obtain ⟨n, rfl⟩ := h; exact (Mod.refl _ _).drewN n
def BoolOut (b : Bool) (w : World) (e : Ending) (w' : World) : Prop := e = .returned (.bool b) ∧ Drawn w w'

theorem reads_cell {w : World} {xs : List Int} {n k c : Nat} {a : Option Addr} (h : Reads w 1 (.slice a n c) n (intsV xs)) (hk : k < n) : ∃ g o, a = some ⟨g, o, none⟩ ∧ w.cell? ⟨g, o + k, none⟩ = some (.int .i64 (xs.getD k 0)) := by
  have hl : xs.length = n := by have := h.1; simpa [intsV] using this
  rcases h.cases with ⟨_, h0, _⟩ | ⟨g, o, c', he, _, _⟩
  · omega
  · injection he with he _ hc
    subst he
    refine ⟨g, o, rfl, h.cell k ?_⟩
    simp [intsV, List.getElem?_eq_getElem (show k < xs.length by omega), List.getD_eq_getElem?_getD]
theorem reads_slice {w : World} {size n : Nat} {xs : List Value} {v : Value} (h : Reads w size v n xs) : ∃ a c, v = .slice a n c := by
  rcases h.cases with ⟨rfl, rfl, _⟩ | ⟨g, o, c, rfl, _⟩
  · exact ⟨none, 0, rfl⟩
  · exact ⟨_, c, rfl⟩
theorem reads_len {w : World} {n : Nat} {xs : List Int} {v : Value} (h : Reads w 1 v n (intsV xs)) : xs.length = n ∧ n ≤ 9223372036854775807 := by
  have hl : xs.length = n := by have := h.1; simpa [intsV] using this
  refine ⟨hl, ?_⟩
  rcases h.cases with ⟨_, h0, _⟩ | ⟨g, o, c, rfl, h1, h2⟩
  · omega
  · simp only [maxLen] at h2; omega
end Edge
end Go.Proofs.YtjpfmkfikidgkaaGreat

set_option linter.unusedVariables false
set_option linter.unusedSimpArgs false
namespace Go.Proofs.YtjpfmkfikidgkaaGreat
open Go.RowKit
namespace Edge
theorem eqEd (a b : Ed) (w : World) : (Op.equalIn 10000 146 (.agg #[.int .i64 a.1, .int .i64 a.2.1, .int .i64 a.2.2]) (.agg #[.int .i64 b.1, .int .i64 b.2.1, .int .i64 b.2.2])).run Tryz.prog w = .ok (decide (a = b)) w := by
  obtain ⟨a1, a2, a3⟩ := a
  obtain ⟨b1, b2, b3⟩ := b
  have u1 := Tryz.underlying3
  have u2 := Tryz.underlying2
  have g1 := Tryz.isAgg3
  have g2 := Tryz.isAgg2
  have z1 := Tryz.sizeOf3
  have z2 := Tryz.sizeOf2
  have hS : Tryz.prog.underlying 146 = some (.struct (Tryz.prog.fieldsOf 146)) := by kernel_rfl
  have hp : Tryz.prog.stoodInHeld 146 = false := by kernel_rfl
  rw [show (10000 : Nat) = 9999 + 1 from rfl, run_equalIn_agg w 9999 146 _ _ hS hp]
  simp only [Program.fieldsOf, Tryz.underlying146]
  go_simp
  by_cases h1 : a1 = b1 <;> by_cases h2 : a2 = b2 <;> by_cases h3 : a3 = b3 <;> simp [h1, h2, h3]
theorem guardEd : Tryz.prog.eqGuardType Tryz.prog.depth 146 = false := by kernel_rfl
set_option maxRecDepth 100000 in
set_option maxHeartbeats 2000000 in
theorem rsame_any {w : World} {va vb : Value} {xs ys : List Ed} (ha : Rd w 3 va xs.length (flat encEd xs)) (hb : Rd w 3 vb ys.length (flat encEd ys)) :
    Calls Tryz.prog 91 #[va, vb] w fun e w' => e = .returned (.bool (decide (xs = ys))) ∧ Mod [] w w' := by
  obtain ⟨a1, c1, rfl⟩ := ha.val
  obtain ⟨a2, c2, rfl⟩ := hb.val
  have hle := ha.le
  have ha' := Lib.hid ha
  have hb' := Lib.hid hb
  clear ha hb
  obtain ⟨n1, hn1⟩ : ∃ n, xs.length = n := ⟨_, rfl⟩
  obtain ⟨n2, hn2⟩ : ∃ n, ys.length = n := ⟨_, rfl⟩
  have hn1' := Lib.hid hn1
  have hn2' := Lib.hid hn2
  rw [hn1] at hle
  rw [hn1, hn2]
  clear hn1 hn2
  by_cases hlen : n1 = n2
  · have hd : ((n1 : Int) != (n2 : Int)) = false := by simp [hlen]
    subst hlen
    go_enter Tryz.func91, Tryz.ntmps91
    go_wp2_with fail
    go_loopw [5] (fun i wr => ∃ k : Nat, k ≤ n1 ∧ i = .int .i64 k ∧ Hid (Mod [] w wr) ∧ Hid (xs.take k = ys.take k)) (fun i _ => n1 - (intOf i).toNat)
    case atStart => exact ⟨0, Nat.zero_le _, rfl, Lib.hid (Mod.refl _ _), Lib.hid (by simp)⟩
    case round =>
      obtain ⟨k, hk, rfl, hmod, heq⟩ := hrel
      by_cases hlt : k < n1
      · have hlt1 : (k : Int) < n1 := by omega
        have hk1 : k < xs.length := by rw [hn1'.out]; exact hlt
        have hk2 : k < ys.length := by rw [hn2'.out]; exact hlt
        obtain ⟨g1, o1, rfl, hg1, hc1⟩ := ed_cells ha'.out hk1
        obtain ⟨g2, o2, rfl, hg2, hc2⟩ := ed_cells hb'.out hk2
        obtain ⟨q0, q1, q2⟩ := hc1 wr hmod.out
        obtain ⟨r0, r1, r2⟩ := hc2 wr hmod.out
        have hgl1 := Nat.lt_of_lt_of_le hg1 hmod.out.size
        have hgl2 := Nat.lt_of_lt_of_le hg2 hmod.out.size
        have hyes := Lib.hid (fun (h : xs[k] = ys[k]) => (show xs.take (k + 1) = ys.take (k + 1) by rw [List.take_succ_eq_append_getElem hk1, List.take_succ_eq_append_getElem hk2, heq.out, h]))
        have hno := Lib.hid (fun (h : xs[k] ≠ ys[k]) => (show decide (xs = ys) = false by
          rw [decide_eq_false_iff_not]; intro e; subst e; exact h rfl))
        generalize xs[k] = x at *
        generalize ys[k] = y at *
        obtain ⟨xu, xv, xw⟩ := x
        obtain ⟨yu, yv, yw⟩ := y
        simp only at q0 q1 q2 r0 r1 r2
        clear hc1 hc2 hg1 hg2 hk1 hk2
        by_cases hxy : ((xu, xv, xw) : Ed) = (yu, yv, yw)
        · have hy2 := Lib.hid (hyes.out hxy)
          have hgd := guardEd
          have t : ∀ w, _ = Result.ok _ w := fun w => eqEd (xu, xv, xw) (yu, yv, yw) w
          rw [show decide (((xu, xv, xw) : Ed) = (yu, yv, yw)) = true by rw [hxy]; simp] at t
          simp only at t
          clear hxy
          clear hyes hno
          go_wp2_with fail
          go_quiet (fail)
          go_wp2_with fail
          go_roundw
          case rel => exact ⟨k + 1, by omega, by go_num, Lib.hid (hmod.out.drewN _), hy2⟩
          case measure => simp [intOf]; omega
        · have hn := Lib.hid (hno.out hxy)
          have hgd := guardEd
          have t : ∀ w, _ = Result.ok _ w := fun w => eqEd (xu, xv, xw) (yu, yv, yw) w
          rw [show decide (((xu, xv, xw) : Ed) = (yu, yv, yw)) = false by simpa using hxy] at t
          simp only at t
          clear hxy
          clear hyes hno
          go_wp2_with fail
          go_quiet (fail)
          go_wp2_with fail
          go_ret
          rw [hn.out]
          exact ⟨rfl, hmod.out.drewN _⟩
      · obtain rfl : k = n1 := by omega
        have hy : decide (xs = ys) = true := by
          rw [decide_eq_true_eq]
          have := heq.out
          rw [List.take_of_length_le (by rw [hn1'.out]; exact Nat.le_refl _), List.take_of_length_le (by rw [hn2'.out]; exact Nat.le_refl _)] at this
          exact this
        have hy' := Lib.hid hy
        clear hy heq
        go_wp2_with fail
        go_ret
        rw [hy'.out]
        exact ⟨rfl, hmod.out⟩
  · have hd : ((n1 : Int) != (n2 : Int)) = true := by simp; omega
    have hno := Lib.hid (show decide (xs = ys) = false by
      rw [decide_eq_false_iff_not]; intro e; subst e; exact hlen (hn1'.out.symm.trans hn2'.out))
    clear hlen
    go_enter Tryz.func91, Tryz.ntmps91
    go_wp2_with fail
    go_ret
    rw [hno.out]
    exact ⟨rfl, Mod.refl _ _⟩
end Edge
end Go.Proofs.YtjpfmkfikidgkaaGreat

set_option linter.unusedVariables false
set_option linter.unusedSimpArgs false
namespace Go.Proofs.YtjpfmkfikidgkaaGreat
open Go.RowKit
namespace Edge
end Edge
end Go.Proofs.YtjpfmkfikidgkaaGreat

set_option linter.unusedVariables false
set_option linter.unusedSimpArgs false
namespace Go.Proofs.YtjpfmkfikidgkaaGreat
open Go.RowKit
namespace Edge
theorem n_nil (w : World) : Calls Tryz.prog 72 #[.pointer none] w fun e w' => e = .returned (.int .i64 0) ∧ w' = w := by
  go_enter Tryz.func72, Tryz.ntmps72
  go_wp2
  go_ret
  exact ⟨rfl, rfl⟩
theorem m_nil (w : World) : Calls Tryz.prog 73 #[.pointer none] w fun e w' => e = .returned (.int .i64 0) ∧ w' = w := by
  go_enter Tryz.func73, Tryz.ntmps73
  go_wp2
  go_ret
  exact ⟨rfl, rfl⟩
theorem edges_nil (w : World) : Calls Tryz.prog 92 #[.pointer none] w fun e w' => e = .returned (.slice none 0 0) ∧ w' = w := by
  go_enter Tryz.func92, Tryz.ntmps92
  go_wp2
  go_ret
  exact ⟨rfl, rfl⟩
theorem total_nil (w : World) : Calls Tryz.prog 95 #[.pointer none] w fun e w' => e = .returned (.int .i64 0) ∧ w' = w := by
  go_enter Tryz.func95, Tryz.ntmps95
  go_wp2
  go_ret
  exact ⟨rfl, rfl⟩
theorem weight_nil (u v : Int) (w : World) : Calls Tryz.prog 143 #[.pointer none, .int .i64 u, .int .i64 v] w fun e w' => e = .returned (.int .i64 0) ∧ w' = w := by
  go_enter Tryz.func143, Tryz.ntmps143
  go_wp2
  go_ret
  exact ⟨rfl, rfl⟩
theorem near_nil (w : World) : Calls Tryz.prog 141 #[.pointer none, .int .i64 0] w fun e w' => e = .returned (.slice none 0 0) ∧ w' = w := by
  go_enter Tryz.func141, Tryz.ntmps141
  go_wp2_with (go_at_call 72; refine (n_nil _).mono ?_; rintro e w1 ⟨rfl, rfl⟩)
  go_ret
  exact ⟨rfl, rfl⟩
theorem edge_nil (w : World) : Calls Tryz.prog 159 #[.pointer none, .int .i64 0] w fun e w' => e = .returned (.tuple #[.agg #[.int .i64 0, .int .i64 0, .int .i64 0], .bool false]) ∧ Mod [] w w' := by
  have hmod := Lib.hid ((Mod.refl [] w).alloc (.cells #[.int .i64 0, .int .i64 0, .int .i64 0] 146))
  go_enter Tryz.func159, Tryz.ntmps159
  go_wp2_with (go_at_call 73; refine (m_nil _).mono ?_; rintro e w1 ⟨rfl, rfl⟩)
  exact bodyPost_ret (v := .tuple #[.agg #[.int .i64 0, .int .i64 0, .int .i64 0], .bool false]) (by simp [results, Tryz.results159, go_sem]) rfl ⟨rfl, hmod.out⟩
end Edge
end Go.Proofs.YtjpfmkfikidgkaaGreat

set_option linter.unusedVariables false
set_option linter.unusedSimpArgs false
namespace Go.Proofs.YtjpfmkfikidgkaaGreat
open Go.RowKit
namespace Edge
theorem csr_net {w0 w : World} {b n : Nat} {L : List Ed} {R : List Part} (hS : Sep w0 w (NetP b n L :: R)) (hG : GOk n L) :
    Calls Tryz.prog 104 #[.pointer (some ⟨b, 0, none⟩)] w fun e w' => ∃ b2, e = .returned (.pointer (some ⟨b2, 0, none⟩)) ∧ Sep w0 w' (ArcP b2 n L :: NetP b n L :: R) := by
  refine (acsr_new hG (fun W m => n_sep (hS.still m)) (fun W m => edges_sep (hS.still m) hG.len)).mono ?_
  rintro e w' ⟨b2, rfl, hA⟩
  obtain ⟨F, hP, hF, _⟩ := hA.first
  exact ⟨b2, rfl, hS.add hA.mod hP (fun x hx => (hF x hx).2)⟩
theorem gok_none : GOk 0 [] := ⟨by omega, List.Pairwise.nil, by simp, by simp, by simp [total], by simp⟩
theorem csr_none (w : World) : Calls Tryz.prog 104 #[.pointer none] w fun e w' => ∃ b2, e = .returned (.pointer (some ⟨b2, 0, none⟩)) ∧ Sep w w' [ArcP b2 0 []] := by
  refine acsr_new gok_none (fun W m => (n_nil W).mono ?_) (fun W m => (edges_nil W).mono ?_)
  · rintro e w' ⟨rfl, rfl⟩; exact ⟨rfl, rfl⟩
  · rintro e w' ⟨rfl, rfl⟩; exact ⟨none, 0, rfl, World.ownsRow_nil _ _ _ _, Mod.refl _ _, by simp [Value.ownBlock]⟩
section
variable {w0 w : World} {b n : Nat} {L : List Ed} {R : List Part}
theorem an_sep (h : Sep w0 w (ArcP b n L :: R)) (hG : GOk n L) : Calls Tryz.prog 105 #[.pointer (some ⟨b, 0, none⟩)] w fun e w' => e = .returned (.int .i64 n) ∧ w' = w := by
  obtain ⟨F, h1, _⟩ := h.first
  exact an_p h1 hG
theorem alen_sep (h : Sep w0 w (ArcP b n L :: R)) : Calls Tryz.prog 24 #[.pointer (some ⟨b, 0, none⟩)] w fun e w' => e = .returned (.int .i64 ((2 * L.length : Nat) : Int)) ∧ w' = w := by
  obtain ⟨F, h1, _⟩ := h.first
  exact alen_p h1
theorem ahead_sep (h : Sep w0 w (ArcP b n L :: R)) (hG : GOk n L) (i : Int) : Calls Tryz.prog 39 #[.pointer (some ⟨b, 0, none⟩), .int .i64 i] w fun e w' => e = .returned (.int .i64 (headI L i)) ∧ w' = w := by
  obtain ⟨F, h1, _⟩ := h.first
  exact ahead_p h1 hG i
theorem acap_sep (h : Sep w0 w (ArcP b n L :: R)) (hG : GOk n L) (i : Int) : Calls Tryz.prog 106 #[.pointer (some ⟨b, 0, none⟩), .int .i64 i] w fun e w' => e = .returned (.int .i64 (capI L i)) ∧ w' = w := by
  obtain ⟨F, h1, _⟩ := h.first
  exact acap_p h1 hG i
theorem atail_sep (h : Sep w0 w (ArcP b n L :: R)) (hG : GOk n L) (i : Int) (hi : i ≤ 9223372036854775807) : Calls Tryz.prog 38 #[.pointer (some ⟨b, 0, none⟩), .int .i64 i] w fun e w' => e = .returned (.int .i64 (tailI L i)) ∧ w' = w := by
  obtain ⟨F, h1, _⟩ := h.first
  exact atail_p h1 hG i hi
theorem aout_sep (h : Sep w0 w (ArcP b n L :: R)) (hG : GOk n L) (v : Int) : Calls Tryz.prog 75 #[.pointer (some ⟨b, 0, none⟩), .int .i64 v] w fun e w' => ∃ a c, e = .returned (.slice a (outI n L v).length c) ∧ Made w w' 3 1 a (outI n L v).length c (i64s (outI n L v)) := by
  obtain ⟨F, h1, _⟩ := h.first
  exact aout_p h1 hG v
end
theorem merged19 : merged [(0, 1, 5)] = [(0, 1, 5)] := by decide +kernel
end Edge
end Go.Proofs.YtjpfmkfikidgkaaGreat

set_option linter.unusedVariables false
set_option linter.unusedSimpArgs false
namespace Go.Proofs.YtjpfmkfikidgkaaGreat
namespace Edge
/-- A flow of each edge, no more than it weighs, either way. -/
def FB : List Ed → List Int → Prop
  | [], [] => True
  | e :: l, x :: f => (-e.2.2 ≤ x ∧ x ≤ e.2.2) ∧ FB l f
  | _, _ => False
theorem FB.len : ∀ {L : List Ed} {f : List Int}, FB L f → f.length = L.length
  | [], [], _ => rfl
  | e :: l, x :: f, h => by simp [FB.len h.2]
theorem FB.get : ∀ {L : List Ed} {f : List Int}, FB L f → ∀ (k : Nat) (hk : k < L.length), -L[k].2.2 ≤ f.getD k 0 ∧ f.getD k 0 ≤ L[k].2.2
  | e :: l, x :: f, h, 0, _ => by simpa using h.1
  | e :: l, x :: f, h, k + 1, hk => by
    have := FB.get h.2 k (by simpa using hk)
    simpa using this
theorem FB.set : ∀ {L : List Ed} {f : List Int}, FB L f → ∀ (k : Nat) (hk : k < L.length) (y : Int), -L[k].2.2 ≤ y → y ≤ L[k].2.2 → FB L (f.set k y)
  | e :: l, x :: f, h, 0, _, y, h1, h2 => ⟨⟨by simpa using h1, by simpa using h2⟩, h.2⟩
  | e :: l, x :: f, h, k + 1, hk, y, h1, h2 => ⟨h.1, FB.set h.2 k (by simpa using hk) y (by simpa using h1) (by simpa using h2)⟩
theorem FB.none : ∀ {L : List Ed}, (∀ e ∈ L, 0 < e.2.2) → FB L (List.replicate L.length 0)
  | [], _ => trivial
  | e :: l, h => by
    have h1 := h e (by simp)
    refine ⟨⟨by omega, by omega⟩, FB.none (fun x hx => h x (by simp [hx]))⟩
/-- What an arc has left. -/
def leftE (L : List Ed) (f : List Int) (i : Nat) : Int := if i % 2 = 0 then capE L i - f.getD (i / 2) 0 else capE L i + f.getD (i / 2) 0
def leftL (L : List Ed) (f : List Int) : List Int := (List.range (2 * L.length)).map (leftE L f)
/-- What stays at a vertex. -/
def exc : List Ed → List Int → Int → Int
  | e :: l, x :: f, v => (if e.2.1 = v then x else 0) - (if e.1 = v then x else 0) + exc l f v
  | _, _, _ => 0
def overL (n : Nat) (L : List Ed) (f : List Int) : List Int := (List.range n).map fun (v : Nat) => exc L f (v : Int)
/-- x goes along the arc i. -/
def pushF (f : List Int) (i : Nat) (x : Int) : List Int := f.set (i / 2) (if i % 2 = 0 then f.getD (i / 2) 0 + x else f.getD (i / 2) 0 - x)
theorem leftL_len (L : List Ed) (f : List Int) : (leftL L f).length = 2 * L.length := by simp [leftL]
theorem leftL_get {L : List Ed} {f : List Int} {i : Nat} (h : i < 2 * L.length) : (leftL L f)[i]? = some (leftE L f i) := by
  unfold leftL
  rw [List.getElem?_map, List.getElem?_range h]; rfl
theorem overL_len (n : Nat) (L : List Ed) (f : List Int) : (overL n L f).length = n := by simp [overL]
theorem overL_get {n : Nat} {L : List Ed} {f : List Int} {v : Nat} (h : v < n) : (overL n L f)[v]? = some (exc L f (v : Int)) := by
  unfold overL
  rw [List.getElem?_map, List.getElem?_range h]; rfl
theorem capE_le {n : Nat} {L : List Ed} (hG : GOk n L) (i : Nat) : 0 ≤ capE L i ∧ capE L i ≤ 2251799813685248 := by
  by_cases h : i < 2 * L.length
  · rw [capE_get h]
    have h1 := hG.pos _ (List.getElem_mem (l := L) (n := i / 2) (by omega))
    have h2 : ∀ {M : List Ed}, (∀ e ∈ M, 0 < e.2.2) → ∀ e ∈ M, e.2.2 ≤ total M ∧ 0 ≤ total M := by
      intro M
      induction M with
      | nil => simp
      | cons a M ih =>
        intro hp e he
        have ha := hp a (by simp)
        have hM : 0 ≤ total M := by
          cases M with
          | nil => simp [total]
          | cons b M => exact (ih (fun x hx => hp x (by simp [hx])) b (by simp)).2
        simp only [total]
        rcases List.mem_cons.1 he with rfl | he
        · omega
        · have := ih (fun x hx => hp x (by simp [hx])) e he
          omega
    have h3 := (h2 hG.pos _ (List.getElem_mem (l := L) (n := i / 2) (by omega))).1
    have h4 := hG.tot
    omega
  · rw [capE_out h]; omega
theorem leftE_in {n : Nat} {L : List Ed} {f : List Int} (hG : GOk n L) (hF : FB L f) {i : Nat} (h : i < 2 * L.length) : 0 ≤ leftE L f i ∧ leftE L f i ≤ 4503599627370496 := by
  have h1 := hF.get (i / 2) (by omega)
  have h2 := capE_le hG i
  rw [capE_get h] at h2
  unfold leftE
  rw [capE_get h]
  split <;> omega
theorem leftE_even {L : List Ed} {f : List Int} {i : Nat} (h : i % 2 = 0) : leftE L f i = capE L i - f.getD (i / 2) 0 := by unfold leftE; rw [if_pos h]
theorem leftE_odd {L : List Ed} {f : List Int} {i : Nat} (h : ¬ i % 2 = 0) : leftE L f i = capE L i + f.getD (i / 2) 0 := by unfold leftE; rw [if_neg h]
theorem push_get {f : List Int} {i : Nat} (h : i / 2 < f.length) (x : Int) (k : Nat) : (pushF f i x).getD k 0 = if i / 2 = k then (if i % 2 = 0 then f.getD (i / 2) 0 + x else f.getD (i / 2) 0 - x) else f.getD k 0 := by
  unfold pushF
  simp only [List.getD_eq_getElem?_getD, List.getElem?_set]
  by_cases c : i / 2 = k
  · subst c
    simp [h]
  · simp [c]
theorem leftE_push {L : List Ed} {f : List Int} (hl : f.length = L.length) {i : Nat} (h : i < 2 * L.length) (x : Int) (j : Nat) : leftE L (pushF f i x) j = if j = i then leftE L f i - x else if j = back i then leftE L f (back i) + x else leftE L f j := by
  have hb := back_half i
  have hg := push_get (f := f) (i := i) (by omega) x
  by_cases c1 : j = i
  · subst c1
    rw [if_pos rfl]
    by_cases c : j % 2 = 0
    · rw [leftE_even c, leftE_even c, hg, if_pos rfl, if_pos c]; omega
    · rw [leftE_odd c, leftE_odd c, hg, if_pos rfl, if_neg c]; omega
  · rw [if_neg c1]
    by_cases c2 : j = back i
    · subst c2
      rw [if_pos rfl]
      by_cases c : i % 2 = 0
      · have cb : ¬ back i % 2 = 0 := by unfold back; rw [if_pos c]; omega
        rw [leftE_odd cb, leftE_odd cb, hg, hb, if_pos rfl, if_pos c]; omega
      · have cb : back i % 2 = 0 := by unfold back; rw [if_neg c]; omega
        rw [leftE_even cb, leftE_even cb, hg, hb, if_pos rfl, if_neg c]; omega
    · rw [if_neg c2]
      have hn : ¬ i / 2 = j / 2 := by
        intro e
        unfold back at c2
        split at c2 <;> omega
      by_cases c : j % 2 = 0
      · rw [leftE_even c, leftE_even c, hg, if_neg hn]
      · rw [leftE_odd c, leftE_odd c, hg, if_neg hn]
theorem leftL_push {L : List Ed} {f : List Int} (hl : f.length = L.length) {i : Nat} (h : i < 2 * L.length) (x : Int) : ((leftL L f).set i (leftE L f i - x)).set (back i) (leftE L f (back i) + x) = leftL L (pushF f i x) := by
  have hne : back i ≠ i := by unfold back; split <;> omega
  apply List.ext_getElem?
  intro j
  by_cases hj : j < 2 * L.length
  · rw [leftL_get hj, leftE_push hl h, List.getElem?_set, List.getElem?_set]
    simp only [List.length_set, leftL_len]
    by_cases c1 : j = i
    · subst c1
      rw [if_pos rfl, if_neg hne, if_pos rfl, if_pos hj]
    · rw [if_neg c1]
      by_cases c2 : j = back i
      · subst c2
        rw [if_pos rfl, if_pos rfl, if_pos hj]
      · rw [if_neg c2, if_neg (fun e => c2 e.symm), if_neg (fun e => c1 e.symm), leftL_get hj]
  · rw [List.getElem?_eq_none (by simp only [List.length_set, leftL_len]; omega), List.getElem?_eq_none (by rw [leftL_len]; omega)]
theorem FB.push {L : List Ed} {f : List Int} (hF : FB L f) {i : Nat} (h : i < 2 * L.length) {x : Int} (h0 : 0 ≤ x) (h1 : x ≤ leftE L f i) : FB L (pushF f i x) := by
  have hb := hF.get (i / 2) (by omega)
  unfold leftE at h1
  rw [capE_get h] at h1
  unfold pushF
  refine hF.set (i / 2) (by omega) _ ?_ ?_
  · split at h1 <;> simp_all <;> omega
  · split at h1 <;> simp_all <;> omega
theorem exc_set : ∀ {L : List Ed} {f : List Int} (k : Nat) (hk : k < L.length) (hl : f.length = L.length) (y v : Int), exc L (f.set k y) v = exc L f v + (if L[k].2.1 = v then y - f.getD k 0 else 0) - (if L[k].1 = v then y - f.getD k 0 else 0)
  | e :: l, x :: f, 0, _, _, y, v => by
    simp only [List.set_cons_zero, exc, List.getElem_cons_zero, List.getD_cons_zero]
    by_cases c1 : e.2.1 = v <;> by_cases c2 : e.1 = v <;> simp only [c1, c2, if_true, if_false] <;> omega
  | e :: l, x :: f, k + 1, hk, hl, y, v => by
    have := exc_set (L := l) (f := f) k (by simpa using hk) (by simpa using hl) y v
    simp only [List.set_cons_succ, exc, List.getElem_cons_succ, List.getD_cons_succ]
    rw [this]; omega
theorem exc_push {L : List Ed} {f : List Int} (hl : f.length = L.length) {i : Nat} (h : i < 2 * L.length) (x v : Int) : exc L (pushF f i x) v = exc L f v + (if headE L i = v then x else 0) - (if tailE L i = v then x else 0) := by
  unfold pushF
  rw [exc_set (i / 2) (by omega) hl, headE_get h, tailE_get h]
  by_cases c : i % 2 = 0
  · simp only [c, if_true, show f.getD (i / 2) 0 + x - f.getD (i / 2) 0 = x by omega]
  · simp only [c, if_false, show f.getD (i / 2) 0 - x - f.getD (i / 2) 0 = -x by omega]
    by_cases c1 : (L[i / 2]'(by omega)).2.1 = v <;> by_cases c2 : (L[i / 2]'(by omega)).1 = v <;> simp only [c1, c2, if_true, if_false] <;> omega
theorem tail_ne_head {n : Nat} {L : List Ed} (hG : GOk n L) {i : Nat} (h : i < 2 * L.length) : tailE L i ≠ headE L i := by
  have := hG.ends _ (List.getElem_mem (l := L) (n := i / 2) (by omega))
  rw [tailE_get h, headE_get h]
  split <;> omega
theorem overL_push {n : Nat} {L : List Ed} {f : List Int} (hG : GOk n L) (hl : f.length = L.length) {i t hd : Nat} (h : i < 2 * L.length) (ht : tailE L i = (t : Int)) (hh : headE L i = (hd : Int)) (x : Int) : ((overL n L f).set t (exc L f (t : Int) - x)).set hd (exc L f (hd : Int) + x) = overL n L (pushF f i x) := by
  have hne := tail_ne_head hG h
  rw [ht, hh] at hne
  apply List.ext_getElem?
  intro v
  by_cases hv : v < n
  · rw [overL_get hv, exc_push hl h, ht, hh, List.getElem?_set, List.getElem?_set]
    simp only [List.length_set, overL_len]
    by_cases c1 : v = hd
    · subst c1
      rw [if_pos rfl, if_pos hv, if_pos rfl, if_neg hne]; congr 1; omega
    · rw [if_neg (fun e => c1 e.symm)]
      by_cases c2 : v = t
      · subst c2
        rw [if_pos rfl, if_pos hv, if_neg (fun e => hne e.symm), if_pos rfl]; congr 1; omega
      · rw [if_neg (fun e => c2 e.symm), overL_get hv, if_neg (by omega), if_neg (by omega)]; congr 1; omega
  · rw [List.getElem?_eq_none (by simp only [List.length_set, overL_len]; omega), List.getElem?_eq_none (by rw [overL_len]; omega)]
theorem exc_in : ∀ {L : List Ed} {f : List Int}, FB L f → (∀ e ∈ L, e.1 ≠ e.2.1) → ∀ v : Int, -total L ≤ exc L f v ∧ exc L f v ≤ total L
  | [], [], _, _, _ => by simp [exc, total]
  | e :: l, x :: f, h, hne, v => by
    have h1 := exc_in h.2 (fun y hy => hne y (by simp [hy])) v
    have h2 := hne e (by simp)
    have h3 := h.1
    simp only [exc, total]
    by_cases c1 : e.2.1 = v <;> by_cases c2 : e.1 = v <;> simp only [c1, c2, if_true, if_false] <;> omega
theorem exc_out : ∀ {L : List Ed} {f : List Int} {v : Int}, (∀ e ∈ L, e.1 ≠ v ∧ e.2.1 ≠ v) → exc L f v = 0
  | [], _, _, _ => by simp [exc]
  | e :: l, [], _, _ => by simp [exc]
  | e :: l, x :: f, v, h => by
    have h1 := h e (by simp)
    have h2 := exc_out (L := l) (f := f) (v := v) (fun y hy => h y (by simp [hy]))
    simp only [exc, if_neg h1.1, if_neg h1.2, h2]; omega
/-- All that stays at the first k vertices. -/
def cutS : List Ed → List Int → Int → Int
  | e :: l, x :: f, k => (if e.2.1 < k then x else 0) - (if e.1 < k then x else 0) + cutS l f k
  | _, _, _ => 0
theorem step_if (u k x : Int) : (if u < k then x else 0) + (if u = k then x else 0) = if u < k + 1 then x else 0 := by
  by_cases h1 : u < k
  · rw [if_pos h1, if_neg (by omega), if_pos (by omega)]; omega
  · rw [if_neg h1]
    by_cases h2 : u = k
    · rw [if_pos h2, if_pos (by omega)]; omega
    · rw [if_neg h2, if_neg (by omega)]; omega
theorem sum_exc : ∀ {L : List Ed} {f : List Int}, f.length = L.length → (∀ e ∈ L, 0 ≤ e.1 ∧ 0 ≤ e.2.1) → ∀ k : Nat, sumTo (exc L f) k = cutS L f (k : Int) := by
  intro L f hl hp k
  induction k with
  | zero =>
    have : ∀ {L : List Ed} {f : List Int}, (∀ e ∈ L, 0 ≤ e.1 ∧ 0 ≤ e.2.1) → cutS L f 0 = 0 := by
      intro L
      induction L with
      | nil => intro f _; simp [cutS]
      | cons e l ih =>
        intro f h
        cases f with
        | nil => simp [cutS]
        | cons x f =>
          have h1 := h e (by simp)
          simp only [cutS, if_neg (show ¬ e.2.1 < 0 by omega), if_neg (show ¬ e.1 < 0 by omega), ih (fun y hy => h y (by simp [hy]))]; omega
    exact (this hp).symm
  | succ k ih =>
    have hs : sumTo (exc L f) (k + 1) = sumTo (exc L f) k + exc L f (k : Int) := rfl
    rw [hs, ih]
    have : ∀ {L : List Ed} {f : List Int}, cutS L f (k : Int) + exc L f (k : Int) = cutS L f ((k + 1 : Nat) : Int) := by
      intro L
      induction L with
      | nil => intro f; simp [cutS, exc]
      | cons e l ih =>
        intro f
        cases f with
        | nil => simp [cutS, exc]
        | cons x f =>
          have h0 := ih (f := f)
          have a := step_if e.2.1 (k : Int) x
          have b := step_if e.1 (k : Int) x
          rw [Int.natCast_add, Int.natCast_one] at h0 ⊢
          simp only [cutS, exc]
          omega
    exact this
theorem cut_in : ∀ {L : List Ed} {f : List Int}, FB L f → ∀ k : Int, -total L ≤ cutS L f k ∧ cutS L f k ≤ total L
  | [], [], _, _ => by simp [cutS, total]
  | e :: l, x :: f, h, k => by
    have h1 := cut_in h.2 k
    have h3 := h.1
    simp only [cutS, total]
    by_cases c1 : e.2.1 < k <;> by_cases c2 : e.1 < k <;> simp only [c1, c2, if_true, if_false] <;> omega
theorem cut_all : ∀ {L : List Ed} {f : List Int} {n : Int}, (∀ e ∈ L, e.1 < n ∧ e.2.1 < n) → cutS L f n = 0
  | [], _, _, _ => by simp [cutS]
  | e :: l, [], _, _ => by simp [cutS]
  | e :: l, x :: f, n, h => by
    have h1 := h e (by simp)
    have h2 := cut_all (L := l) (f := f) (n := n) (fun y hy => h y (List.mem_cons_of_mem _ hy))
    simp only [cutS, if_pos h1.1, if_pos h1.2, h2]; omega
/-- Ahead of all pushes. -/
def noF (L : List Ed) : List Int := List.replicate L.length 0
theorem leftE_new (L : List Ed) (i : Nat) : leftE L (noF L) i = capE L i := by
  have : (noF L).getD (i / 2) 0 = 0 := by
    unfold noF
    rw [List.getD_eq_getElem?_getD, List.getElem?_replicate]
    split <;> rfl
  unfold leftE
  rw [this]
  split <;> omega
theorem exc_new : ∀ (L : List Ed) (k : Nat) (v : Int), exc L (List.replicate k 0) v = 0
  | [], _, _ => by simp [exc]
  | e :: l, 0, _ => by simp [exc]
  | e :: l, k + 1, v => by
    simp only [List.replicate_succ, exc, exc_new l k v]
    by_cases c1 : e.2.1 = v <;> by_cases c2 : e.1 = v <;> simp [c1, c2]
theorem overL_new (n : Nat) (L : List Ed) : overL n L (noF L) = List.replicate n 0 := by
  apply List.eq_replicate_iff.2 ⟨overL_len _ _ _, ?_⟩
  intro x hx
  simp only [overL, List.mem_map] at hx
  obtain ⟨v, _, rfl⟩ := hx
  exact exc_new L _ _
/-- The row of what is left, while it is being made. -/
def capL (L : List Ed) (k : Nat) : List Int := (List.range (2 * L.length)).map fun j => if j < k then capE L j else 0
theorem capL_zero (L : List Ed) : capL L 0 = List.replicate (2 * L.length) 0 := by
  apply List.eq_replicate_iff.2 ⟨by simp [capL], ?_⟩
  intro x hx
  simp only [capL, List.mem_map] at hx
  obtain ⟨v, _, rfl⟩ := hx
  rw [if_neg (by omega)]
theorem capL_len (L : List Ed) (k : Nat) : (capL L k).length = 2 * L.length := by simp [capL]
theorem capL_step {L : List Ed} {k : Nat} (hk : k < 2 * L.length) : (capL L k).set k (capE L k) = capL L (k + 1) := by
  apply List.ext_getElem
  · simp [capL]
  intro i g1 g2
  simp only [capL, List.getElem_set, List.getElem_map, List.getElem_range]
  by_cases c : k = i
  · subst c; rw [if_pos rfl, if_pos (by omega)]
  · rw [if_neg c]
    by_cases h : i < k
    · rw [if_pos h, if_pos (by omega)]
    · rw [if_neg h, if_neg (by omega)]
theorem capL_all (L : List Ed) : capL L (2 * L.length) = leftL L (noF L) := by
  unfold capL leftL
  apply List.map_congr_left
  intro i hi
  rw [List.mem_range] at hi
  rw [if_pos hi, leftE_new]
/-! By any numbers. -/
def leftI (L : List Ed) (f : List Int) (i : Int) : Int := if 0 ≤ i ∧ i < 2 * L.length then leftE L f i.toNat else 0
def flowI (L : List Ed) (f : List Int) (e : Int) : Int := if 0 ≤ e ∧ e < L.length then f.getD e.toNat 0 else 0
def mayP (L : List Ed) (f : List Int) (i x : Int) : Bool := decide ((0 ≤ i ∧ i < 2 * L.length) ∧ 0 ≤ x ∧ x ≤ leftE L f i.toNat)
def pushI (L : List Ed) (f : List Int) (i x : Int) : List Int := if mayP L f i x = true then pushF f i.toNat x else f
theorem FB.pushI {L : List Ed} {f : List Int} (hF : FB L f) (i x : Int) : FB L (pushI L f i x) := by
  unfold Edge.pushI
  by_cases h : mayP L f i x = true
  · rw [if_pos h]
    unfold mayP at h
    simp only [decide_eq_true_eq] at h
    exact hF.push (by omega) h.2.1 h.2.2
  · rw [if_neg h]; exact hF
theorem exc_I {n : Nat} {L : List Ed} {f : List Int} (hG : GOk n L) {v : Int} (h : v < 0 ∨ (n : Int) ≤ v) : exc L f v = 0 :=
  exc_out (fun e he => by have := hG.ends e he; omega)
end Edge
end Go.Proofs.YtjpfmkfikidgkaaGreat

set_option linter.unusedVariables false
set_option linter.unusedSimpArgs false
namespace Go.Proofs.YtjpfmkfikidgkaaGreat
open Go.RowKit
namespace Edge
/-- What is left of the arcs ba. -/
def RestP (r ba n : Nat) (L : List Ed) (f : List Int) : Part := fun w F => ∃ gl go : Nat, Parts w
  [Blk r [.pointer (some ⟨ba, 0, none⟩), .slice (some ⟨gl, 0, none⟩) (2 * L.length) (2 * L.length), .slice (some ⟨go, 0, none⟩) n n] 174,
   Row 2 1 (2 * L.length) (.slice (some ⟨gl, 0, none⟩) (2 * L.length) (2 * L.length)) (i64s (leftL L f)),
   Row 2 1 n (.slice (some ⟨go, 0, none⟩) n n) (i64s (overL n L f))] F
instance (r ba n : Nat) (L : List Ed) (f : List Int) : Good (RestP r ba n L f) where
  lt h := by obtain ⟨_, _, h⟩ := h; exact h.lt
  keep h m hd := by obtain ⟨gl, go, h⟩ := h; exact ⟨gl, go, h.keep m hd⟩
structure RestRd (w : World) (r ba n : Nat) (L : List Ed) (f : List Int) (gl go : Nat) : Prop where
  hb : Has w r [.pointer (some ⟨ba, 0, none⟩), .slice (some ⟨gl, 0, none⟩) (2 * L.length) (2 * L.length), .slice (some ⟨go, 0, none⟩) n n] 174
  left : w.ownsRow 0 2 1 (.slice (some ⟨gl, 0, none⟩) (2 * L.length) (2 * L.length)) (2 * L.length) (i64s (leftL L f))
  over : w.ownsRow 0 2 1 (.slice (some ⟨go, 0, none⟩) n n) n (i64s (overL n L f))
theorem RestP.rd {w : World} {r ba n : Nat} {L : List Ed} {f : List Int} {F : List Nat} (h : RestP r ba n L f w F) : ∃ gl go, RestRd w r ba n L f gl go := by
  obtain ⟨gl, go, h⟩ := h
  obtain ⟨_, ⟨k0, _⟩, _⟩ := parts_at h 0 _ rfl
  obtain ⟨_, ⟨k1, _⟩, _⟩ := parts_at h 1 _ rfl
  obtain ⟨_, ⟨k2, _⟩, _⟩ := parts_at h 2 _ rfl
  exact ⟨gl, go, k0, k1, k2⟩
/-- The parts of what is left, side by side with others. -/
theorem Sep.rest {w0 w : World} {r ba n : Nat} {L : List Ed} {f : List Int} {R : List Part} (h : Sep w0 w (RestP r ba n L f :: R)) : ∃ gl go : Nat, Sep w0 w
  (Blk r [.pointer (some ⟨ba, 0, none⟩), .slice (some ⟨gl, 0, none⟩) (2 * L.length) (2 * L.length), .slice (some ⟨go, 0, none⟩) n n] 174 ::
   Row 2 1 (2 * L.length) (.slice (some ⟨gl, 0, none⟩) (2 * L.length) (2 * L.length)) (i64s (leftL L f)) ::
   Row 2 1 n (.slice (some ⟨go, 0, none⟩) n n) (i64s (overL n L f)) :: R) := by
  obtain ⟨F, h1, h2, h3⟩ := h.out
  obtain ⟨_, F1, F2, rfl, ⟨gl, go, k⟩, k2, k3⟩ := h1
  obtain ⟨g0, A, B, rfl, a1, ⟨g1, C, D, rfl, c1, ⟨g2, E, G, rfl, e1, rfl, e3⟩, c3⟩, a3⟩ := k
  refine ⟨gl, go, A ++ (C ++ (E ++ F2)), ⟨g0, A, _, rfl, a1, ⟨g1, C, _, rfl, c1, ⟨g2, E, _, rfl, e1, k2, ?_⟩, ?_⟩, ?_⟩, h2, ?_⟩
  · intro b hb hb2; exact k3 b (by simp [hb]) hb2
  · intro b hb hb2
    rcases List.mem_append.1 hb2 with hb2 | hb2
    · exact c3 b hb (by simp [hb2])
    · exact k3 b (by simp [hb]) hb2
  · intro b hb hb2
    rcases List.mem_append.1 hb2 with hb2 | hb2
    · exact a3 b hb (by simp [hb2])
    rcases List.mem_append.1 hb2 with hb2 | hb2
    · exact a3 b hb (by simp [hb2])
    · exact k3 b (by simp [hb]) hb2
  · intro b hb
    refine h3 b ?_
    simp only [List.mem_append] at hb ⊢
    rcases hb with hb | hb | hb | hb <;> simp [hb]
theorem Sep.mkRest {w0 w : World} {r ba n : Nat} {L : List Ed} {f : List Int} {R : List Part} {gl go : Nat} (h : Sep w0 w
  (Blk r [.pointer (some ⟨ba, 0, none⟩), .slice (some ⟨gl, 0, none⟩) (2 * L.length) (2 * L.length), .slice (some ⟨go, 0, none⟩) n n] 174 ::
   Row 2 1 (2 * L.length) (.slice (some ⟨gl, 0, none⟩) (2 * L.length) (2 * L.length)) (i64s (leftL L f)) ::
   Row 2 1 n (.slice (some ⟨go, 0, none⟩) n n) (i64s (overL n L f)) :: R)) : Sep w0 w (RestP r ba n L f :: R) := by
  obtain ⟨F, h1, h2, h3⟩ := h.out
  obtain ⟨g0, A, B, rfl, a1, ⟨g1, C, D, rfl, c1, ⟨g2, E, G, rfl, e1, k2, e3⟩, c3⟩, a3⟩ := h1
  refine ⟨(A ++ (C ++ (E ++ []))) ++ G, ⟨inferInstance, _, G, rfl, ⟨gl, go, ⟨g0, A, _, rfl, a1, ⟨g1, C, _, rfl, c1, ⟨g2, E, _, rfl, e1, rfl, by simp⟩, ?_⟩, ?_⟩⟩, k2, ?_⟩, h2, ?_⟩
  · intro b hb hb2
    simp only [List.append_nil] at hb2
    exact c3 b hb (by simp [hb2])
  · intro b hb hb2
    simp only [List.append_nil, List.mem_append] at hb2
    exact a3 b hb (by rcases hb2 with hb2 | hb2 <;> simp [hb2])
  · intro b hb hb2
    simp only [List.append_nil, List.mem_append] at hb
    rcases hb with hb | hb | hb
    · exact a3 b hb (by simp [hb2])
    · exact c3 b hb (by simp [hb2])
    · exact e3 b hb hb2
  · intro b hb
    refine h3 b ?_
    simp only [List.append_nil, List.mem_append] at hb ⊢
    rcases hb with (hb | hb | hb) | hb <;> simp [hb]
section
variable {w : World} {r ba n : Nat} {L : List Ed} {f : List Int} {F F2 : List Nat}
theorem rarcs_p (h : RestP r ba n L f w F) : Calls Tryz.prog 23 #[.pointer (some ⟨r, 0, none⟩)] w fun e w' => e = .returned (.pointer (some ⟨ba, 0, none⟩)) ∧ w' = w := by
  obtain ⟨gl, go, hr⟩ := h.rd
  have b0 := hr.hb.cell 0 rfl
  have bl := hr.hb.lt
  clear h hr
  go_enter Tryz.func23, Tryz.ntmps23
  go_wp2
  go_ret
  exact ⟨rfl, rfl⟩
theorem rleft_p (h : RestP r ba n L f w F) (hA : ArcP ba n L w F2) (hG : GOk n L) (i : Int) : Calls Tryz.prog 40 #[.pointer (some ⟨r, 0, none⟩), .int .i64 i] w fun e w' => e = .returned (.int .i64 (leftI L f i)) ∧ w' = w := by
  have ca := Lib.hid (rarcs_p h)
  have cl := Lib.hid (alen_p hA)
  have hl := hG.len
  obtain ⟨gl, go, hr⟩ := h.rd
  have b1 := hr.hb.cell 1 rfl
  have bl := hr.hb.lt
  by_cases h0 : i < 0
  · have e : leftI L f i = 0 := by unfold leftI; rw [if_neg (by omega)]
    rw [e]
    clear e hr h hA hG
    go_enter Tryz.func40, Tryz.ntmps40
    go_wp2_with fail
    go_ret
    exact ⟨rfl, rfl⟩
  obtain ⟨k, rfl⟩ := Int.eq_ofNat_of_zero_le (show 0 ≤ i by omega)
  obtain ⟨m, hm⟩ : ∃ m, 2 * L.length = m := ⟨_, rfl⟩
  by_cases h1 : k < m
  · have e : leftI L f (k : Int) = leftE L f k := by unfold leftI; rw [if_pos (by omega), Int.toNat_natCast]
    rw [e]
    have c0 : w.cell? ⟨gl, k, none⟩ = some (.int .i64 (leftE L f k)) := by
      have := hr.left.cellAt k (by omega)
      rw [i64s_got (leftL_get (by omega))] at this
      exact this
    have gll := own_lt hr.left (g := gl) rfl
    rw [hm] at cl b1
    have hk1 : (k : Int) < m := by omega
    generalize leftE L f k = z at *
    clear e hr h hA hG hm
    go_enter Tryz.func40, Tryz.ntmps40
    go_wp2_with (first
      | (go_at_call 23; refine ca.out.mono ?_; rintro e w1 ⟨rfl, hw1⟩; subst w1)
      | (go_at_call 24; refine cl.out.mono ?_; rintro e w1 ⟨rfl, hw1⟩; subst w1))
    go_ret
    exact ⟨rfl, rfl⟩
  · have e : leftI L f (k : Int) = 0 := by unfold leftI; rw [if_neg (by omega)]
    rw [e]
    rw [hm] at cl b1
    have hk1 : ¬ (k : Int) < m := by omega
    have t1 : decide ((m : Int) ≤ (k : Int)) = true := by simp; omega
    clear e hr h hA hG hm
    go_enter Tryz.func40, Tryz.ntmps40
    go_wp2_with (first
      | (go_at_call 23; refine ca.out.mono ?_; rintro e w1 ⟨rfl, hw1⟩; subst w1)
      | (go_at_call 24; refine cl.out.mono ?_; rintro e w1 ⟨rfl, hw1⟩; subst w1))
    go_ret
    exact ⟨rfl, rfl⟩
theorem rexc_p (h : RestP r ba n L f w F) (hA : ArcP ba n L w F2) (hG : GOk n L) (v : Int) : Calls Tryz.prog 74 #[.pointer (some ⟨r, 0, none⟩), .int .i64 v] w fun e w' => e = .returned (.int .i64 (exc L f v)) ∧ w' = w := by
  have ca := Lib.hid (rarcs_p h)
  have cn := Lib.hid (an_p hA hG)
  have hl := hG.le
  obtain ⟨gl, go, hr⟩ := h.rd
  have b2 := hr.hb.cell 2 rfl
  have bl := hr.hb.lt
  by_cases h0 : v < 0
  · rw [exc_I hG (.inl h0)]
    clear hr h hA hG
    go_enter Tryz.func74, Tryz.ntmps74
    go_wp2_with fail
    go_ret
    exact ⟨rfl, rfl⟩
  obtain ⟨k, rfl⟩ := Int.eq_ofNat_of_zero_le (show 0 ≤ v by omega)
  by_cases h1 : k < n
  · have c0 : w.cell? ⟨go, k, none⟩ = some (.int .i64 (exc L f (k : Int))) := by
      have := hr.over.cellAt k (by omega)
      rw [i64s_got (overL_get h1)] at this
      exact this
    have gll := own_lt hr.over (g := go) rfl
    have hk1 : (k : Int) < n := by omega
    generalize exc L f (k : Int) = z at *
    clear hr h hA hG
    go_enter Tryz.func74, Tryz.ntmps74
    go_wp2_with (first
      | (go_at_call 23; refine ca.out.mono ?_; rintro e w1 ⟨rfl, hw1⟩; subst w1)
      | (go_at_call 105; refine cn.out.mono ?_; rintro e w1 ⟨rfl, hw1⟩; subst w1))
    go_ret
    exact ⟨rfl, rfl⟩
  · rw [exc_I hG (.inr (by omega))]
    have hk1 : ¬ (k : Int) < n := by omega
    have t1 : decide ((n : Int) ≤ (k : Int)) = true := by simp; omega
    clear hr h hA hG
    go_enter Tryz.func74, Tryz.ntmps74
    go_wp2_with (first
      | (go_at_call 23; refine ca.out.mono ?_; rintro e w1 ⟨rfl, hw1⟩; subst w1)
      | (go_at_call 105; refine cn.out.mono ?_; rintro e w1 ⟨rfl, hw1⟩; subst w1))
    go_ret
    exact ⟨rfl, rfl⟩
set_option maxHeartbeats 2000000 in
theorem rflow_p (h : RestP r ba n L f w F) (hA : ArcP ba n L w F2) (hG : GOk n L) (hF : FB L f) (i : Int) : Calls Tryz.prog 99 #[.pointer (some ⟨r, 0, none⟩), .int .i64 i] w fun e w' => e = .returned (.int .i64 (flowI L f i)) ∧ Mod [] w w' := by
  have ca := Lib.hid (rarcs_p h)
  have hl := hG.len
  obtain ⟨gl, go, hr⟩ := h.rd
  obtain ⟨N, hN⟩ : ∃ N, L.length = N := ⟨_, rfl⟩
  have cl := alen_p hA
  rw [show ((2 * L.length : Nat) : Int) = 2 * (N : Int) by omega] at cl
  have cl' := Lib.hid cl
  by_cases h0 : i < 0
  · have e : flowI L f i = 0 := by unfold flowI; rw [if_neg (by omega)]
    rw [e]
    clear e hr h hA hG hF cl
    go_enter Tryz.func99, Tryz.ntmps99
    go_wp2_with fail
    go_ret
    exact ⟨rfl, Mod.refl _ _⟩
  obtain ⟨k, rfl⟩ := Int.eq_ofNat_of_zero_le (show 0 ≤ i by omega)
  have td : (2 * (N : Int)) / 2 = (N : Int) := by omega
  by_cases h1 : k < N
  · have e : flowI L f (k : Int) = f.getD k 0 := by unfold flowI; rw [if_pos (by omega), Int.toNat_natCast]
    rw [e]
    have b0 := hr.hb.cell 0 rfl
    have b1 := hr.hb.cell 1 rfl
    have bl := hr.hb.lt
    have c0 : w.cell? ⟨gl, 2 * k, none⟩ = some (.int .i64 (leftE L f (2 * k))) := by
      have := hr.left.cellAt (2 * k) (by omega)
      rw [i64s_got (leftL_get (by omega))] at this
      exact this
    have gll := own_lt hr.left (g := gl) rfl
    have hz := leftE_in hG hF (i := 2 * k) (by omega)
    have hc := capE_le hG (2 * k)
    have hcap := Lib.hid (fun W (m : Mod [] w W) => acap_p (Good.keep hA m (by simp)) hG (2 * (k : Int)))
    have ec : capI L (2 * (k : Int)) = capE L (2 * k) := by unfold capI; rw [if_neg (by omega)]; congr 1
    rw [ec] at hcap
    have ef : f.getD k 0 = capE L (2 * k) - leftE L f (2 * k) := by
      rw [leftE_even (by omega), show 2 * k / 2 = k by omega]; omega
    rw [ef]
    have hk1 : (k : Int) < N := by omega
    have hk2 : 2 * (k : Int) < 2 * (L.length : Int) := by omega
    have hk3 : 2 * k < 2 * L.length := by omega
    have b0' : ∀ m : Fut (Mod []) w.drew, m.v.cell? ⟨r, 0, none⟩ = some (.pointer (some ⟨ba, 0, none⟩)) := fun m => (hr.hb.keep ((Mod.refl [] w).drew.trans m.of (by simp)) (by simp)).cell 0 rfl
    have b1' : ∀ m : Fut (Mod []) w.drew, m.v.cell? ⟨r, 1, none⟩ = some (.slice (some ⟨gl, 0, none⟩) (2 * L.length) (2 * L.length)) := fun m => (hr.hb.keep ((Mod.refl [] w).drew.trans m.of (by simp)) (by simp)).cell 1 rfl
    have c0' : ∀ m : Fut (Mod []) w.drew, m.v.cell? ⟨gl, 2 * k, none⟩ = some (.int .i64 (leftE L f (2 * k))) := fun m => by
      have := (own_keep hr.left ((Mod.refl [] w).drew.trans m.of (by simp)) (by simp)).cellAt (2 * k) (by omega)
      rw [i64s_got (leftL_get (by omega))] at this
      exact this
    generalize leftE L f (2 * k) = z at *
    generalize capE L (2 * k) = c at *
    clear e hr h hA hG hF cl ec ef h1
    go_enter Tryz.func99, Tryz.ntmps99
    go_upto_region 3 with (first
      | (go_at_call 23; refine ca.out.mono ?_; rintro e w1 ⟨rfl, hw1⟩; subst w1)
      | (go_at_call 24; refine cl'.out.mono ?_; rintro e w1 ⟨rfl, hw1⟩; subst w1))
    refine region_sched (G := Mod []) [([0,1,2,3,4,5,7,8,9,10,11,12,13,14],6)] [15,16] (by kernel_rfl) (by kernel_rfl) (by kernel_rfl) rfl (Mod.refl _) (fun _ _ _ h1 h2 => h1.trans h2 (by simp)) ?_
    simp only [stages, pickO, nthO, headO, List.append_eq, List.cons_append, List.nil_append]
    refine sched_step ?_
    repeat (go_big_quiet_step (fail))
    refine wpQuiet_nil ?_
    intro K hK
    rw [if_pos (by rfl)]
    go_simp
    refine (hcap.out _ (Mod.refl [] w).drew).mono ?_
    rintro e w2 ⟨rfl, hw2⟩
    subst w2
    try dsimp only
    refine hK.out _ _ (Mod.refl _ _) ?_
    clear hK K
    refine sched_last ?_
    repeat (go_big_quiet_step (fail))
    refine wpQuiet_nil ?_
    go_wp2_with fail
    go_ret
    exact ⟨rfl, (Mod.refl [] w).drew⟩
  · have e : flowI L f (k : Int) = 0 := by unfold flowI; rw [if_neg (by omega)]
    rw [e]
    have hk1 : ¬ (k : Int) < N := by omega
    have t1 : decide ((N : Int) ≤ (k : Int)) = true := by simp; omega
    clear e hr h hA hG hF cl h1
    go_enter Tryz.func99, Tryz.ntmps99
    go_wp2_with (first
      | (go_at_call 23; refine ca.out.mono ?_; rintro e w1 ⟨rfl, hw1⟩; subst w1)
      | (go_at_call 24; refine cl'.out.mono ?_; rintro e w1 ⟨rfl, hw1⟩; subst w1))
    go_ret
    exact ⟨rfl, Mod.refl _ _⟩
end
end Edge
end Go.Proofs.YtjpfmkfikidgkaaGreat

set_option linter.unusedVariables false
set_option linter.unusedSimpArgs false
namespace Go.Proofs.YtjpfmkfikidgkaaGreat
open Go.RowKit
namespace Edge
theorem mayP_no {L : List Ed} {f : List Int} {i x : Int} (h : ¬ ((0 ≤ i ∧ i < 2 * L.length) ∧ 0 ≤ x ∧ x ≤ leftE L f i.toNat)) : mayP L f i x = false ∧ pushI L f i x = f := by
  have e : mayP L f i x = false := by unfold mayP; rw [decide_eq_false_iff_not]; exact h
  exact ⟨e, by unfold pushI; rw [e]; rfl⟩
theorem mayP_yes {L : List Ed} {f : List Int} {k : Nat} {x : Int} (h1 : k < 2 * L.length) (h2 : 0 ≤ x) (h3 : x ≤ leftE L f k) : mayP L f (k : Int) x = true ∧ pushI L f (k : Int) x = pushF f k x := by
  have e : mayP L f (k : Int) x = true := by unfold mayP; rw [decide_eq_true_eq, Int.toNat_natCast]; exact ⟨by omega, h2, h3⟩
  exact ⟨e, by unfold pushI; rw [e, if_pos rfl, Int.toNat_natCast]⟩
set_option maxRecDepth 100000 in
set_option maxHeartbeats 8000000 in
theorem rpush_sep {w0 w : World} {r ba n : Nat} {L : List Ed} {f : List Int} {R : List Part} (hS : Sep w0 w (RestP r ba n L f :: ArcP ba n L :: R)) (hG : GOk n L) (hF : FB L f) (i x : Int) :
    Calls Tryz.prog 22 #[.pointer (some ⟨r, 0, none⟩), .int .i64 i, .int .i64 x] w fun e w' => e = .returned (.bool (mayP L f i x)) ∧ Sep w0 w' (RestP r ba n L (pushI L f i x) :: ArcP ba n L :: R) := by
  obtain ⟨Fr, hPr, _⟩ := hS.first
  obtain ⟨Fa, hPa, _⟩ := hS.tail.first
  have ca := Lib.hid (rarcs_p hPr)
  have cl := alen_p hPa
  have hl := hG.len
  obtain ⟨m, hm⟩ : ∃ m, 2 * L.length = m := ⟨_, rfl⟩
  rw [hm] at cl
  have cl' := Lib.hid cl
  have hS' := Lib.hid hS
  by_cases h0 : i < 0
  · obtain ⟨e1, e2⟩ := mayP_no (L := L) (f := f) (i := i) (x := x) (by omega)
    rw [e1, e2]
    clear hS hPr hPa cl e1 e2 hG hF hm
    go_enter Tryz.func22, Tryz.ntmps22
    go_wp2_with fail
    go_ret
    exact ⟨rfl, hS'.out⟩
  obtain ⟨k, rfl⟩ := Int.eq_ofNat_of_zero_le (show 0 ≤ i by omega)
  by_cases h1 : k < m
  case neg =>
    obtain ⟨e1, e2⟩ := mayP_no (L := L) (f := f) (i := (k : Int)) (x := x) (by omega)
    rw [e1, e2]
    have hk1 : ¬ (k : Int) < m := by omega
    have t1 : decide ((m : Int) ≤ (k : Int)) = true := by simp; omega
    clear hS hPr hPa cl e1 e2 hG hF hm
    go_enter Tryz.func22, Tryz.ntmps22
    go_wp2_with (first
      | (go_at_call 23; refine ca.out.mono ?_; rintro e w1 ⟨rfl, hw1⟩; subst w1)
      | (go_at_call 24; refine cl'.out.mono ?_; rintro e w1 ⟨rfl, hw1⟩; subst w1))
    go_ret
    exact ⟨rfl, hS'.out⟩
  have hk1 : (k : Int) < m := by omega
  by_cases h2 : x < 0
  · obtain ⟨e1, e2⟩ := mayP_no (L := L) (f := f) (i := (k : Int)) (x := x) (by omega)
    rw [e1, e2]
    clear hS hPr hPa cl e1 e2 hG hF hm h1
    go_enter Tryz.func22, Tryz.ntmps22
    go_wp2_with (first
      | (go_at_call 23; refine ca.out.mono ?_; rintro e w1 ⟨rfl, hw1⟩; subst w1)
      | (go_at_call 24; refine cl'.out.mono ?_; rintro e w1 ⟨rfl, hw1⟩; subst w1))
    go_ret
    exact ⟨rfl, hS'.out⟩
  obtain ⟨gl, go, hR⟩ := Sep.rest hS
  have r1 := (hR.blkAt 0 rfl).cell 1 rfl
  have rl := (hR.blkAt 0 rfl).lt
  have gll := own_lt (hR.rowAt 1 rfl) (g := gl) rfl
  have c0 : w.cell? ⟨gl, k, none⟩ = some (.int .i64 (leftE L f k)) := by
    have := (hR.rowAt 1 rfl).cellAt k (by omega)
    rw [i64s_got (leftL_get (by omega))] at this
    exact this
  by_cases h3 : leftE L f k < x
  · obtain ⟨e1, e2⟩ := mayP_no (L := L) (f := f) (i := (k : Int)) (x := x) (by rw [Int.toNat_natCast]; omega)
    rw [e1, e2]
    rw [hm] at r1
    generalize leftE L f k = z at *
    clear hS hPr hPa cl e1 e2 hG hF hm h1 hR
    go_enter Tryz.func22, Tryz.ntmps22
    go_wp2_with (first
      | (go_at_call 23; refine ca.out.mono ?_; rintro e w1 ⟨rfl, hw1⟩; subst w1)
      | (go_at_call 24; refine cl'.out.mono ?_; rintro e w1 ⟨rfl, hw1⟩; subst w1))
    go_ret
    exact ⟨rfl, hS'.out⟩
  obtain ⟨e1, e2⟩ := mayP_yes (L := L) (f := f) (k := k) (x := x) (by omega) (by omega) (by omega)
  rw [e1, e2]
  clear e1 e2
  have hkL : k < 2 * L.length := by omega
  have hbL := back_lt.2 hkL
  have hz := leftE_in hG hF hkL
  have hzb := leftE_in hG hF hbL
  obtain ⟨t, ht⟩ : ∃ t : Nat, tailE L k = (t : Int) := ⟨(tailE L k).toNat, by have := tail_in hG hkL; omega⟩
  obtain ⟨hd, hh⟩ : ∃ t : Nat, headE L k = (t : Int) := ⟨(headE L k).toNat, by have := head_in hG hkL; omega⟩
  have htn : t < n := by have := tail_in hG hkL; omega
  have hhn : hd < n := by have := head_in hG hkL; omega
  have hth : t ≠ hd := by have := tail_ne_head hG hkL; omega
  have hxt := exc_in hF (fun e he => by have := hG.ends e he; omega) (t : Int)
  have hxh := exc_in hF (fun e he => by have := hG.ends e he; omega) (hd : Int)
  have htot := hG.tot
  have hlp := Lib.hid (leftL_push (L := L) (f := f) hF.len hkL x)
  have hop := Lib.hid (overL_push (n := n) hG hF.len hkL ht hh x)
  have hbk := Lib.hid (back_any (k : Int) (by omega) w)
  rw [show backI (k : Int) = ((back k : Nat) : Int) by unfold backI; rw [if_neg (by omega), Int.toNat_natCast]] at hbk
  have hbne : back k ≠ k := by unfold back; split <;> omega
  have hct := Lib.hid (fun W F (h : ArcP ba n L W F) => atail_p h hG (k : Int) (by omega))
  have hch := Lib.hid (fun W F (h : ArcP ba n L W F) => ahead_p h hG (k : Int))
  rw [show tailI L (k : Int) = (t : Int) by unfold tailI; rw [if_neg (by omega), Int.toNat_natCast, ht]] at hct
  rw [show headI L (k : Int) = (hd : Int) by unfold headI; rw [if_neg (by omega), Int.toNat_natCast, hh]] at hch
  have hge : ∀ j, (leftL L f)[j]? = some (leftE L f j) ∨ 2 * L.length ≤ j := fun j => by
    by_cases hj : j < 2 * L.length
    · exact .inl (leftL_get hj)
    · exact .inr (by omega)
  rw [hm] at r1
  -- the left of the arc
  have hS1 := Lib.hid (hR.rowsetAt 1 rfl k (.int .i64 (leftE L f k - x)))
  have f0 := (hR.rowAt 1 rfl).frozenAt k
  have hb1 : (leftL L f)[back k]? = some (leftE L f (back k)) := leftL_get hbL
  have ho1 : (overL n L f)[t]? = some (exc L f (t : Int)) := overL_get htn
  have ho2 : (overL n L f)[hd]? = some (exc L f (hd : Int)) := overL_get hhn
  have hbm : (back k : Int) < m := by omega
  have hbm2 : back k < 2 * L.length := hbL
  obtain ⟨lf, hlf⟩ : ∃ lf, leftL L f = lf := ⟨_, rfl⟩
  obtain ⟨ov, hov⟩ : ∃ ov, overL n L f = ov := ⟨_, rfl⟩
  have hlfl : lf.length = m := by rw [← hlf, leftL_len, hm]
  have hovl : ov.length = n := by rw [← hov, overL_len]
  rw [hlf] at hS1 hlp hb1
  rw [hov] at hS1 hop ho1 ho2
  rw [hm] at hS1
  have hm' := Lib.hid hm
  have hbk2 := Lib.hid hbne
  have hth' := Lib.hid hth
  generalize back k = bk at *
  generalize leftE L f k = z at *
  generalize leftE L f bk = zb at *
  generalize exc L f (t : Int) = xt at *
  generalize exc L f (hd : Int) = xh at *
  generalize total L = tot at *
  have hb1' := Lib.hid hb1
  have ho1' := Lib.hid ho1
  have ho2' := Lib.hid ho2
  have hth1 : (t : Int) < n := by omega
  have hhh1 : (hd : Int) < n := by omega
  clear hS hPr hPa cl hG hF hm h1 hR hge ht hh hlf hov hkL hbL hb1 ho1 ho2 hbne hth hbm2 hS'
  go_enter Tryz.func22, Tryz.ntmps22
  go_upto_region 5 with (first
    | (go_at_call 23; refine ca.out.mono ?_; rintro e w1 ⟨rfl, hw1⟩; subst w1)
    | (go_at_call 24; refine cl'.out.mono ?_; rintro e w1 ⟨rfl, hw1⟩; subst w1)
    | (go_at_call 113; refine hbk.out.mono ?_; rintro e w1 ⟨rfl, hw1⟩; subst w1))
  generalize w.setCell ⟨gl, k, none⟩ (.int .i64 (z - x)) = W1 at *
  clear r1 rl gll c0 f0 ca cl' hbk
  have r1 := (hS1.out.blkAt 0 rfl).cell 1 rfl
  have rl := (hS1.out.blkAt 0 rfl).lt
  have gll := own_lt (hS1.out.rowAt 1 rfl) (g := gl) rfl
  have f0 := (hS1.out.rowAt 1 rfl).frozenAt bk
  have c0 : W1.cell? ⟨gl, bk, none⟩ = some (.int .i64 zb) := by
    have := (hS1.out.rowAt 1 rfl).cellAt bk (by omega)
    rw [i64s_set, i64s_got (x := zb) (by rw [List.getElem?_set_ne (fun e => hbk2.out e.symm)]; exact hb1'.out)] at this
    exact this
  have hS2 := Lib.hid (hS1.out.rowsetAt 1 rfl bk (.int .i64 (zb + x)))
  clear hS1
  go_upto_region 6 with fail
  generalize W1.setCell ⟨gl, bk, none⟩ (.int .i64 (zb + x)) = W2 at *
  clear r1 rl gll c0 f0
  rw [i64s_set, i64s_set, hlp.out] at hS2
  -- what stays at the tail
  have rl := (hS2.out.blkAt 0 rfl).lt
  have n1 : r ≠ go := fun e => hS2.out.blkrow 0 2 (by omega) rfl rfl (by rw [e]; rfl)
  have hrb := Lib.hid (hS2.out.blkAt 0 rfl)
  have hn1 := Lib.hid n1
  have g0 : ∀ m : Fut (Mod [go]) W2.drew, m.v.cell? ⟨r, 0, none⟩ = some (.pointer (some ⟨ba, 0, none⟩)) := fun m => (hrb.out.drew.keep m.of (by simpa using hn1.out)).cell 0 rfl
  have g2 : ∀ m : Fut (Mod [go]) W2.drew, m.v.cell? ⟨r, 2, none⟩ = some (.slice (some ⟨go, 0, none⟩) n n) := fun m => (hrb.out.drew.keep m.of (by simpa using hn1.out)).cell 2 rfl
  obtain ⟨Fa, hPa, _⟩ := (hS2.out.still (Mod.refl [] W2).drew |>.get 3 rfl).first
  have ct := Lib.hid (hct.out _ _ hPa)
  have c0 : W2.drew.cell? ⟨go, t, none⟩ = some (.int .i64 xt) := by
    have := (hS2.out.rowAt 2 rfl).cellAt t (by omega)
    rw [i64s_got ho1'.out] at this
    exact this
  have f0 : W2.drew.frozen? ⟨go, t, none⟩ = false := (hS2.out.rowAt 2 rfl).frozenAt t
  have gol : go < W2.drew.heap.size := own_lt (hS2.out.rowAt 2 rfl) (g := go) rfl
  have hS3 := Lib.hid ((hS2.out.rowsetAt 2 rfl t (.int .i64 (xt - x))).still (Mod.refl [] _).drew)
  clear hPa hS2 n1 hrb
  refine region_sched (G := Mod [go]) [([0,1,2,3,4,5,6,7,8,12],9), ([10],11), ([13,14],15)] [] (by kernel_rfl) (by kernel_rfl) (by kernel_rfl) rfl (Mod.refl _) (fun _ _ _ h1 h2 => h1.trans h2 (fun b hb _ => hb)) ?_
  simp only [stages, pickO, nthO, headO, List.append_eq, List.cons_append, List.nil_append]
  refine sched_step ?_
  repeat (go_big_quiet_step (fail))
  refine wpQuiet_nil ?_
  intro K hK
  rw [if_pos (by rfl)]
  go_simp
  refine ct.out.mono ?_
  rintro e w5 ⟨rfl, hw5⟩
  subst w5
  try dsimp only
  refine hK.out _ _ (Mod.refl _ _) ?_
  clear hK K ct g0 g2
  refine sched_step ?_
  repeat (go_big_quiet_step (fail))
  refine wpQuiet_nil ?_
  intro K hK
  rw [if_pos (by rfl)]
  go_simp
  refine hK.out _ _ (Mod.refl _ _) ?_
  clear hK K
  refine sched_step ?_
  repeat (go_big_quiet_step (fail))
  refine wpQuiet_nil ?_
  intro K hK
  rw [if_pos (by rfl)]
  go_simp
  refine hK.out _ _ ((Mod.refl _ _).setCell _ _ (fun _ => by simp)) ?_
  clear hK K c0 f0 gol rl
  refine sched_last ?_
  refine wpQuiet_nil ?_
  go_upto_region 7 with fail
  generalize (W2.setCell ⟨go, t, none⟩ (.int .i64 (xt - x))).drew = W3 at *
  -- what stays at the head
  have rl := (hS3.out.blkAt 0 rfl).lt
  have hrb := Lib.hid (hS3.out.blkAt 0 rfl)
  have g0 : ∀ m : Fut (Mod [go]) W3.drew, m.v.cell? ⟨r, 0, none⟩ = some (.pointer (some ⟨ba, 0, none⟩)) := fun m => (hrb.out.drew.keep m.of (by simpa using hn1.out)).cell 0 rfl
  have g2 : ∀ m : Fut (Mod [go]) W3.drew, m.v.cell? ⟨r, 2, none⟩ = some (.slice (some ⟨go, 0, none⟩) n n) := fun m => (hrb.out.drew.keep m.of (by simpa using hn1.out)).cell 2 rfl
  obtain ⟨Fa, hPa, _⟩ := (hS3.out.still (Mod.refl [] W3).drew |>.get 3 rfl).first
  have ch := Lib.hid (hch.out _ _ hPa)
  have c0 : W3.drew.cell? ⟨go, hd, none⟩ = some (.int .i64 xh) := by
    have := (hS3.out.rowAt 2 rfl).cellAt hd (by omega)
    rw [i64s_set, i64s_got (x := xh) (by rw [List.getElem?_set_ne hth'.out]; exact ho2'.out)] at this
    exact this
  have f0 : W3.drew.frozen? ⟨go, hd, none⟩ = false := (hS3.out.rowAt 2 rfl).frozenAt hd
  have gol : go < W3.drew.heap.size := own_lt (hS3.out.rowAt 2 rfl) (g := go) rfl
  have hS4 := Lib.hid ((hS3.out.rowsetAt 2 rfl hd (.int .i64 (xh + x))).still (Mod.refl [] _).drew)
  rw [i64s_set, i64s_set, hop.out] at hS4
  clear hPa hS3 hrb
  refine region_sched (G := Mod [go]) [([0,1,2,3,4,5,6,7,8,12],9), ([10],11), ([13,14],15)] [] (by kernel_rfl) (by kernel_rfl) (by kernel_rfl) rfl (Mod.refl _) (fun _ _ _ h1 h2 => h1.trans h2 (fun b hb _ => hb)) ?_
  simp only [stages, pickO, nthO, headO, List.append_eq, List.cons_append, List.nil_append]
  refine sched_step ?_
  repeat (go_big_quiet_step (fail))
  refine wpQuiet_nil ?_
  intro K hK
  rw [if_pos (by rfl)]
  go_simp
  refine ch.out.mono ?_
  rintro e w5 ⟨rfl, hw5⟩
  subst w5
  try dsimp only
  refine hK.out _ _ (Mod.refl _ _) ?_
  clear hK K ch g0 g2
  refine sched_step ?_
  repeat (go_big_quiet_step (fail))
  refine wpQuiet_nil ?_
  intro K hK
  rw [if_pos (by rfl)]
  go_simp
  refine hK.out _ _ (Mod.refl _ _) ?_
  clear hK K
  refine sched_step ?_
  repeat (go_big_quiet_step (fail))
  refine wpQuiet_nil ?_
  intro K hK
  rw [if_pos (by rfl)]
  go_simp
  refine hK.out _ _ ((Mod.refl _ _).setCell _ _ (fun _ => by simp)) ?_
  clear hK K c0 f0 gol rl
  refine sched_last ?_
  refine wpQuiet_nil ?_
  go_wp2_with fail
  go_ret
  refine ⟨rfl, Sep.mkRest (gl := gl) (go := go) ?_⟩
  rw [hm'.out]
  exact hS4.out
end Edge
end Go.Proofs.YtjpfmkfikidgkaaGreat

set_option linter.unusedVariables false
set_option linter.unusedSimpArgs false
namespace Go.Proofs.YtjpfmkfikidgkaaGreat
open Go.RowKit
namespace Edge
theorem infoI64b : (Tryz.prog.info? 2).map (fun i => (i.zero, i.size, i.bytes)) = some (some (.int .i64 0), 1, 8) := by kernel_rfl
/-- The flows so far. -/
def partF (f : List Int) (N k : Nat) : List Int := (List.range N).map fun j => if j < k then f.getD j 0 else 0
theorem partF_len (f : List Int) (N k : Nat) : (partF f N k).length = N := by simp [partF]
theorem partF_zero (f : List Int) (N : Nat) : partF f N 0 = List.replicate N 0 := by
  apply List.eq_replicate_iff.2 ⟨partF_len _ _ _, ?_⟩
  intro x hx
  simp only [partF, List.mem_map] at hx
  obtain ⟨v, _, rfl⟩ := hx
  rw [if_neg (by omega)]
theorem partF_step {f : List Int} {N k : Nat} : (partF f N k).set k (f.getD k 0) = partF f N (k + 1) := by
  apply List.ext_getElem
  · simp [partF]
  intro i g1 g2
  simp only [partF, List.getElem_set, List.getElem_map, List.getElem_range]
  by_cases c : k = i
  · subst c; rw [if_pos rfl, if_pos (by omega)]
  · rw [if_neg c]
    by_cases h : i < k
    · rw [if_pos h, if_pos (by omega)]
    · rw [if_neg h, if_neg (by omega)]
theorem partF_all {f : List Int} {N : Nat} (h : f.length = N) : partF f N N = f := by
  apply List.ext_getElem
  · rw [partF_len, h]
  intro i g1 g2
  simp only [partF, List.getElem_map, List.getElem_range]
  rw [if_pos (by omega), List.getD_eq_getElem?_getD, List.getElem?_eq_getElem g2]; rfl
set_option maxRecDepth 100000 in
set_option maxHeartbeats 2000000 in
theorem rflows_p {w : World} {r ba n : Nat} {L : List Ed} {f : List Int} {F F2 : List Nat} (h : RestP r ba n L f w F) (hA : ArcP ba n L w F2) (hG : GOk n L) (hF : FB L f) :
    Calls Tryz.prog 80 #[.pointer (some ⟨r, 0, none⟩)] w fun e w' => ∃ a c, e = .returned (.slice a f.length c) ∧ Made w w' 2 1 a f.length c (i64s f) := by
  have hl := hG.len
  have hfl := hF.len
  obtain ⟨N, hN⟩ : ∃ N, L.length = N := ⟨_, rfl⟩
  have ca := Lib.hid (rarcs_p h)
  have cl := alen_p hA
  rw [show ((2 * L.length : Nat) : Int) = 2 * (N : Int) by omega] at cl
  have cl' := Lib.hid cl
  have hfw := fun W (m : Mod [] w W) (k : Nat) => rflow_p (Good.keep h m (by simp)) (Good.keep hA m (by simp)) hG hF (k : Int)
  have hfw' : Hid (∀ W (m : Mod [] w W) (k : Nat), k < N → Calls Tryz.prog 99 #[.pointer (some ⟨r, 0, none⟩), .int .i64 (k : Int)] W fun e w' => e = .returned (.int .i64 (f.getD k 0)) ∧ Mod [] W w') := Lib.hid (fun W m k hk => by
    have := hfw W m k
    rw [show flowI L f (k : Int) = f.getD k 0 by unfold flowI; rw [if_pos (by omega), Int.toNat_natCast]] at this
    exact this)
  have td : (2 * (N : Int)) / 2 = (N : Int) := by omega
  have hmk := make_run (P := Tryz.prog) 33 2 (.int .i64 0) 8 Tryz.underlying33 infoI64b rfl (by omega) N (by omega)
  have hst : Hid (Sep w (w.alloc (.cells (madeCells #[.int .i64 0] N) 2)) [Row 2 1 N (.slice (some ⟨w.heap.size, 0, none⟩) N N) (i64s (partF f N 0))]) := Lib.hid (by
    have h5 := (Sep.empty w).made (made_made w 2 (.int .i64 0) N (by omega))
    rw [partF_zero]
    have e : i64s (List.replicate N 0) = List.replicate N (.int .i64 0) := by simp [i64s]
    rw [e]
    exact h5)
  have hNl : N ≤ 1048576 := by omega
  have hfn : f.length = N := by omega
  have hfn' := Lib.hid hfn
  rw [hfn]
  clear h hA hG hF cl hfw hfl hN hfn
  go_enter Tryz.func80, Tryz.ntmps80
  go_wp2_with (first
    | (go_at_call 23; refine ca.out.mono ?_; rintro e w1 ⟨rfl, hw1⟩; subst w1)
    | (go_at_call 24; refine cl'.out.mono ?_; rintro e w1 ⟨rfl, hw1⟩; subst w1))
  generalize w.alloc (.cells (madeCells #[.int .i64 0] N) 2) = w1 at *
  generalize w.heap.size = g at *
  go_loopw [12] (fun i wr => ∃ k : Nat, k ≤ N ∧ i = .int .i64 k ∧ Hid (Sep w wr [Row 2 1 N (.slice (some ⟨g, 0, none⟩) N N) (i64s (partF f N k))])) (fun i _ => N - (intOf i).toNat)
  case atStart => exact ⟨0, Nat.zero_le _, rfl, hst⟩
  case round =>
    clear hst
    obtain ⟨k, hk, rfl, hS⟩ := hrel
    by_cases hlt : k < N
    · have hlt1 : (k : Int) < N := by omega
      have cf := Lib.hid (hfw'.out wr hS.out.mod k hlt)
      have hps := Lib.hid (partF_step (f := f) (N := N) (k := k))
      generalize f.getD k 0 = y at *
      go_wp2_with fail
      refine cf.out.mono ?_
      rintro e w2 ⟨rfl, hm2⟩
      have hS2 := Lib.hid (hS.out.still hm2)
      have gz := (hS2.out.rowAt 0 rfl).frozenAt k
      have gl := own_lt (hS2.out.rowAt 0 rfl) (g := g) rfl
      obtain ⟨u, gc⟩ : ∃ u, w2.cell? ⟨g, k, none⟩ = some u := by
        have h1 := (hS2.out.rowAt 0 rfl).cellAt k (by omega)
        have h2 := (hS2.out.rowAt 0 rfl).1
        rw [List.getElem?_eq_getElem (by omega)] at h1
        exact ⟨_, h1⟩
      have hS3 := Lib.hid (hS2.out.rowsetAt 0 rfl k (.int .i64 y))
      rw [i64s_set, hps.out] at hS3
      clear hm2 hS hS2
      try dsimp only
      go_wp2_with fail
      go_roundw
      case rel => exact ⟨k + 1, by omega, by go_num, hS3⟩
      case measure => simp [intOf]; omega
    · have hkN : k = N := by omega
      have hfin : Hid (Made w wr 2 1 (some ⟨g, 0, none⟩) N N (i64s f)) := Lib.hid (by
        have h5 := hS.out
        rw [hkN, partF_all hfn'.out] at h5
        exact h5.toMade)
      clear hS hk hkN
      go_wp2_with fail
      go_ret
      exact ⟨_, _, rfl, hfin.out⟩
/-! Of nil there is nothing. -/
theorem rarcs_nil (w : World) : Calls Tryz.prog 23 #[.pointer none] w fun e w' => e = .returned (.pointer none) ∧ w' = w := by
  go_enter Tryz.func23, Tryz.ntmps23
  go_wp2
  go_ret
  exact ⟨rfl, rfl⟩
theorem rleft_nil (w : World) : Calls Tryz.prog 40 #[.pointer none, .int .i64 0] w fun e w' => e = .returned (.int .i64 0) ∧ w' = w := by
  go_enter Tryz.func40, Tryz.ntmps40
  go_wp2_with (first
    | (go_at_call 23; refine (rarcs_nil _).mono ?_; rintro e w1 ⟨rfl, rfl⟩)
    | (go_at_call 24; refine (alen_nil _).mono ?_; rintro e w1 ⟨rfl, rfl⟩))
  go_ret
  exact ⟨rfl, rfl⟩
theorem rpush_nil (w : World) : Calls Tryz.prog 22 #[.pointer none, .int .i64 0, .int .i64 0] w fun e w' => e = .returned (.bool false) ∧ w' = w := by
  go_enter Tryz.func22, Tryz.ntmps22
  go_wp2_with (first
    | (go_at_call 23; refine (rarcs_nil _).mono ?_; rintro e w1 ⟨rfl, rfl⟩)
    | (go_at_call 24; refine (alen_nil _).mono ?_; rintro e w1 ⟨rfl, rfl⟩))
  go_ret
  exact ⟨rfl, rfl⟩
theorem rflow_nil (w : World) : Calls Tryz.prog 99 #[.pointer none, .int .i64 0] w fun e w' => e = .returned (.int .i64 0) ∧ w' = w := by
  go_enter Tryz.func99, Tryz.ntmps99
  go_wp2_with (first
    | (go_at_call 23; refine (rarcs_nil _).mono ?_; rintro e w1 ⟨rfl, rfl⟩)
    | (go_at_call 24; refine (alen_nil _).mono ?_; rintro e w1 ⟨rfl, rfl⟩))
  go_ret
  exact ⟨rfl, rfl⟩
theorem rexc_nil (w : World) : Calls Tryz.prog 74 #[.pointer none, .int .i64 0] w fun e w' => e = .returned (.int .i64 0) ∧ w' = w := by
  go_enter Tryz.func74, Tryz.ntmps74
  go_wp2_with (first
    | (go_at_call 23; refine (rarcs_nil _).mono ?_; rintro e w1 ⟨rfl, rfl⟩)
    | (go_at_call 105; refine (an_nil _).mono ?_; rintro e w1 ⟨rfl, rfl⟩))
  go_ret
  exact ⟨rfl, rfl⟩
theorem rreach_nil (w : World) : Calls Tryz.prog 110 #[.pointer none, .int .i64 0] w fun e w' => e = .returned (.slice none 0 0) ∧ w' = w := by
  go_enter Tryz.func110, Tryz.ntmps110
  go_wp2_with (first
    | (go_at_call 23; refine (rarcs_nil _).mono ?_; rintro e w1 ⟨rfl, rfl⟩)
    | (go_at_call 105; refine (an_nil _).mono ?_; rintro e w1 ⟨rfl, rfl⟩))
  go_ret
  exact ⟨rfl, rfl⟩
theorem rtwin_nil (w : World) : Calls Tryz.prog 20 #[.pointer none] w fun e w' => e = .returned (.pointer none) ∧ w' = w := by
  go_enter Tryz.func20, Tryz.ntmps20
  go_wp2
  go_ret
  exact ⟨rfl, rfl⟩
set_option maxRecDepth 100000 in
set_option maxHeartbeats 2000000 in
theorem rflows_nil (w : World) : Calls Tryz.prog 80 #[.pointer none] w fun e w' => ∃ a, e = .returned (.slice a 0 0) ∧ Mod [] w w' := by
  have hmk := make_run (P := Tryz.prog) 33 2 (.int .i64 0) 8 Tryz.underlying33 infoI64b rfl (by omega) 0 (by omega)
  have hmod := Lib.hid ((Mod.refl [] w).alloc (.cells (madeCells #[.int .i64 0] 0) 2))
  simp only [Int.natCast_zero, Int.ofNat_zero, Int.cast_ofNat_Int] at hmk
  go_enter Tryz.func80, Tryz.ntmps80
  go_wp2_with (first
    | (go_at_call 23; refine (rarcs_nil _).mono ?_; rintro e w1 ⟨rfl, hw1⟩; subst w1)
    | (go_at_call 24; refine (alen_nil _).mono ?_; rintro e w1 ⟨rfl, hw1⟩; subst w1))
  clear hmk
  generalize w.alloc (.cells (madeCells #[.int .i64 0] 0) 2) = w1 at *
  generalize w.heap.size = g at *
  go_loopw [12] (fun i wr => i = .int .i64 0 ∧ wr = w1) (fun i _ => 0)
  case atStart => exact ⟨rfl, rfl⟩
  case round =>
    obtain ⟨rfl, hw⟩ := hrel
    subst hw
    go_wp2_with fail
    go_ret
    exact ⟨_, rfl, hmod.out⟩
end Edge
end Go.Proofs.YtjpfmkfikidgkaaGreat

set_option linter.unusedVariables false
set_option linter.unusedSimpArgs false
namespace Go.Proofs.YtjpfmkfikidgkaaGreat
open Go.RowKit
namespace Edge
def restV (n : Int) (a : Option Addr) (m c : Nat) (fa : Option Addr) (fc : Nat) : Value := .agg #[.int .i64 n, .slice a m c, .slice fa m fc]
/-- The reference's flow f of the edges L: what is read of it. -/
structure RX (w : World) (L : List Ed) (f : List Int) (a : Option Addr) (c : Nat) (fa : Option Addr) (fc : Nat) : Prop where
  l : Rd w 3 (.slice a L.length c) L.length (flat encEd L)
  f : Rd w 1 (.slice fa L.length fc) L.length (i64s f)
theorem RX.still {w w' : World} {L : List Ed} {f : List Int} {a : Option Addr} {c : Nat} {fa : Option Addr} {fc : Nat} (h : RX w L f a c fa fc) (m : Mod [] w w') : RX w' L f a c fa fc := ⟨h.l.still m, h.f.still m⟩
theorem RX.len {w : World} {L : List Ed} {f : List Int} {a : Option Addr} {c : Nat} {fa : Option Addr} {fc : Nat} (h : RX w L f a c fa fc) : f.length = L.length := by
  have := h.f.1
  rw [i64s_len] at this
  omega
theorem RX.fcell {w : World} {L : List Ed} {f : List Int} {a : Option Addr} {c : Nat} {fa : Option Addr} {fc k : Nat} (h : RX w L f a c fa fc) (hk : k < L.length) : ∃ g o, fa = some ⟨g, o, none⟩ ∧ g < w.heap.size ∧ ∀ w', Mod [] w w' → w'.cell? ⟨g, o + k, none⟩ = some (.int .i64 (f.getD k 0)) := by
  obtain ⟨g, o, e, hg, hc⟩ := rd_cell h.f hk
  refine ⟨g, o, e, hg, fun w' m => hc w' k _ m ?_⟩
  have hf : k < f.length := by rw [h.len]; exact hk
  refine i64s_got ?_
  rw [List.getD_eq_getElem?_getD, List.getElem?_eq_getElem hf]; rfl
set_option maxRecDepth 100000 in
set_option maxHeartbeats 2000000 in
theorem xnew23 (n : Nat) {L : List Ed} {a : Option Addr} {c : Nat} (w : World) (hl : L.length ≤ 1048576) :
    Calls Tryz.prog 17 #[netV n a L.length c] w fun e w' => ∃ fa fc, e = .returned (restV n a L.length c fa fc) ∧ Made w w' 2 1 fa L.length fc (i64s (noF L)) := by
  obtain ⟨m, hm⟩ : ∃ m, L.length = m := ⟨_, rfl⟩
  have hm' := Lib.hid hm
  rw [hm] at hl ⊢
  have hB := ((Has.new w [.int .i64 n, .slice a m c] 32).alloc (.cells #[.int .i64 0, .slice none 0 0, .slice none 0 0] 35))
  have hB' := Lib.hid hB
  have hmk := make_run (P := Tryz.prog) 33 2 (.int .i64 0) 8 Tryz.underlying33 infoI64b rfl (by omega) m (by omega)
  have hmod : Hid (Mod [] w ((w.alloc (.cells #[.int .i64 n, .slice a m c] 32)).alloc (.cells #[.int .i64 0, .slice none 0 0, .slice none 0 0] 35))) := Lib.hid (((Mod.refl [] w).alloc _).alloc _)
  unfold netV restV
  clear hB hm
  go_enter Tryz.func17, Tryz.ntmps17
  go_upto_region 1 with fail
  have hA := Lib.hid (((((Sep.empty w).box [.int .i64 n, .slice a m c] 32).box [.int .i64 0, .slice none 0 0, .slice none 0 0] 35).still (Mod.refl [] _).drew))
  have f0 := KC.one (w := ((w.alloc (.cells #[.int .i64 n, .slice a m c] 32)).alloc (.cells #[.int .i64 0, .slice none 0 0, .slice none 0 0] 35)).drew) (L := [(⟨w.heap.size, 0, none⟩, .int .i64 n), (⟨w.heap.size, 1, none⟩, .slice a m c)]) ((hA.out.blkAt 1 rfl).cell 0 rfl) (by simp)
  have f1 := KC.one (w := ((w.alloc (.cells #[.int .i64 n, .slice a m c] 32)).alloc (.cells #[.int .i64 0, .slice none 0 0, .slice none 0 0] 35)).drew) (L := [(⟨w.heap.size, 0, none⟩, .int .i64 n), (⟨w.heap.size, 1, none⟩, .slice a m c)]) ((hA.out.blkAt 1 rfl).cell 1 rfl) (by simp)
  have hS : Hid (Sep w (((w.alloc (.cells #[.int .i64 n, .slice a m c] 32)).alloc (.cells #[.int .i64 0, .slice none 0 0, .slice none 0 0] 35)).alloc (.cells (madeCells #[.int .i64 0] m) 2)).drew [Row 2 1 m (.slice (some ⟨w.heap.size + 1 + 1, 0, none⟩) m m) (i64s (noF L)), Blk (w.heap.size + 1) [.int .i64 0, .slice none 0 0, .slice none 0 0] 35, Blk w.heap.size [.int .i64 n, .slice a m c] 32]) := Lib.hid (by
    have h5 := hA.out.made (made_made _ 2 (.int .i64 0) m (by omega))
    have e : i64s (noF L) = List.replicate m (.int .i64 0) := by unfold noF; rw [hm'.out]; simp [i64s]
    rw [e]
    simp only [World.size_alloc] at h5
    rw [show ∀ W : World, W.drew.heap.size = W.heap.size from fun _ => rfl] at h5
    simp only [World.size_alloc] at h5
    exact h5)
  clear hm' hmod hB' hA
  refine region_sched (G := KC [(⟨w.heap.size, 0, none⟩, .int .i64 n), (⟨w.heap.size, 1, none⟩, .slice a m c)]) [([0,1,2,3],4), ([5],6)] [] (by kernel_rfl) (by kernel_rfl) (by kernel_rfl) rfl (KC.refl _) (KC.trans _) ?_
  simp only [stages, pickO, nthO, headO, List.append_eq, List.cons_append, List.nil_append]
  refine sched_step ?_
  repeat (go_big_quiet_step (fail))
  refine wpQuiet_nil ?_
  intro K hK
  rw [if_pos (by rfl)]
  go_simp
  refine hK.out _ _ (fun p hp _ => by
    simp only [List.mem_cons, List.mem_nil_iff, or_false] at hp
    rcases hp with rfl | rfl
    · exact (hS.out.blkAt 2 rfl).cell 0 rfl
    · exact (hS.out.blkAt 2 rfl).cell 1 rfl) ?_
  clear hK K hmk f0 f1
  generalize (((w.alloc (.cells #[.int .i64 n, .slice a m c] 32)).alloc (.cells #[.int .i64 0, .slice none 0 0, .slice none 0 0] 35)).alloc (.cells (madeCells #[.int .i64 0] m) 2)).drew = W1 at *
  generalize w.heap.size + 1 + 1 = g at *
  generalize w.heap.size + 1 = B2 at *
  generalize w.heap.size = B at *
  have hb := hS.out.blkAt 1 rfl
  have k0 := hb.cell 0 rfl
  have k1 := hb.cell 1 rfl
  have k2 := hb.cell 2 rfl
  have z0 := hb.free 0
  have z1 := hb.free 1
  have z2 := hb.free 2
  have bl := hb.lt
  have hS3 := Lib.hid (((hS.out.setAt 1 rfl 0 (.int .i64 n)).setAt 1 rfl 1 (.slice a m c)).setAt 1 rfl 2 (.slice (some ⟨g, 0, none⟩) m m))
  clear hb
  refine sched_step ?_
  repeat (go_big_quiet_step (fail))
  refine wpQuiet_nil ?_
  intro K hK
  rw [if_pos (by rfl)]
  go_simp
  refine hK.out _ _ (fun p hp _ => by
    simp only [List.mem_cons, List.mem_nil_iff, or_false] at hp
    rcases hp with rfl | rfl
    · exact (hS3.out.blkAt 2 rfl).cell 0 rfl
    · exact (hS3.out.blkAt 2 rfl).cell 1 rfl) ?_
  clear hK K k0 k1 k2 z0 z1 z2 bl
  refine sched_last ?_
  refine wpQuiet_nil ?_
  have hb := hS3.out.blkAt 1 rfl
  have k0 := hb.cell 0 rfl
  have k1 := hb.cell 1 rfl
  have k2 := hb.cell 2 rfl
  have hfin := Lib.hid hS3.out.toMade
  clear hb hS hS3
  go_wp2_with fail
  generalize ((W1.setCell ⟨B2, 0, none⟩ (.int .i64 n)).setCell ⟨B2, 1, none⟩ (.slice a m c)).setCell ⟨B2, 2, none⟩ (.slice (some ⟨g, 0, none⟩) m m) = wf at *
  refine bodyPost_ret (v := .agg #[.int .i64 n, .slice a m c, .slice (some ⟨g, 0, none⟩) m m]) ?_ rfl ⟨_, _, rfl, hfin.out⟩
  simp [results, Tryz.results17, go_sem, k0, k1, k2]
set_option maxRecDepth 100000 in
set_option maxHeartbeats 2000000 in
theorem xleft23 {n : Nat} {L : List Ed} {f : List Int} {a : Option Addr} {c : Nat} {fa : Option Addr} {fc : Nat} {w : World} (h : RX w L f a c fa fc) (hG : GOk n L) (hF : FB L f) (i : Int) (hi : i ≤ 9223372036854775807) :
    Calls Tryz.prog 109 #[restV n a L.length c fa fc, .int .i64 i] w fun e w' => e = .returned (.int .i64 (leftI L f i)) ∧ Mod [] w w' := by
  have hmod := Lib.hid ((Mod.refl [] w).alloc (.cells #[.int .i64 n, .slice a L.length c, .slice fa L.length fc] 35))
  have hl := hG.len
  have htl := Lib.hid (rtail_any n (h.l.still hmod.out) hl i hi)
  have hB := Has.new w [.int .i64 n, .slice a L.length c, .slice fa L.length fc] 35
  have hB' := Lib.hid hB
  have b0 := hB.cell 0 rfl
  have b1 := hB.cell 1 rfl
  have bl := hB.lt
  have h' := Lib.hid h
  unfold netV at htl
  unfold restV
  clear h hB
  by_cases hin : 0 ≤ i ∧ i < 2 * L.length
  · obtain ⟨k, rfl⟩ := Int.eq_ofNat_of_zero_le hin.1
    have h1 : k < 2 * L.length := by omega
    have ht : tailI L (k : Int) = tailE L k := by unfold tailI; rw [if_neg (by omega), Int.toNat_natCast]
    have hc : leftI L f (k : Int) = leftE L f k := by unfold leftI; rw [if_pos (by omega), Int.toNat_natCast]
    have ht2 := tail_in hG h1
    rw [ht] at htl
    rw [hc]
    have hk : k / 2 < L.length := by omega
    obtain ⟨g, o, rfl, hg, hcell⟩ := ed_cells h'.out.l hk
    obtain ⟨gf, of, rfl, hgf, hfcell⟩ := h'.out.fcell hk
    have hcl := Lib.hid (fun W m => (hcell W m).2.2)
    have hcf := Lib.hid hfcell
    have et := capE_get h1
    have hcap := capE_le hG k
    have hfb := hF.get (k / 2) hk
    have e5 : leftE L f k = if k % 2 = 0 then L[k / 2].2.2 - f.getD (k / 2) 0 else L[k / 2].2.2 + f.getD (k / 2) 0 := by
      unfold leftE; rw [et]
    rw [et] at hcap
    rw [e5]
    generalize f.getD (k / 2) 0 = y at *
    generalize L[k / 2] = x at *
    obtain ⟨xu, xv, xw⟩ := x
    simp only at et hcl hcap hfb ⊢
    generalize tailE L k = t at *
    have hk1 : (k : Int) / 2 < L.length := by omega
    have ht3 : 0 ≤ t := ht2.1
    clear et hcell hfcell hin ht hc ht2 hi h' e5 hF
    by_cases h2 : k % 2 = 0
    · have t1 : ((k : Int) % 2 == 0) = true := by simp; omega
      rw [if_pos h2]
      clear h2
      go_enter Tryz.func109, Tryz.ntmps109
      go_wp2_with fail
      refine htl.out.mono ?_
      rintro e w1 ⟨rfl, hm⟩
      have hB1 := hB'.out.keep hm (by simp)
      have c1 := hB1.cell 1 rfl
      have c2 := hB1.cell 2 rfl
      have cl := hB1.lt
      have q2 := hcl.out w1 (hmod.out.trans hm (by simp))
      have q3 := hcf.out w1 (hmod.out.trans hm (by simp))
      have hgl : g < w1.heap.size := Nat.lt_of_lt_of_le hg (hmod.out.trans hm (by simp)).size
      have hgl2 : gf < w1.heap.size := Nat.lt_of_lt_of_le hgf (hmod.out.trans hm (by simp)).size
      have hm' := Lib.hid (hmod.out.trans hm (by simp))
      clear b0 b1 bl hB1 hm htl hcl hcf
      try dsimp only
      go_upto_region 4 with fail
      go_quiet (fail)
      go_wp2_with fail
      go_ret
      exact ⟨rfl, hm'.out.drewN _⟩
    · have t1 : ((k : Int) % 2 == 0) = false := by simp; omega
      rw [if_neg h2]
      clear h2
      go_enter Tryz.func109, Tryz.ntmps109
      go_wp2_with fail
      refine htl.out.mono ?_
      rintro e w1 ⟨rfl, hm⟩
      have hB1 := hB'.out.keep hm (by simp)
      have c1 := hB1.cell 1 rfl
      have c2 := hB1.cell 2 rfl
      have cl := hB1.lt
      have q2 := hcl.out w1 (hmod.out.trans hm (by simp))
      have q3 := hcf.out w1 (hmod.out.trans hm (by simp))
      have hgl : g < w1.heap.size := Nat.lt_of_lt_of_le hg (hmod.out.trans hm (by simp)).size
      have hgl2 : gf < w1.heap.size := Nat.lt_of_lt_of_le hgf (hmod.out.trans hm (by simp)).size
      have hm' := Lib.hid (hmod.out.trans hm (by simp))
      clear b0 b1 bl hB1 hm htl hcl hcf
      try dsimp only
      go_upto_region 5 with fail
      go_quiet (fail)
      go_wp2_with fail
      go_ret
      exact ⟨rfl, hm'.out.drewN _⟩
  · have ht : tailI L i = -1 := by
      unfold tailI
      by_cases h0 : i < 0
      · rw [if_pos h0]
      · rw [if_neg h0, tailE_out (by omega)]
    have hc : leftI L f i = 0 := by unfold leftI; rw [if_neg hin]
    rw [ht] at htl
    rw [hc]
    clear ht hc hin hi h'
    go_enter Tryz.func109, Tryz.ntmps109
    go_wp2_with fail
    refine htl.out.mono ?_
    rintro e w1 ⟨rfl, hm⟩
    have hm' := Lib.hid (hmod.out.trans hm (by simp))
    try dsimp only
    go_wp2_with fail
    go_ret
    exact ⟨rfl, hm'.out⟩
end Edge
end Go.Proofs.YtjpfmkfikidgkaaGreat

set_option linter.unusedVariables false
set_option linter.unusedSimpArgs false
namespace Go.Proofs.YtjpfmkfikidgkaaGreat
open Go.RowKit
namespace Edge
theorem exc_take : ∀ (L : List Ed) (f : List Int) (k : Nat) (hk : k < L.length) (hl : f.length = L.length) (v : Int), exc (L.take (k + 1)) (f.take (k + 1)) v = exc (L.take k) (f.take k) v + (if L[k].2.1 = v then f.getD k 0 else 0) - (if L[k].1 = v then f.getD k 0 else 0)
  | e :: l, x :: f, 0, _, _, v => by simp [exc]
  | e :: l, x :: f, k + 1, hk, hl, v => by
    have := exc_take l f k (by simpa using hk) (by simpa using hl) v
    simp only [List.take_succ_cons, exc, List.getElem_cons_succ, List.getD_cons_succ] at this ⊢
    rw [this]; omega
theorem FB.take : ∀ {L : List Ed} {f : List Int}, FB L f → ∀ k, FB (L.take k) (f.take k)
  | [], [], _, k => by simp [FB]
  | e :: l, x :: f, h, 0 => by simp [FB]
  | e :: l, x :: f, h, k + 1 => ⟨h.1, FB.take h.2 k⟩
theorem exc_part {n : Nat} {L : List Ed} {f : List Int} (hG : GOk n L) (hF : FB L f) (k : Nat) (v : Int) : -2251799813685248 ≤ exc (L.take k) (f.take k) v ∧ exc (L.take k) (f.take k) v ≤ 2251799813685248 := by
  have h1 := exc_in (hF.take k) (fun e he => by have := hG.ends e (List.mem_of_mem_take he); omega) v
  have h2 := total_part hG k
  omega
set_option maxRecDepth 100000 in
set_option maxHeartbeats 4000000 in
theorem xexc23 {n : Nat} {L : List Ed} {f : List Int} {a : Option Addr} {c : Nat} {fa : Option Addr} {fc : Nat} {w : World} (h : RX w L f a c fa fc) (hG : GOk n L) (hF : FB L f) (v : Int) :
    Calls Tryz.prog 78 #[restV n a L.length c fa fc, .int .i64 v] w fun e w' => e = .returned (.int .i64 (exc L f v)) ∧ Mod [] w w' := by
  have hmod := Lib.hid ((Mod.refl [] w).alloc (.cells #[.int .i64 n, .slice a L.length c, .slice fa L.length fc] 35))
  have hB := Has.new w [.int .i64 n, .slice a L.length c, .slice fa L.length fc] 35
  have b1 := hB.cell 1 rfl
  have b2 := hB.cell 2 rfl
  have bl := hB.lt
  obtain ⟨m, hm⟩ : ∃ m, L.length = m := ⟨_, rfl⟩
  have hlb : m ≤ 1048576 := by have := hG.len; omega
  have h' := Lib.hid h
  have hG' := Lib.hid hG
  have hF' := Lib.hid hF
  have hend : Hid (exc (L.take m) (f.take m) v = exc L f v) := Lib.hid (by rw [List.take_of_length_le (by omega), List.take_of_length_le (by rw [h.len]; omega)])
  rw [hm] at b1 b2 hmod
  have hm' := Lib.hid hm
  unfold restV
  rw [hm]
  rw [hm] at bl
  clear h hB hG hF hm
  go_enter Tryz.func78, Tryz.ntmps78
  go_wp2_with fail
  generalize w.alloc (.cells #[.int .i64 n, .slice a m c, .slice fa m fc] 35) = w1 at *
  generalize w.heap.size = B at *
  go_loopw [5, 6] (fun s i wr => ∃ (k : Nat) (z : Int), k ≤ m ∧ s = .int .i64 z ∧ i = .int .i64 k ∧ wr = w1 ∧ Hid (z = exc (L.take k) (f.take k) v)) (fun _ i _ => m - (intOf i).toNat)
  case atStart => exact ⟨0, 0, Nat.zero_le _, rfl, rfl, rfl, Lib.hid (by simp [exc])⟩
  case round =>
    obtain ⟨k, z, hk, rfl, rfl, hwr, hz⟩ := hrel
    subst hwr
    by_cases hlt : k < m
    · have hlt1 : (k : Int) < m := by omega
      have hkl : k < L.length := by rw [hm'.out]; exact hlt
      obtain ⟨g, o, rfl, hg, hcell⟩ := ed_cells h'.out.l hkl
      obtain ⟨gf, of, rfl, hgf, hfcell⟩ := h'.out.fcell hkl
      obtain ⟨q0, q1, _⟩ := hcell _ hmod.out
      have q3 := hfcell _ hmod.out
      have hgl : g < wr.heap.size := Nat.lt_of_lt_of_le hg hmod.out.size
      have hgl2 : gf < wr.heap.size := Nat.lt_of_lt_of_le hgf hmod.out.size
      have hst := exc_take L f k hkl h'.out.len v
      have hp := exc_part hG'.out hF'.out k v
      rw [← hz.out] at hst hp
      have hfb := hF'.out.get k hkl
      have hen := hG'.out.ends _ (List.getElem_mem hkl)
      have hcap := capE_le hG'.out (2 * k)
      rw [capE_get (by omega)] at hcap
      simp only [show 2 * k / 2 = k by omega] at hcap
      generalize L[k] = x at *
      obtain ⟨xu, xv, xw⟩ := x
      generalize f.getD k 0 = y at *
      simp only at q0 q1 hst hfb hen hcap
      clear hcell hfcell hz
      by_cases h1 : xv = v
      · have h2 : ¬ xu = v := by omega
        rw [if_pos h1, if_neg h2] at hst
        have hst' := Lib.hid hst
        have t1 : (xv == v) = true := by simpa using h1
        have t2 : (xu == v) = false := by simpa using h2
        clear hst h1 h2 hen
        go_wp2_with fail
        go_roundw
        case rel => exact ⟨k + 1, z + y, by omega, by go_num, by go_num, trivial, Lib.hid (by have := hst'.out; omega)⟩
        case measure => simp [intOf]; omega
      · have t1 : (xv == v) = false := by simpa using h1
        rw [if_neg h1] at hst
        by_cases h2 : xu = v
        · rw [if_pos h2] at hst
          have hst' := Lib.hid hst
          have t2 : (xu == v) = true := by simpa using h2
          clear hst h1 h2 hen
          go_wp2_with fail
          go_roundw
          case rel => exact ⟨k + 1, z - y, by omega, by go_num, by go_num, trivial, Lib.hid (by have := hst'.out; omega)⟩
          case measure => simp [intOf]; omega
        · rw [if_neg h2] at hst
          have hst' := Lib.hid hst
          have t2 : (xu == v) = false := by simpa using h2
          clear hst h1 h2 hen
          go_wp2_with fail
          go_roundw
          case rel => exact ⟨k + 1, z, by omega, rfl, by go_num, trivial, Lib.hid (by have := hst'.out; omega)⟩
          case measure => simp [intOf]; omega
    · have hkm : k = m := by omega
      have hz2 := hz.out
      rw [hkm, hend.out] at hz2
      have hz3 := Lib.hid hz2
      clear hz hkm hz2
      go_wp2_with fail
      go_ret
      exact ⟨by rw [hz3.out]; rfl, hmod.out⟩
end Edge
end Go.Proofs.YtjpfmkfikidgkaaGreat

set_option linter.unusedVariables false
set_option linter.unusedSimpArgs false
namespace Go.Proofs.YtjpfmkfikidgkaaGreat
open Go.RowKit
namespace Edge
def fbB : List Ed → List Int → Bool
  | [], [] => true
  | e :: l, x :: f => decide (-e.2.2 ≤ x) && decide (x ≤ e.2.2) && fbB l f
  | _, _ => false
theorem fbB_iff : ∀ {L : List Ed} {f : List Int}, fbB L f = true ↔ FB L f
  | [], [] => by simp [fbB, FB]
  | [], _ :: _ => by simp [fbB, FB]
  | _ :: _, [] => by simp [fbB, FB]
  | e :: l, x :: f => by simp [fbB, FB, fbB_iff (L := l) (f := f)]
theorem fbB_len {L : List Ed} {f : List Int} (h : f.length ≠ L.length) : fbB L f = false := by
  cases hb : fbB L f with
  | false => rfl
  | true => exact absurd (fbB_iff.1 hb).len h
theorem fb_of : ∀ {L : List Ed} {f : List Int}, f.length = L.length → (∀ (k : Nat) (hk : k < L.length), -L[k].2.2 ≤ f.getD k 0 ∧ f.getD k 0 ≤ L[k].2.2) → FB L f
  | [], [], _, _ => trivial
  | [], x :: f, h, _ => by simp at h
  | e :: l, [], h, _ => by simp at h
  | e :: l, x :: f, h, hk => ⟨hk 0 (Nat.zero_lt_succ _), fb_of (by simpa using h) (fun k h1 => hk (k + 1) (Nat.succ_lt_succ h1))⟩
theorem fbB_no {L : List Ed} {f : List Int} {k : Nat} (hk : k < L.length) (h : ¬ (-L[k].2.2 ≤ f.getD k 0 ∧ f.getD k 0 ≤ L[k].2.2)) : fbB L f = false := by
  cases hb : fbB L f with
  | false => rfl
  | true => exact absurd ((fbB_iff.1 hb).get k hk) h
/-- What stays anywhere, of any flow; and whether it may be. -/
def excP (n : Nat) (L : List Ed) (f : List Int) : List Int := if fbB L f = true then overL n L f else []
/-- How much is carried, or why none. -/
def zeroB (n : Nat) (L : List Ed) (f : List Int) (s t : Int) : Bool := (List.range n).all fun (v : Nat) => decide ((v : Int) = s) || decide ((v : Int) = t) || decide (exc L f (v : Int) = 0)
def carE (n : Nat) (L : List Ed) (f : List Int) (s t : Int) : Int :=
  if ¬ (0 ≤ s ∧ s < n ∧ 0 ≤ t ∧ t < n) then 4 else if s = t then 6 else if fbB L f = true ∧ 0 ≤ exc L f t ∧ zeroB n L f s t = true then 0 else 14
def carW (n : Nat) (L : List Ed) (f : List Int) (s t : Int) : Int := if carE n L f s t = 0 then exc L f t else 0
def flowE (n : Nat) (L : List Ed) (f : List Int) (s t W : Int) : Int := if carE n L f s t = 0 then (if carW n L f s t = W then 0 else 14) else carE n L f s t
theorem total_tkF {L : List Ed} (h : ∀ e ∈ L, 0 ≤ e.2.2) : ∀ k, 0 ≤ total (L.take k) ∧ total (L.take k) ≤ total L := by
  induction L with
  | nil => simp [total]
  | cons e l ih =>
    intro k
    have h1 : 0 ≤ e.2.2 := h e (by simp)
    have h2 := ih (fun x hx => h x (by simp [hx]))
    cases k with
    | zero =>
      have := h2 l.length
      simp only [List.take_zero, total, List.take_length] at this ⊢
      omega
    | succ k =>
      have := h2 k
      simp only [List.take_succ_cons, total]
      omega
theorem overL_get0 {n : Nat} {L : List Ed} {f : List Int} {v : Nat} (h : v < n) : (overL n L f).getD v 0 = exc L f (v : Int) := by
  unfold overL
  rw [List.getD_eq_getElem?_getD, List.getElem?_map, List.getElem?_range h]; rfl
end Edge
end Go.Proofs.YtjpfmkfikidgkaaGreat

set_option linter.unusedVariables false
set_option linter.unusedSimpArgs false
namespace Go.Proofs.YtjpfmkfikidgkaaGreat
namespace Edge
/-- From v something may go to a vertex. -/
inductive Rch (L : List Ed) (f : List Int) (v : Nat) : Nat → Prop
  | base : Rch L f v v
  | step {u i h : Nat} : Rch L f v u → i < 2 * L.length → tailE L i = (u : Int) → 0 < leftE L f i → headE L i = (h : Int) → Rch L f v h
/-- All these vertices, in order. -/
def IsReach (L : List Ed) (f : List Int) (v : Nat) (l : List Nat) : Prop := (l.Pairwise fun a b => a < b) ∧ ∀ x, x ∈ l ↔ Rch L f v x
theorem reach_one {L : List Ed} {f : List Int} {v : Nat} {l m : List Nat} (hl : IsReach L f v l) (hm : IsReach L f v m) : l = m :=
  ascF_eq (f := fun x => (x : Int)) (hl.1.imp (fun {a b} h => by show (a : Int) < (b : Int); omega)) (hm.1.imp (fun {a b} h => by show (a : Int) < (b : Int); omega)) (fun x => by rw [hl.2, hm.2])
theorem rch_lt {n : Nat} {L : List Ed} {f : List Int} {v x : Nat} (hG : GOk n L) (hv : v < n) (h : Rch L f v x) : x < n := by
  cases h with
  | base => exact hv
  | step h1 h2 h3 h4 h5 =>
    have := head_in hG h2
    omega
theorem nodup_le : ∀ (n : Nat) (l : List Nat), l.Nodup → (∀ x ∈ l, x < n) → l.length ≤ n
  | 0, l, _, h => by
    cases l with
    | nil => simp
    | cons a l => have := h a (by simp); omega
  | n + 1, l, hd, h => by
    by_cases c : n ∈ l
    · have h1 := nodup_le n (l.erase n) (hd.erase n) (fun x hx => by
        rw [hd.mem_erase_iff] at hx
        have := h x hx.2
        omega)
      rw [List.length_erase_of_mem c] at h1
      omega
    · have := nodup_le n l hd (fun x hx => by
        have h1 := h x hx
        have h2 : x ≠ n := fun e => c (e ▸ hx)
        omega)
      omega
/-- The vertices found so far, of which the first i are done. -/
structure RSt (n : Nat) (L : List Ed) (f : List Int) (v : Nat) (O : List Nat) (i : Nat) : Prop where
  nd : O.Nodup
  rc : ∀ x ∈ O, Rch L f v x
  v0 : v ∈ O
  cl : ∀ u ∈ O.take i, ∀ a h : Nat, a < 2 * L.length → tailE L a = (u : Int) → 0 < leftE L f a → headE L a = (h : Int) → h ∈ O
theorem RSt.le {n : Nat} {L : List Ed} {f : List Int} {v : Nat} {O : List Nat} {i : Nat} (h : RSt n L f v O i) (hG : GOk n L) (hv : v < n) : O.length ≤ n := nodup_le n O h.nd (fun x hx => rch_lt hG hv (h.rc x hx))
theorem RSt.start (n : Nat) (L : List Ed) (f : List Int) (v : Nat) : RSt n L f v [v] 0 := ⟨by simp, fun x hx => by simp only [List.mem_singleton] at hx; subst hx; exact .base, by simp, by simp⟩
/-- A new one is found. -/
theorem RSt.more {n : Nat} {L : List Ed} {f : List Int} {v : Nat} {O : List Nat} {i : Nat} (hs : RSt n L f v O i) (hi : i < O.length) {a h : Nat} (ha : a < 2 * L.length) (ht : tailE L a = ((O[i] : Nat) : Int)) (hl : 0 < leftE L f a) (hh : headE L a = (h : Int)) (hn : h ∉ O) : RSt n L f v (O ++ [h]) i := by
  refine ⟨?_, fun x hx => ?_, by simp [hs.v0], fun u hu a' h' h1 h2 h3 h4 => ?_⟩
  · rw [List.nodup_append]
    refine ⟨hs.nd, by simp, ?_⟩
    intro x hx y hy
    rw [List.mem_singleton] at hy
    subst hy
    intro e
    subst e
    exact hn hx
  · rcases List.mem_append.1 hx with hx | hx
    · exact hs.rc x hx
    · rw [List.mem_singleton] at hx
      subst hx
      exact .step (hs.rc _ (List.getElem_mem hi)) ha ht hl hh
  · rw [List.take_append_of_le_length (by omega)] at hu
    exact List.mem_append.2 (.inl (hs.cl u hu a' h' h1 h2 h3 h4))
/-- One vertex is done. -/
theorem RSt.next {n : Nat} {L : List Ed} {f : List Int} {v : Nat} {O : List Nat} {i : Nat} (hs : RSt n L f v O i) (hi : i < O.length) (hd : ∀ a h : Nat, a < 2 * L.length → tailE L a = ((O[i] : Nat) : Int) → 0 < leftE L f a → headE L a = (h : Int) → h ∈ O) : RSt n L f v O (i + 1) := by
  refine ⟨hs.nd, hs.rc, hs.v0, fun u hu => ?_⟩
  rw [List.take_succ_eq_append_getElem hi, List.mem_append, List.mem_singleton] at hu
  rcases hu with hu | rfl
  · exact hs.cl u hu
  · exact hd
/-- All is found. -/
theorem RSt.all {n : Nat} {L : List Ed} {f : List Int} {v : Nat} {O : List Nat} (hs : RSt n L f v O O.length) : ∀ x, x ∈ O ↔ Rch L f v x := by
  intro x
  refine ⟨hs.rc x, fun hr => ?_⟩
  induction hr with
  | base => exact hs.v0
  | step h1 h2 h3 h4 h5 ih => exact hs.cl _ (by rw [List.take_length]; exact ih) _ _ h2 h3 h4 h5
theorem reach_sort {n : Nat} {L : List Ed} {f : List Int} {v : Nat} {O : List Nat} (hs : RSt n L f v O O.length) : ∃ l, IsReach L f v l ∧ l.length = O.length ∧ (ints O).mergeSort (fun x y => decide (x ≤ y)) = ints l := by
  have hp := List.mergeSort_perm (ints O) (fun x y => decide (x ≤ y))
  have hsort := List.pairwise_mergeSort (le := fun (x y : Int) => decide (x ≤ y)) (fun a b c h1 h2 => by simp only [decide_eq_true_eq] at *; omega) (fun a b => by simp only [Bool.or_eq_true, decide_eq_true_eq]; omega) (ints O)
  generalize (ints O).mergeSort (fun x y => decide (x ≤ y)) = S at *
  have hnn : ∀ y ∈ S, 0 ≤ y := fun y hy => by
    rw [hp.mem_iff] at hy
    unfold ints at hy
    obtain ⟨x, _, rfl⟩ := List.mem_map.1 hy
    omega
  have hSl : S = ints (S.map Int.toNat) := by
    unfold ints
    rw [List.map_map]
    conv => lhs; rw [← List.map_id S]
    exact List.map_congr_left (fun y hy => by have := hnn y hy; simp only [id, Function.comp]; omega)
  have hpO : (S.map Int.toNat).Perm O := by
    have h1 := hp.map Int.toNat
    have h2 : (ints O).map Int.toNat = O := by
      unfold ints
      rw [List.map_map]
      conv => rhs; rw [← List.map_id O]
      exact List.map_congr_left (fun y _ => by simp)
    rw [h2] at h1
    exact h1
  refine ⟨S.map Int.toNat, ⟨?_, fun x => by rw [hpO.mem_iff]; exact hs.all x⟩, hpO.length_eq, hSl⟩
  have hnd : (S.map Int.toNat).Nodup := hpO.nodup_iff.2 hs.nd
  have h3 : (S.map Int.toNat).Pairwise fun a b => a ≤ b := by
    rw [List.pairwise_map]
    exact hsort.imp (fun {a b} h => by have : a ≤ b := (by simpa using h); omega)
  exact (h3.and hnd).imp (fun {a b} h => by have := h.1; have := h.2; omega)
/-- Who has been met. -/
def metL (n : Nat) (O : List Nat) : List Bool := (List.range n).map fun x => decide (x ∈ O)
theorem metL_len (n : Nat) (O : List Nat) : (metL n O).length = n := by simp [metL]
theorem metL_get {n : Nat} {O : List Nat} {x : Nat} (h : x < n) : (metL n O)[x]? = some (decide (x ∈ O)) := by
  unfold metL
  rw [List.getElem?_map, List.getElem?_range h]; rfl
theorem metL_nil (n : Nat) : metL n [] = List.replicate n false := by
  apply List.eq_replicate_iff.2 ⟨metL_len _ _, ?_⟩
  intro x hx
  simp only [metL, List.mem_map] at hx
  obtain ⟨v, _, rfl⟩ := hx
  simp
theorem metL_set (n : Nat) (O : List Nat) (h : Nat) : (metL n O).set h true = metL n (O ++ [h]) := by
  apply List.ext_getElem
  · simp [metL]
  intro i g1 g2
  simp only [metL, List.getElem_set, List.getElem_map, List.getElem_range]
  by_cases c : h = i
  · subst c; simp
  · rw [if_neg c]
    have : (i ∈ O ++ [h]) ↔ i ∈ O := by
      rw [List.mem_append, List.mem_singleton]
      exact ⟨fun hh => hh.elim id (fun e => absurd e.symm c), .inl⟩
    simp only [this]
end Edge
end Go.Proofs.YtjpfmkfikidgkaaGreat

set_option linter.unusedVariables false
set_option linter.unusedSimpArgs false
namespace Go.Proofs.YtjpfmkfikidgkaaGreat
open Go.RowKit
namespace Edge
/-- An arc of which something is left leads from u to x. -/
def Arc (L : List Ed) (f : List Int) (u x : Nat) : Prop := ∃ i, i < 2 * L.length ∧ tailE L i = (u : Int) ∧ headE L i = (x : Int) ∧ 0 < leftE L f i
theorem arc_lt {n : Nat} {L : List Ed} {f : List Int} (hG : GOk n L) {u x : Nat} (h : Arc L f u x) : u < n ∧ x < n := by
  obtain ⟨i, hi, ht, hh, _⟩ := h
  have h1 := hG.ends _ (List.getElem_mem (l := L) (n := i / 2) (by omega))
  rw [tailE_get hi] at ht
  rw [headE_get hi] at hh
  split at ht <;> split at hh <;> omega
inductive Wlk (A : Nat → Nat → Prop) : Nat → Nat → Nat → Prop
  | base (u : Nat) : Wlk A u u 0
  | step {u x v k : Nat} : A u x → Wlk A x v k → Wlk A u v (k + 1)
section
variable {n : Nat} {A : Nat → Nat → Prop}
theorem Wlk.snoc {u v x k : Nat} (h : Wlk A u v k) (ha : A v x) : Wlk A u x (k + 1) := by
  induction h with
  | base u => exact .step ha (.base _)
  | step h1 _ ih => exact .step h1 (ih ha)
theorem Wlk.last {u x k : Nat} (h : Wlk A u x (k + 1)) : ∃ v, Wlk A u v k ∧ A v x := by
  generalize hm : k + 1 = m at h
  induction h generalizing k with
  | base u => omega
  | @step u y v j h1 h2 ih =>
    cases j with
    | zero =>
      cases h2
      have : k = 0 := by omega
      subst this
      exact ⟨u, .base _, h1⟩
    | succ j =>
      obtain ⟨z, h3, h4⟩ := ih (k := j) rfl
      have : k = j + 1 := by omega
      subst this
      exact ⟨z, .step h1 h3, h4⟩
theorem Wlk.lt (hA : ∀ {u x}, A u x → u < n ∧ x < n) {u v k : Nat} (h : Wlk A u v k) (hv : v < n) : u < n := by
  cases h with
  | base => exact hv
  | step h1 _ => exact (hA h1).1
/-- d is how far it is from u to v; -1: there is no way. -/
def IsD (A : Nat → Nat → Prop) (u v : Nat) (d : Int) : Prop := (d = -1 ∧ ∀ k, ¬ Wlk A u v k) ∨ ∃ k : Nat, d = k ∧ Wlk A u v k ∧ ∀ j, j < k → ¬ Wlk A u v j
theorem IsD.one {u v : Nat} {d e : Int} (h1 : IsD A u v d) (h2 : IsD A u v e) : d = e := by
  rcases h1 with ⟨rfl, h1⟩ | ⟨k, rfl, h1, h3⟩ <;> rcases h2 with ⟨rfl, h2⟩ | ⟨j, rfl, h2, h4⟩
  · rfl
  · exact absurd h2 (h1 j)
  · exact absurd h1 (h2 k)
  · have a1 := Nat.lt_or_ge k j
    have a2 := Nat.lt_or_ge j k
    rcases a1 with a1 | a1
    · exact absurd h1 (h4 k a1)
    · rcases a2 with a2 | a2
      · exact absurd h2 (h3 j a2)
      · omega
theorem IsD.ge {u v : Nat} {d : Int} (h : IsD A u v d) : -1 ≤ d := by
  rcases h with ⟨rfl, _⟩ | ⟨k, rfl, _⟩ <;> omega
theorem IsD.self (u : Nat) : IsD A u u 0 := .inr ⟨0, rfl, .base _, fun j hj => by omega⟩
/-- The levels towards t. -/
def LevTo (n : Nat) (A : Nat → Nat → Prop) (t : Nat) (D : List Int) : Prop := D.length = n ∧ ∀ u, u < n → IsD A u t (D.getD u 0)
theorem LevTo.one {t : Nat} {D E : List Int} (h1 : LevTo n A t D) (h2 : LevTo n A t E) : D = E := by
  refine List.ext_getElem (by rw [h1.1, h2.1]) (fun i a1 a2 => ?_)
  have h := (h1.2 i (by rw [← h1.1]; exact a1)).one (h2.2 i (by rw [← h1.1]; exact a1))
  rw [List.getD_eq_getElem?_getD, List.getD_eq_getElem?_getD, List.getElem?_eq_getElem a1, List.getElem?_eq_getElem a2] at h
  exact h
/-- Along an arc it falls by one at most. -/
theorem IsD.arc {u x t : Nat} {d e : Int} (ha : A u x) (h1 : IsD A u t d) (h2 : IsD A x t e) (he : 0 ≤ e) : 0 ≤ d ∧ d ≤ e + 1 := by
  rcases h2 with ⟨rfl, _⟩ | ⟨k, rfl, h3, h4⟩
  · omega
  · rcases h1 with ⟨rfl, h1⟩ | ⟨j, rfl, h5, h6⟩
    · exact absurd (Wlk.step ha h3) (h1 _)
    · have : j ≤ k + 1 := by
        rcases Nat.lt_or_ge (k + 1) j with h | h
        · exact absurd (Wlk.step ha h3) (h6 _ h)
        · exact h
      omega
/-- Where it is far, an arc leads nearer. -/
theorem IsD.next {u t : Nat} {d : Int} (h1 : IsD A u t d) (hd : 0 < d) : ∃ x, A u x ∧ IsD A x t (d - 1) := by
  rcases h1 with ⟨rfl, _⟩ | ⟨k, rfl, h3, h4⟩
  · omega
  · cases h3 with
    | base => omega
    | @step _ x _ j ha h5 =>
      refine ⟨x, ha, .inr ⟨j, by omega, h5, fun i hi hw => h4 (i + 1) (by omega) (.step ha hw)⟩⟩
theorem IsD.zero {u t : Nat} (h : IsD A u t 0) : u = t := by
  rcases h with ⟨h, _⟩ | ⟨k, hk, h3, _⟩
  · omega
  · have : k = 0 := by omega
    subst this
    cases h3; rfl
/-- It is never as far as there are vertices. -/
theorem IsD.few (hA : ∀ {u x}, A u x → u < n ∧ x < n) {t : Nat} (ht : t < n) : ∀ (k : Nat) (u : Nat), IsD A u t (k : Int) → ∃ l : List Nat, l.length = k + 1 ∧ l.Nodup ∧ ∀ x ∈ l, x < n ∧ ∃ j : Nat, j ≤ k ∧ IsD A x t (j : Int)
  | 0, u, h => ⟨[u], rfl, by simp, fun x hx => by
      rw [List.mem_singleton] at hx
      subst hx
      refine ⟨?_, 0, Nat.le_refl _, h⟩
      have := IsD.zero h
      omega⟩
  | k + 1, u, h => by
    obtain ⟨x, ha, hx⟩ := h.next (by omega)
    have e : ((k + 1 : Nat) : Int) - 1 = (k : Int) := by omega
    rw [e] at hx
    obtain ⟨l, h1, h2, h3⟩ := IsD.few hA ht k x hx
    refine ⟨u :: l, by simp [h1], List.nodup_cons.2 ⟨fun hu => ?_, h2⟩, fun y hy => ?_⟩
    · obtain ⟨_, j, hj, hd⟩ := h3 u hu
      have := hd.one h
      omega
    · rcases List.mem_cons.1 hy with rfl | hy
      · exact ⟨(hA ha).1, k + 1, Nat.le_refl _, h⟩
      · obtain ⟨a, j, hj, hd⟩ := h3 y hy
        exact ⟨a, j, by omega, hd⟩
theorem IsD.lt (hA : ∀ {u x}, A u x → u < n ∧ x < n) {t u : Nat} (ht : t < n) {d : Int} (h : IsD A u t d) : d < n := by
  have hge := h.ge
  rcases Int.lt_or_le (-1) d with h0 | h0
  · obtain ⟨k, rfl⟩ : ∃ k : Nat, d = k := ⟨d.toNat, by omega⟩
    obtain ⟨l, h1, h2, h3⟩ := IsD.few hA ht k u h
    have := nodup_le n l h2 (fun x hx => (h3 x hx).1)
    omega
  · omega
/-- The search towards t, in the round d: now (of which i are done) are the vertices that are d - 1 far, next those that are known to be d far. -/
structure BSt (n : Nat) (A : Nat → Nat → Prop) (t : Nat) (O : List Int) (d : Nat) (now : List Nat) (i : Nat) (next : List Nat) : Prop where
  len : O.length = n
  val : ∀ u, u < n → O.getD u 0 = -1 ∨ (IsD A u t (O.getD u 0) ∧ 0 ≤ O.getD u 0 ∧ O.getD u 0 ≤ d)
  all : ∀ u k, k + 1 ≤ d → Wlk A u t k → O.getD u 0 ≠ -1
  nowI : ∀ u, u < n → (O.getD u 0 + 1 = d ↔ u ∈ now)
  nowl : ∀ u ∈ now, u < n
  nextI : ∀ u, u < n → (O.getD u 0 = d ↔ u ∈ next)
  nextl : ∀ u ∈ next, u < n
  nd : next.Nodup
  seenI : ∀ j (hj : j < now.length), j < i → ∀ u, A u now[j] → O.getD u 0 ≠ -1
theorem getD_set5 (O : List Int) (u : Nat) (x : Int) (hu : u < O.length) (v : Nat) : (O.set u x).getD v 0 = if v = u then x else O.getD v 0 := by
  simp only [List.getD_eq_getElem?_getD, List.getElem?_set]
  by_cases h : v = u
  · subst h; simp [hu]
  · rw [if_neg (fun e => h e.symm), if_neg h]
/-- A vertex is found. -/
theorem BSt.see {t : Nat} {O : List Int} {d i u : Nat} {now next : List Nat} (h : BSt n A t O d now i next) (hd : 1 ≤ d) (hi : i < now.length) (ha : A u now[i]) (hu : u < n) (h0 : O.getD u 0 = -1) : BSt n A t (O.set u (d : Int)) d now i (next ++ [u]) := by
  have hul : u < O.length := by rw [h.len]; exact hu
  have hx := h.nowl _ (List.getElem_mem hi)
  have hv := (h.nowI _ hx).2 (List.getElem_mem hi)
  have hdx : IsD A now[i] t (O.getD now[i] 0) := by
    rcases h.val _ hx with h1 | h1
    · omega
    · exact h1.1
  have hdu : IsD A u t (d : Int) := by
    rcases hdx with ⟨h1, _⟩ | ⟨k, hk, h1, _⟩
    · omega
    · refine .inr ⟨d, rfl, ?_, fun j hj hw => h.all u j (by omega) hw h0⟩
      have : d = k + 1 := by omega
      rw [this]
      exact .step ha h1
  refine ⟨by simp [h.len], fun v hv => ?_, fun v k hk hw => ?_, fun v hv => ?_, h.nowl, fun v hv => ?_, fun v hv => ?_, ?_, fun j hj hji v hav => ?_⟩
  · rw [getD_set5 O u _ hul]
    by_cases e : v = u
    · rw [if_pos e]; subst e; exact .inr ⟨hdu, by omega, Int.le_refl _⟩
    · rw [if_neg e]; exact h.val v hv
  · rw [getD_set5 O u _ hul]
    split
    · omega
    · exact h.all v k hk hw
  · rw [getD_set5 O u _ hul]
    by_cases e : v = u
    · rw [if_pos e]; subst e
      have := (h.nowI v hv)
      constructor
      · intro c; omega
      · intro c; have := this.2 c; omega
    · rw [if_neg e]; exact h.nowI v hv
  · rw [getD_set5 O u _ hul, List.mem_append, List.mem_singleton]
    by_cases e : v = u
    · rw [if_pos e]; exact ⟨fun _ => .inr e, fun _ => rfl⟩
    · rw [if_neg e]; exact ⟨fun c => .inl ((h.nextI v hv).1 c), fun c => c.elim (fun c => (h.nextI v hv).2 c) (fun c => absurd c e)⟩
  · rcases List.mem_append.1 hv with hv | hv
    · exact h.nextl v hv
    · rw [List.mem_singleton] at hv; omega
  · rw [List.nodup_append]
    refine ⟨h.nd, by simp, fun y hy b hb => ?_⟩
    rw [List.mem_singleton] at hb
    intro e
    have := (h.nextI _ hu).2 (hb ▸ e ▸ hy)
    omega
  · rw [getD_set5 O u _ hul]
    split
    · omega
    · exact h.seenI j hj hji v hav
/-- All that leads to a vertex is seen. -/
theorem BSt.seen {t : Nat} {O : List Int} {d i : Nat} {now next : List Nat} (h : BSt n A t O d now i next) (hi : i < now.length) (ha : ∀ u, A u now[i] → O.getD u 0 ≠ -1) : BSt n A t O d now (i + 1) next :=
  { h with
    seenI := fun j hj hji u hu => by
      rcases Nat.lt_or_ge j i with c | c
      · exact h.seenI j hj c u hu
      · have : j = i := by omega
        subst this
        exact ha u hu }
/-- The next round. -/
theorem BSt.turn {t : Nat} {O : List Int} {d : Nat} {now next : List Nat} (hA : ∀ {u x}, A u x → u < n ∧ x < n) (ht : t < n) (h : BSt n A t O d now now.length next) (hd : 1 ≤ d) : BSt n A t O (d + 1) next 0 [] := by
  refine ⟨h.len, fun u hu => ?_, fun u k hk hw => ?_, fun u hu => ?_, h.nextl, fun u hu => ?_, by simp, by simp, fun j hj hji => by omega⟩
  · rcases h.val u hu with h1 | ⟨h1, h2, h3⟩
    · exact .inl h1
    · exact .inr ⟨h1, h2, by omega⟩
  · rcases Nat.lt_or_ge k d with c | c
    · exact h.all u k (by omega) hw
    · have e : k = d := by omega
      subst e
      cases hw with
      | base => exact h.all _ 0 (by omega) (.base _)
      | @step _ x _ j ha hw =>
        have hx := (hA ha).2
        have h1 := h.all x j (by omega) hw
        rcases h.val x hx with h2 | ⟨h2, h3, h4⟩
        · exact absurd h2 h1
        · by_cases e : O.getD x 0 + 1 = (j + 1 : Nat)
          · obtain ⟨q, hq, hqe⟩ := List.getElem_of_mem ((h.nowI x hx).1 e)
            exact h.seenI q hq hq u (by rw [hqe]; exact ha)
          · rcases h2 with ⟨h2, _⟩ | ⟨q, hq, h5, h6⟩
            · exact absurd h2 h1
            · have : q ≤ j := by
                rcases Nat.lt_or_ge j q with c | c
                · exact absurd hw (h6 j c)
                · exact c
              exact h.all u (q + 1) (by omega) (.step ha h5)
  · rw [← h.nextI u hu]; omega
  · constructor
    · intro c
      rcases h.val u hu with h1 | ⟨h1, h2, h3⟩ <;> omega
    · simp
/-- There is nothing more. -/
theorem BSt.over {t : Nat} {O : List Int} {d : Nat} (hA : ∀ {u x}, A u x → u < n ∧ x < n) (ht : t < n) (h : BSt n A t O d [] 0 []) (hd : 1 ≤ d) : LevTo n A t O := by
  refine ⟨h.len, fun u hu => ?_⟩
  rcases h.val u hu with h1 | h1
  · refine .inl ⟨h1, fun k hw => ?_⟩
    have : ∀ (k u : Nat), Wlk A u t k → O.getD u 0 ≠ -1 := by
      intro k
      induction k with
      | zero => intro u hw; exact h.all u 0 (by omega) hw
      | succ k ih =>
        intro u hw
        cases hw with
        | @step _ x _ _ ha hw =>
          have hx := (hA ha).2
          have h2 := ih x hw
          rcases h.val x hx with h3 | ⟨h3, h4, h5⟩
          · exact absurd h3 h2
          · have n1 : ¬ (O.getD x 0 + 1 = d) := fun c => by have := (h.nowI x hx).1 c; simp at this
            have n2 : ¬ (O.getD x 0 = d) := fun c => by have := (h.nextI x hx).1 c; simp at this
            rcases h3 with ⟨h3, _⟩ | ⟨q, hq, h6, _⟩
            · exact absurd h3 h2
            · exact h.all u (q + 1) (by omega) (.step ha h6)
    exact this k u hw h1
  · exact h1.1
/-- At first. -/
theorem BSt.start {t : Nat} (ht : t < n) : BSt n A t ((List.replicate n (-1)).set t 0) 1 [t] 0 [] := by
  have hr : ∀ v, v < n → (List.replicate n (-1 : Int)).getD v 0 = -1 := fun v hv => by
    rw [List.getD_eq_getElem?_getD, List.getElem?_replicate, if_pos hv]; rfl
  have hg : ∀ v, v < n → ((List.replicate n (-1 : Int)).set t 0).getD v 0 = if v = t then 0 else -1 := fun v hv => by
    rw [getD_set5 _ _ _ (by simpa using ht), hr v hv]
  refine ⟨by simp, fun u hu => ?_, fun u k hk hw => ?_, fun u hu => ?_, fun u hu => ?_, fun u hu => ?_, by simp, by simp, fun j hj hji => by omega⟩
  · rw [hg u hu]
    by_cases e : u = t
    · rw [if_pos e]; subst e; exact .inr ⟨IsD.self _, by omega, by omega⟩
    · rw [if_neg e]; exact .inl rfl
  · have : k = 0 := by omega
    subst this
    cases hw
    rw [hg _ ht, if_pos rfl]; omega
  · rw [hg u hu, List.mem_singleton]
    by_cases e : u = t
    · rw [if_pos e]; simp [e]
    · rw [if_neg e]; constructor
      · intro c; simp at c
      · intro c; exact absurd c e
  · rw [List.mem_singleton] at hu; omega
  · rw [hg u hu]
    constructor
    · intro c; split at c <;> omega
    · simp
theorem BSt.dle (hA : ∀ {u x}, A u x → u < n ∧ x < n) {t : Nat} (ht : t < n) {O : List Int} {d i : Nat} {now next : List Nat} (h : BSt n A t O d now i next) (hne : now ≠ []) : d ≤ n := by
  obtain ⟨x, hx⟩ := List.exists_mem_of_ne_nil _ hne
  have hl := h.nowl x hx
  have h1 := (h.nowI x hl).2 hx
  rcases h.val x hl with h2 | ⟨h2, _⟩
  · have : (0 : Int) ≤ n := by omega
    omega
  · have := h2.lt hA ht
    omega
/-- Levels told by what holds at each vertex. -/
theorem lev_of {t : Nat} {D : List Int} (hl : D.length = n) (h0 : ∀ u, u < n → -1 ≤ D.getD u 0) (ht : t < n) (hz : ∀ u, u < n → (D.getD u 0 = 0 ↔ u = t)) (hA : ∀ {u x}, A u x → u < n ∧ x < n)
    (h1 : ∀ u x, A u x → 0 ≤ D.getD x 0 → 0 ≤ D.getD u 0 ∧ D.getD u 0 ≤ D.getD x 0 + 1) (h2 : ∀ u, u < n → 0 < D.getD u 0 → ∃ x, A u x ∧ D.getD x 0 = D.getD u 0 - 1) : LevTo n A t D := by
  have hw : ∀ (k u : Nat), Wlk A u t k → 0 ≤ D.getD u 0 ∧ D.getD u 0 ≤ k := by
    intro k
    induction k with
    | zero =>
      intro u hw
      cases hw
      have := (hz t ht).2 rfl
      omega
    | succ k ih =>
      intro u hw
      cases hw with
      | @step _ x _ _ ha hw =>
        have h3 := ih x hw
        have h4 := h1 u x ha h3.1
        omega
  have hx : ∀ (k u : Nat), u < n → D.getD u 0 = k → Wlk A u t k := by
    intro k
    induction k with
    | zero =>
      intro u hu he
      have := (hz u hu).1 (by omega)
      subst this
      exact .base _
    | succ k ih =>
      intro u hu he
      obtain ⟨x, ha, hd⟩ := h2 u hu (by omega)
      exact .step ha (ih x (hA ha).2 (by omega))
  refine ⟨hl, fun u hu => ?_⟩
  have := h0 u hu
  by_cases hc : D.getD u 0 = -1
  · exact .inl ⟨hc, fun k hk => by have := hw k u hk; omega⟩
  · obtain ⟨k, hk⟩ : ∃ k : Nat, D.getD u 0 = k := ⟨(D.getD u 0).toNat, by omega⟩
    exact .inr ⟨k, hk, hx k u hu hk, fun j hj hwj => by have := hw j u hwj; omega⟩
end
end Edge
end Go.Proofs.YtjpfmkfikidgkaaGreat

set_option linter.unusedVariables false
set_option linter.unusedSimpArgs false
namespace Go.Proofs.YtjpfmkfikidgkaaGreat
open Go.RowKit
namespace Edge
theorem infoB5 : (Tryz.prog.info? 4).map (fun i => (i.zero, i.size, i.bytes)) = some (some (.bool false), 1, 1) := by kernel_rfl
theorem infoI5 : (Tryz.prog.info? 3).map (fun i => (i.zero, i.size, i.bytes)) = some (some (.int .i64 0), 1, 8) := by kernel_rfl
def boolV (l : List Bool) : List Value := l.map Value.bool
theorem boolV_got {l : List Bool} {i : Nat} {b : Bool} (h : l[i]? = some b) : (boolV l)[i]? = some (.bool b) := by simp [boolV, h]
theorem boolV_set (l : List Bool) (i : Nat) (b : Bool) : (boolV l).set i (.bool b) = boolV (l.set i b) := by simp [boolV, List.map_set]
theorem boolV_none (n : Nat) : boolV (List.replicate n false) = List.replicate n (.bool false) := by simp [boolV]
theorem lit_made (w : World) (e : Nat) (v : Value) : Made w (w.alloc (.cells #[v] e)) e 1 (some ⟨w.heap.size, 0, none⟩) 1 1 [v] := by
  have := made_made w e v 1 (by omega)
  rw [made_list] at this
  exact this
section
variable {w : World} {r ba n : Nat} {L : List Ed} {f : List Int} {F F2 : List Nat}
set_option maxRecDepth 100000 in
set_option maxHeartbeats 4000000 in
theorem rreach_p (h : RestP r ba n L f w F) (hA : ArcP ba n L w F2) (hG : GOk n L) {v : Nat} (hv : v < n) :
    Calls Tryz.prog 110 #[.pointer (some ⟨r, 0, none⟩), .int .i64 (v : Int)] w fun e w' => ∃ l a c, IsReach L f v l ∧ e = .returned (.slice a l.length c) ∧ Made w w' 3 1 a l.length c (i64s (ints l)) := by
  have ca := Lib.hid (rarcs_p h)
  have cn := Lib.hid (an_p hA hG)
  have hn4 : n ≤ 4096 := hG.le
  obtain ⟨gl, go, hr⟩ := h.rd
  obtain ⟨N2, hN2⟩ : ∃ N2, 2 * L.length = N2 := ⟨_, rfl⟩
  have hN2b : N2 ≤ 2097152 := by have := hG.len; omega
  have hb0 := Lib.hid (fun W (m : Mod [] w W) => (hr.hb.keep m (by simp)).cell 0 rfl)
  have hb1 := Lib.hid (fun W (m : Mod [] w W) => (hr.hb.keep m (by simp)).cell 1 rfl)
  have hleft := Lib.hid (fun W (m : Mod [] w W) (k : Nat) (hk : k < N2) => show W.cell? ⟨gl, k, none⟩ = some (.int .i64 (leftE L f k)) by
    have := (own_keep hr.left m (by simp)).cellAt k (by omega)
    rw [i64s_got (leftL_get (by omega))] at this
    exact this)
  have b0 := hr.hb.cell 0 rfl
  have bl := hr.hb.lt
  have gll : gl < w.heap.size := own_lt hr.left (g := gl) rfl
  have hcall := Lib.hid (fun W (m : Mod [] w W) (u : Nat) (hu : u < n) => show Calls Tryz.prog 75 #[.pointer (some ⟨ba, 0, none⟩), .int .i64 (u : Int)] W fun e w' => ∃ a c, e = .returned (.slice a (ofS n L u).length c) ∧ Made W w' 3 1 a (ofS n L u).length c (i64s (ints (ofS n L u))) by
    have h1 := aout_p (Good.keep hA m (by simp)) hG (u : Int)
    have e : outI n L (u : Int) = ints (ofS n L u) := by unfold outI; rw [if_pos (by omega), Int.toNat_natCast]
    rw [e, ints_len] at h1
    exact h1)
  have hhead := Lib.hid (fun W (m : Mod [] w W) (k : Nat) => show Calls Tryz.prog 39 #[.pointer (some ⟨ba, 0, none⟩), .int .i64 (k : Int)] W fun e w' => e = .returned (.int .i64 (headE L k)) ∧ w' = W by
    have h1 := ahead_p (Good.keep hA m (by simp)) hG (k : Int)
    have e : headI L (k : Int) = headE L k := by unfold headI; rw [if_neg (by omega), Int.toNat_natCast]
    rw [e] at h1
    exact h1)
  have hmk := make_run (P := Tryz.prog) 211 4 (.bool false) 1 Tryz.underlying211 infoB5 rfl (by omega) n (by omega)
  have hst : Hid (Sep w (w.alloc (.cells (madeCells #[.bool false] n) 4)) [Row 4 1 n (.slice (some ⟨w.heap.size, 0, none⟩) n n) (boolV (metL n []))]) := Lib.hid (by
    have h5 := (Sep.empty w).made (made_made w 4 (.bool false) n (by omega))
    rw [metL_nil, boolV_none]
    exact h5)
  have hG' := Lib.hid hG
  rw [hN2] at hb1
  have hN2' := Lib.hid hN2
  have hvl : (v : Int) < n := by omega
  have t1 : decide ((n : Int) ≤ (v : Int)) = false := by simp; omega
  have t2 : decide ((v : Int) < 0) = false := by simp
  clear h hA hr hG hN2
  go_enter Tryz.func110, Tryz.ntmps110
  go_upto_region 4 with (first
    | (go_at_call 23; refine ca.out.mono ?_; rintro e w1 ⟨rfl, hw1⟩; subst w1)
    | (go_at_call 105; refine cn.out.mono ?_; rintro e w1 ⟨rfl, hw1⟩; subst w1))
  clear hmk b0
  have hgg := (hst.out.rowAt 0 rfl).frozenAt v
  have hgc : ∃ u, (w.alloc (.cells (madeCells #[.bool false] n) 4)).cell? ⟨w.heap.size, v, none⟩ = some u := by
    have h1 := (hst.out.rowAt 0 rfl).cellAt v (by omega)
    rw [boolV_got (metL_get hv)] at h1
    exact ⟨_, h1⟩
  have hgl : w.heap.size < (w.alloc (.cells (madeCells #[.bool false] n) 4)).heap.size := own_lt (hst.out.rowAt 0 rfl) (g := w.heap.size) rfl
  have hst2 := Lib.hid (by
    have h5 := hst.out.rowsetAt 0 rfl v (.bool true)
    rw [boolV_set, metL_set] at h5
    exact (h5.made (lit_made _ 3 (.int .i64 (v : Int)))).swap)
  obtain ⟨u0, hgc⟩ := hgc
  clear hst
  have hrlt := Lib.hid (fun W (m : Mod [] w W) => Nat.lt_of_lt_of_le bl m.size)
  have hglt := Lib.hid (fun W (m : Mod [] w W) => Nat.lt_of_lt_of_le gll m.size)
  generalize w.alloc (.cells (madeCells #[.bool false] n) 4) = w1 at *
  generalize w.heap.size = g at *
  go_wp2_with fail
  have hst3 : Hid (Sep w ((w1.setCell ⟨g, v, none⟩ (.bool true)).alloc (.cells #[.int .i64 (v : Int)] 3)) [Row 4 1 n (.slice (some ⟨g, 0, none⟩) n n) (boolV (metL n [v])), Row 3 1 1 (.slice (some ⟨w1.heap.size, 0, none⟩) 1 1) (i64s (ints [v]))]) := Lib.hid (by
    have h5 := hst2.out
    simp only [World.setCell, Array.size_modify] at h5 ⊢
    exact h5)
  clear hst2 hgc hgg hgl gll bl
  go_loopw [6, 7] (fun s6 s7 wr => ∃ (O : List Nat) (m i : Nat) (a : Option Addr) (c : Nat), Hid (O.length = m) ∧ Hid (RSt n L f v O i) ∧ i ≤ m ∧ m ≤ n ∧ s6 = .slice a m c ∧ s7 = .int .i64 i ∧ Hid (Sep w wr [Row 4 1 n (.slice (some ⟨g, 0, none⟩) n n) (boolV (metL n O)), Row 3 1 m (.slice a m c) (i64s (ints O))])) (fun _ s7 _ => n - (intOf s7).toNat)
  case atStart => exact ⟨[v], 1, 0, _, _, Lib.hid rfl, Lib.hid (RSt.start n L f v), by omega, by omega, rfl, rfl, hst3⟩
  case round =>
    clear hst3
    obtain ⟨O, m, i, a, c, hOm, hRs, him, hmn, rfl, rfl, hS⟩ := hrel
    by_cases hlt : i < m
    · have hlt1 : (i : Int) < m := by omega
      have hiO : i < O.length := by rw [hOm.out]; exact hlt
      obtain ⟨u, hu⟩ : ∃ u, O[i] = u := ⟨_, rfl⟩
      have hun : u < n := hu ▸ rch_lt hG'.out hv (hRs.out.rc _ (List.getElem_mem hiO))
      have hui := Lib.hid (show O[i]? = some u by rw [List.getElem?_eq_getElem hiO, hu])
      obtain ⟨go2, rfl, hgo2, _, hcell⟩ := row_form (hS.out.rowAt 1 rfl) (by omega)
      have cO := hcell i (.int .i64 (u : Int)) (by
        have : (ints O)[i]? = some (u : Int) := by unfold ints; rw [List.getElem?_map, hui.out]; rfl
        exact i64s_got this)
      have fO : ∀ m : Fut (Mod []) wr.drew, m.v.cell? ⟨go2, i, none⟩ = some (.int .i64 (u : Int)) := fun m' => by
        have h5 := hS.out.still ((Mod.refl [] wr).drew.trans m'.of (by simp))
        obtain ⟨g', e', _, _, hc'⟩ := row_form (h5.rowAt 1 rfl) (by omega)
        injection e' with e'; injection e' with e'; subst e'
        refine hc' i _ ?_
        have : (ints O)[i]? = some (u : Int) := by unfold ints; rw [List.getElem?_map, hui.out]; rfl
        exact i64s_got this
      have f0 : ∀ m : Fut (Mod []) wr.drew, m.v.cell? ⟨r, 0, none⟩ = some (.pointer (some ⟨ba, 0, none⟩)) := fun m' => hb0.out _ (hS.out.mod.trans ((Mod.refl [] wr).drew.trans m'.of (by simp)) (by simp))
      have c0 := f0 ⟨_, Mod.refl _ _⟩
      have cc := Lib.hid (hcall.out wr.drew hS.out.mod.drew u hun)
      obtain ⟨K, hK⟩ : ∃ K, (ofS n L u).length = K := ⟨_, rfl⟩
      rw [hK] at cc
      have hK' := Lib.hid hK
      have hKb : K ≤ 2097152 := by
        have h5 := ofU_le L (2 * L.length) u
        have h6 := ofS_len hG'.out u
        have h7 := hN2'.out
        unfold cntE at h6
        omega
      have hrl : r < wr.heap.size := hrlt.out _ hS.out.mod
      clear hK hu hiO hcell
      go_upto_region 9 with fail
      refine region_sched (G := Mod []) [([0,1,2,3,4,5,6,7,10],8)] [9] (by kernel_rfl) (by kernel_rfl) (by kernel_rfl) rfl (Mod.refl _) (fun _ _ _ h1 h2 => h1.trans h2 (by simp)) ?_
      simp only [stages, pickO, nthO, headO, List.append_eq, List.cons_append, List.nil_append]
      refine sched_step ?_
      repeat (go_big_quiet_step (fail))
      refine wpQuiet_nil ?_
      intro K1 hK1
      rw [if_pos (by rfl)]
      go_simp
      refine cc.out.mono ?_
      rintro e w2 ⟨a2, c2, rfl, hm2⟩
      have hS2 := Lib.hid ((hS.out.still (Mod.refl [] wr).drew).made hm2)
      have hm2' := hm2.mod
      clear hm2 hS
      try dsimp only
      refine hK1.out _ _ hm2' ?_
      clear hK1 K1 hm2' f0 fO c0 cO
      refine sched_last ?_
      repeat (go_big_quiet_step (fail))
      refine wpQuiet_nil ?_
      go_wp2_with fail
      have hS3 := Lib.hid (hS2.out.back2)
      clear hS2
      generalize hwx : wr.drew = wx at *
      clear hwx
      go_loopw [6, 47] (fun s6 s47 wq => ∃ (O : List Nat) (m j : Nat) (a : Option Addr) (c : Nat), Hid (O.length = m) ∧ Hid (RSt n L f v O i) ∧ Hid (O[i]? = some u) ∧ Hid (∀ x ∈ (ofS n L u).take j, 0 < leftE L f x → ∀ hd : Nat, headE L x = (hd : Int) → hd ∈ O) ∧ j ≤ K ∧ i < m ∧ m ≤ n ∧ s6 = .slice a m c ∧ s47 = .int .i64 j ∧ Hid (Sep w wq [Row 4 1 n (.slice (some ⟨g, 0, none⟩) n n) (boolV (metL n O)), Row 3 1 m (.slice a m c) (i64s (ints O)), Row 3 1 K (.slice a2 K c2) (i64s (ints (ofS n L u)))])) (fun _ s47 _ => K - (intOf s47).toNat)
      case atStart => exact ⟨O, m, 0, _, c, hOm, hRs, hui, Lib.hid (by simp), by omega, hlt, hmn, rfl, rfl, hS3⟩
      case round =>
        clear hS3 hOm hRs hui
        obtain ⟨O, m, j, a, c, hOm, hRs, hui, hdn, hjK, him, hmn, rfl, rfl, hS⟩ := hrel
        by_cases hlj : j < K
        · have hlj1 : (j : Int) < K := by omega
          obtain ⟨x, hx⟩ : ∃ x, (ofS n L u)[j]? = some x := ⟨_, List.getElem?_eq_getElem (by rw [hK'.out]; exact hlj)⟩
          have hxm := (mem_ofS hG'.out (v := u)).1 (List.mem_of_getElem? hx)
          have hxN : x < N2 := by have := hN2'.out; omega
          obtain ⟨hd, hhd⟩ := Int.eq_ofNat_of_zero_le (head_in hG'.out hxm.1).1
          have hdn1 : hd < n := by have := (head_in hG'.out hxm.1).2; omega
          obtain ⟨ga, rfl, hga, _, hcell⟩ := row_form (hS.out.rowAt 2 rfl) (by omega)
          have cX := hcell j (.int .i64 (x : Int)) (by
            have : (ints (ofS n L u))[j]? = some (x : Int) := by unfold ints; rw [List.getElem?_map, hx]; rfl
            exact i64s_got this)
          have hx' := Lib.hid hx
          have hxm' := Lib.hid hxm
          have hhd' := Lib.hid hhd
          have c0 := hb0.out _ hS.out.mod
          have c1 := hb1.out _ hS.out.mod
          have cl := hleft.out _ hS.out.mod x hxN
          have l1 := hrlt.out _ hS.out.mod
          have l2 := hglt.out _ hS.out.mod
          have chd := Lib.hid (hhead.out _ hS.out.mod x)
          rw [hhd] at chd
          have cm : wr.cell? ⟨g, hd, none⟩ = some (.bool (decide (hd ∈ O))) := by
            have h1 := (hS.out.rowAt 0 rfl).cellAt hd (by omega)
            rw [boolV_got (metL_get hdn1)] at h1
            exact h1
          have fm := (hS.out.rowAt 0 rfl).frozenAt hd
          have lg : g < wr.heap.size := own_lt (hS.out.rowAt 0 rfl) (g := g) rfl
          have hdl : (hd : Int) < n := by omega
          have hxl : (x : Int) < N2 := by omega
          have htk : (ofS n L u).take (j + 1) = (ofS n L u).take j ++ [x] := by rw [List.take_add_one, hx]; rfl
          have htk' := Lib.hid htk
          clear hx hxm hhd hcell htk
          by_cases hle : 0 < leftE L f x
          · by_cases hmet : hd ∈ O
            · have hnew := Lib.hid (show ∀ y ∈ (ofS n L u).take (j + 1), 0 < leftE L f y → ∀ hd : Nat, headE L y = (hd : Int) → hd ∈ O by
                intro y hy h1 hd2 h2
                rw [htk'.out, List.mem_append, List.mem_singleton] at hy
                rcases hy with hy | rfl
                · exact hdn.out y hy h1 hd2 h2
                · rw [hhd'.out] at h2
                  have : hd = hd2 := by omega
                  subst this
                  exact hmet)
              have hmt : decide (hd ∈ O) = true := by simpa using hmet
              rw [hmt] at cm
              clear hmt hmet
              generalize leftE L f x = z at *
              go_wp2_with (go_at_call 39; refine chd.out.mono ?_; rintro e w1 ⟨rfl, hw1⟩; subst w1)
              go_roundw
              case rel => exact ⟨O, m, j + 1, a, c, hOm, hRs, hui, hnew, by omega, him, hmn, rfl, by go_num, hS⟩
              case measure => simp [intOf]; omega
            · have hmt : decide (hd ∈ O) = false := by simpa using hmet
              rw [hmt] at cm
              have hiO : i < O.length := by rw [hOm.out]; exact him
              have hmore := Lib.hid (RSt.more hRs.out hiO (hxm'.out.1) (by rw [hxm'.out.2]; have := hui.out; rw [List.getElem?_eq_getElem hiO] at this; injection this with this; rw [this]) hle hhd'.out hmet)
              have hlen2 := Lib.hid (show (O ++ [hd]).length = m + 1 by rw [List.length_append, hOm.out]; rfl)
              have hmn2 : m + 1 ≤ n := by rw [← hlen2.out]; exact hmore.out.le hG'.out hv
              have hui2 := Lib.hid (show (O ++ [hd])[i]? = some u by rw [List.getElem?_append_left hiO]; exact hui.out)
              have hnew := Lib.hid (show ∀ y ∈ (ofS n L u).take (j + 1), 0 < leftE L f y → ∀ h2 : Nat, headE L y = (h2 : Int) → h2 ∈ O ++ [hd] by
                intro y hy h1 hd2 h2
                rw [htk'.out, List.mem_append, List.mem_singleton] at hy
                rw [List.mem_append, List.mem_singleton]
                rcases hy with hy | rfl
                · exact .inl (hdn.out y hy h1 hd2 h2)
                · rw [hhd'.out] at h2
                  exact .inr (by omega))
              have hS6 := Lib.hid (by
                have h5 := hS.out.rowsetAt 0 rfl hd (.bool true)
                rw [boolV_set, metL_set] at h5
                exact h5)
              have hgr := Lib.hid (show ∀ (a1 : Option Addr) (c1 : Nat) (w6 : World), w6.ownsRow 0 3 1 (.slice a1 (m + 1) c1) (m + 1) (i64s (ints O) ++ [.int .i64 (hd : Int)]) → Mod (Value.slice a m c).ownBlock.toList (wr.setCell ⟨g, hd, none⟩ (.bool true)) w6 → ((Value.slice a1 (m + 1) c1).ownBlock = (Value.slice a m c).ownBlock ∨ ∃ b, (Value.slice a1 (m + 1) c1).ownBlock = some b ∧ (wr.setCell ⟨g, hd, none⟩ (.bool true)).heap.size ≤ b) →
                  Sep w w6 [Row 4 1 n (.slice (some ⟨g, 0, none⟩) n n) (boolV (metL n (O ++ [hd]))), Row 3 1 (m + 1) (.slice a1 (m + 1) c1) (i64s (ints (O ++ [hd]))), Row 3 1 K (.slice (some ⟨ga, 0, none⟩) K c2) (i64s (ints (ofS n L u)))] by
                intro a1 c1 w6 h1 h2 h3
                rw [← ints_snoc] at h1
                exact hS6.out.growAt 1 rfl h1 h2 h3)
              clear hmt hmet hiO
              generalize leftE L f x = z at *
              go_wp2_with (first
                | (go_at_call 39; refine chd.out.mono ?_; rintro e w1 ⟨rfl, hw1⟩; subst w1)
                | (at_builtin; refine app_own rfl (.tmp 75) (.tmp 77) 51 3 _ 1 8 rfl Tryz.underlying51 infoI5 rfl (by omega) (by omega) (.slice a m c) m 1 (i64s (ints O)) [.int .i64 (hd : Int)] rfl rfl (by simp [World.setCell]) rfl (by simp [Value.oneCell']) (hS6.out.rowAt 1 rfl) (by omega) ?_; intro a1 c1 w6 ho6 hm6 hb6; have hS7 := Lib.hid (hgr.out a1 c1 w6 ho6 hm6 hb6); clear ho6 hm6 hb6))
              go_roundw
              case rel => exact ⟨O ++ [hd], m + 1, j + 1, a1, c1, hlen2, hmore, hui2, hnew, by omega, by omega, hmn2, rfl, by go_num, hS7⟩
              case measure => simp [intOf]; omega
          · have hnew := Lib.hid (show ∀ y ∈ (ofS n L u).take (j + 1), 0 < leftE L f y → ∀ hd : Nat, headE L y = (hd : Int) → hd ∈ O by
              intro y hy h1 hd2 h2
              rw [htk'.out, List.mem_append, List.mem_singleton] at hy
              rcases hy with hy | rfl
              · exact hdn.out y hy h1 hd2 h2
              · exact absurd h1 hle)
            generalize leftE L f x = z at *
            go_wp2_with (go_at_call 39; refine chd.out.mono ?_; rintro e w1 ⟨rfl, hw1⟩; subst w1)
            go_roundw
            case rel => exact ⟨O, m, j + 1, a, c, hOm, hRs, hui, hnew, by omega, him, hmn, rfl, by go_num, hS⟩
            case measure => simp [intOf]; omega
        · have hjk : j = K := by omega
          have hiO : i < O.length := by rw [hOm.out]; exact him
          have hnx := Lib.hid (hRs.out.next hiO (fun a' h' h1 h2 h3 h4 => by
            have hu2 := hui.out
            rw [List.getElem?_eq_getElem hiO] at hu2
            injection hu2 with hu2
            rw [hu2] at h2
            refine hdn.out a' ?_ h3 h' h4
            rw [hjk, ← hK'.out, List.take_length, mem_ofS hG'.out]
            exact ⟨h1, h2⟩))
          have hS9 := Lib.hid (hS.out.dropAt 2 (by simp))
          clear hS hdn hjk hiO
          go_wp2_with fail
          go_roundw
          case rel => exact ⟨O, m, i + 1, a, c, hOm, hnx, by omega, hmn, rfl, by go_num, hS9⟩
          case measure => simp [intOf]; omega
    · have hiO : i = O.length := by have := hOm.out; omega
      have hRs2 := hRs.out
      rw [hiO] at hRs2
      obtain ⟨l, hl1, hl2, hl3⟩ := reach_sort hRs2
      have hlm : l.length = m := hl2.trans hOm.out
      have hsort := Lib.hid (by
        have h5 := hS.out.rowAt 1 rfl
        have h6 := sortI_any (xs := ints O) (a := a) (c := c) (w := wr) (by rw [ints_len, hOm.out]; exact h5) (by rw [ints_len, hOm.out]; omega)
        rw [ints_len, hOm.out, hl3] at h6
        exact h6)
      have hl1' := Lib.hid hl1
      have hlm' := Lib.hid hlm
      clear hl1 hl2 hl3 hlm hRs2 hiO hRs
      go_wp2_with fail
      refine hsort.out.mono ?_
      rintro e w9 ⟨rfl, ho9, hm9⟩
      have hS9 := Lib.hid (hS.out.growAt 1 rfl ho9 hm9 (.inl rfl))
      clear ho9 hm9
      try dsimp only
      go_wp2_with fail
      go_ret
      refine ⟨l, a, c, hl1'.out, by rw [hlm'.out]; rfl, ?_⟩
      rw [hlm'.out]
      exact hS9.out.swap.toMade
end
end Edge
end Go.Proofs.YtjpfmkfikidgkaaGreat

set_option linter.unusedVariables false
set_option linter.unusedSimpArgs false
namespace Go.Proofs.YtjpfmkfikidgkaaGreat
open Go.RowKit
namespace Edge
/-- What the search holds: the levels, the round's number, who is next. -/
def SpL (Bo g Bd Bn n : Nat) (O : List Int) (d : Nat) (m : Nat) (a : Option Addr) (c : Nat) (next : List Nat) (R : List Part) : List Part :=
  Blk Bo [.slice (some ⟨g, 0, none⟩) n n] 51 :: Row 3 1 n (.slice (some ⟨g, 0, none⟩) n n) (i64s O) :: Blk Bd [.int .i64 d] 3 :: Blk Bn [.slice a m c] 51 :: Row 3 1 m (.slice a m c) (i64s (ints next)) :: R
theorem i64s_getD {O : List Int} {u : Nat} (hu : u < O.length) : (i64s O)[u]? = some (.int .i64 (O.getD u 0)) := by
  rw [List.getD_eq_getElem?_getD, List.getElem?_eq_getElem hu]
  exact i64s_get hu
set_option maxRecDepth 100000 in
set_option maxHeartbeats 4000000 in
theorem see_sep {W0 w : World} {Bo g Bd Bn n d u m : Nat} {O : List Int} {next : List Nat} {a : Option Addr} {c : Nat} {R : List Part} (hS : Sep W0 w (SpL Bo g Bd Bn n O d m a c next R)) (hO : O.length = n) (hu : u < n) (hm : m ≤ 4096) :
    Calls Tryz.prog 189 #[.int .i64 (u : Int), .pointer (some ⟨Bo, 0, none⟩), .pointer (some ⟨Bd, 0, none⟩), .pointer (some ⟨Bn, 0, none⟩)] w fun e w' => e = .returned (.tuple #[]) ∧
      ((0 ≤ O.getD u 0 ∧ w' = w) ∨ (O.getD u 0 < 0 ∧ ∃ a1 c1, Sep W0 w' (SpL Bo g Bd Bn n (O.set u (d : Int)) d (m + 1) a1 c1 (next ++ [u]) R))) := by
  have c0 := (hS.blkAt 0 rfl).cell 0 rfl
  have l0 := (hS.blkAt 0 rfl).lt
  have cg : w.cell? ⟨g, u, none⟩ = some (.int .i64 (O.getD u 0)) := by
    have h1 := (hS.rowAt 1 rfl).cellAt u (by omega)
    rw [i64s_getD (by omega)] at h1
    exact h1
  have fg := (hS.rowAt 1 rfl).frozenAt u
  have lg : g < w.heap.size := own_lt (hS.rowAt 1 rfl) (g := g) rfl
  have cd := (hS.blkAt 2 rfl).cell 0 rfl
  have ld := (hS.blkAt 2 rfl).lt
  have cn := (hS.blkAt 3 rfl).cell 0 rfl
  have ln := (hS.blkAt 3 rfl).lt
  have hul : (u : Int) < n := by omega
  by_cases h0 : O.getD u 0 < 0
  · have t0 : decide (O.getD u 0 < 0) = true := by simpa using h0
    have hS2 := Lib.hid (by
      have h5 := hS.rowsetAt 1 rfl u (.int .i64 d)
      rw [i64s_set] at h5
      exact h5)
    have cn2 := (hS2.out.blkAt 3 rfl).cell 0 rfl
    have hgr := Lib.hid (show ∀ (a1 : Option Addr) (c1 : Nat) (w6 : World), w6.ownsRow 0 3 1 (.slice a1 (m + 1) c1) (m + 1) (i64s (ints next) ++ [.int .i64 (u : Int)]) → Mod (Value.slice a m c).ownBlock.toList (w.setCell ⟨g, u, none⟩ (.int .i64 d)) w6 → ((Value.slice a1 (m + 1) c1).ownBlock = (Value.slice a m c).ownBlock ∨ ∃ b, (Value.slice a1 (m + 1) c1).ownBlock = some b ∧ (w.setCell ⟨g, u, none⟩ (.int .i64 d)).heap.size ≤ b) →
        Sep W0 w6 (Blk Bo [.slice (some ⟨g, 0, none⟩) n n] 51 :: Row 3 1 n (.slice (some ⟨g, 0, none⟩) n n) (i64s (O.set u (d : Int))) :: Blk Bd [.int .i64 d] 3 :: Blk Bn [.slice a m c] 51 :: Row 3 1 (m + 1) (.slice a1 (m + 1) c1) (i64s (ints (next ++ [u]))) :: R) by
      intro a1 c1 w6 h1 h2 h3
      rw [← ints_snoc] at h1
      exact hS2.out.growAt 4 rfl h1 h2 h3)
    have h0' := Lib.hid h0
    clear hS h0
    generalize O.getD u 0 = z at *
    go_enter Tryz.func189, Tryz.ntmps189
    go_wp2_with (at_builtin; refine app_own rfl (.tmp 14) (.tmp 16) 51 3 _ 1 8 rfl Tryz.underlying51 infoI5 rfl (by omega) (by omega) (.slice a m c) m 1 (i64s (ints next)) [.int .i64 (u : Int)] rfl rfl (by simp [World.setCell]) rfl (by simp [Value.oneCell']) (hS2.out.rowAt 4 rfl) (by omega) ?_; intro a1 c1 w6 ho6 hm6 hb6; have hS7 := Lib.hid (hgr.out a1 c1 w6 ho6 hm6 hb6); clear ho6 hm6 hb6; have cn7 := (hS7.out.blkAt 3 rfl).cell 0 rfl; have fn7 := (hS7.out.blkAt 3 rfl).free 0; have ln7 := (hS7.out.blkAt 3 rfl).lt)
    exact bodyPost_end (v := .tuple #[]) (by simp [results, Tryz.results189, go_sem]) rfl ⟨rfl, .inr ⟨h0'.out, a1, c1, hS7.out.setAt 3 rfl 0 (.slice a1 (m + 1) c1)⟩⟩
  · have t0 : decide (O.getD u 0 < 0) = false := by simpa using h0
    have h0' := Lib.hid (show 0 ≤ O.getD u 0 by omega)
    clear hS h0
    generalize O.getD u 0 = z at *
    go_enter Tryz.func189, Tryz.ntmps189
    go_wp2_with fail
    exact bodyPost_end (v := .tuple #[]) (by simp [results, Tryz.results189, go_sem]) rfl ⟨rfl, .inl ⟨h0'.out, rfl⟩⟩
end Edge
end Go.Proofs.YtjpfmkfikidgkaaGreat

set_option linter.unusedVariables false
set_option linter.unusedSimpArgs false
namespace Go.Proofs.YtjpfmkfikidgkaaGreat
open Go.RowKit
namespace Edge
theorem sep_wrap2 {goalP : World → Prop} {W0 V Wx : World} {L : List Part} (h : Sep W0 Wx L) (m : Mod [] V Wx) (hp : ∀ Wg, Sep W0 Wg L → Mod [] V Wg → goalP Wg) : goalP Wx := hp Wx h m
set_option maxRecDepth 100000 in
set_option maxHeartbeats 8000000 in
theorem rnew_res {w0 w : World} {q : Option Addr} {n : Nat} {L : List Ed} {R : List Part} (hG : GOk n L)
    (hC : Calls Tryz.prog 104 #[.pointer q] w fun e w' => ∃ ba, e = .returned (.pointer (some ⟨ba, 0, none⟩)) ∧ Sep w0 w' (ArcP ba n L :: R)) :
    Calls Tryz.prog 16 #[.pointer q] w fun e w' => ∃ r ba, e = .returned (.pointer (some ⟨r, 0, none⟩)) ∧ Sep w0 w' (RestP r ba n L (noF L) :: ArcP ba n L :: R) := by
  have hn4 := hG.le
  have hl := hG.len
  have hG' := Lib.hid hG
  obtain ⟨m, hm⟩ : ∃ m, 2 * L.length = m := ⟨_, rfl⟩
  have hml : m ≤ 2097152 := by omega
  have hm' := Lib.hid hm
  have hC' := Lib.hid hC
  clear hC hG hm
  go_enter Tryz.func16, Tryz.ntmps16
  go_wp2_with fail
  refine hC'.out.mono ?_
  rintro e w1 ⟨ba, rfl, hS⟩
  have cl := Lib.hid (fun W (h : Mod [] w1 W) => alen_sep (hS.still h))
  rw [hm'.out] at cl
  have cn := Lib.hid (fun W (h : Mod [] w1 W) => an_sep (hS.still h) hG'.out)
  have hS1 := Lib.hid (hS.still (Mod.refl [] _).drew)
  clear hS hC'
  try dsimp only
  go_upto_region 2 with fail
  have hmkL := make_run (P := Tryz.prog) 33 2 (.int .i64 0) 8 Tryz.underlying33 infoI64b rfl (by omega) m (by omega)
  have hmkN := make_run (P := Tryz.prog) 33 2 (.int .i64 0) 8 Tryz.underlying33 infoI64b rfl (by omega) n (by omega)
  refine region_head (G := Mod []) [0, 1, 4] #[true, true, false, false, true, false, false, false, false, false] 7 (by kernel_rfl) (by kernel_rfl) (by kernel_rfl) rfl (Mod.refl []) ?_
  simp only [pickO, nthO, List.cons_append, List.nil_append]
  repeat (go_big_quiet_step (fail))
  refine wpQuiet_nil ?_
  refine tail_one 2 (by kernel_rfl) rfl ?_
  intro K hK
  rw [if_pos (by rfl)]
  go_simp
  refine (cl.out _ (Mod.refl [] _).drew).mono ?_
  rintro e w2 ⟨rfl, hw2⟩
  subst w2
  try dsimp only
  refine hK.out _ _ (Mod.refl _ _) ?_
  clear hK K
  have hA := Lib.hid (((hS1.out.made (made_made w1.drew 2 (.int .i64 0) m (by omega))).made (made_made _ 2 (.int .i64 0) n (by omega))).box [.pointer (some ⟨ba, 0, none⟩), .slice (some ⟨w1.heap.size, 0, none⟩) m m, .slice (some ⟨w1.heap.size + 1, 0, none⟩) n n] 174)
  have hB := Lib.hid (((hS1.out.made (made_made w1.drew 2 (.int .i64 0) n (by omega))).made (made_made _ 2 (.int .i64 0) m (by omega))).box [.pointer (some ⟨ba, 0, none⟩), .slice (some ⟨w1.heap.size + 1, 0, none⟩) m m, .slice (some ⟨w1.heap.size, 0, none⟩) n n] 174)
  rw [World.size_alloc, World.size_alloc, show w1.drew.heap.size = w1.heap.size from rfl] at hA
  rw [World.size_alloc, World.size_alloc, show w1.drew.heap.size = w1.heap.size from rfl] at hB
  refine tail_two 3 5 (by kernel_rfl) rfl rfl ?_ ?_
  case' refine_1 =>
    intro K hK
    rw [if_pos (by rfl)]
    go_simp
    refine hK.out _ _ ((Mod.refl _ _).alloc _) ?_
    clear hK K
    refine tail_one 5 (by kernel_rfl) rfl ?_
    intro K hK
    rw [if_pos (by rfl)]
    go_simp
    refine (cn.out _ ((Mod.refl [] w1).drew.alloc _)).mono ?_
    rintro e w2 ⟨rfl, hw2⟩
    subst w2
    try dsimp only
    refine hK.out _ _ ((Mod.refl _ _).alloc _) ?_
    clear hK K
    refine tail_one 6 (by kernel_rfl) rfl ?_
    intro K hK
    rw [if_pos (by rfl)]
    go_simp
    refine hK.out _ _ (((Mod.refl _ _).alloc _).alloc _) ?_
    clear hK K
    refine tail_one 7 (by kernel_rfl) rfl ?_
    intro K hK
    rw [if_pos (by rfl)]
    go_simp
    refine hK.out _ _ (((Mod.refl _ _).alloc _).alloc _) ?_
    clear hK K
    refine tail_one 8 (by kernel_rfl) rfl ?_
    intro K hK
    rw [if_pos (by rfl)]
    go_simp
    refine hK.out _ _ ((((Mod.refl _ _).alloc _).alloc _).alloc _) ?_
    clear hK K hmkL hmkN cl cn hB hS1
    refine sep_wrap2 (goalP := fun W => wpAnyH _ _ _ _ _ _ _ _ W) (V := w1.drew) hA.out ((((Mod.refl _ _).alloc _).alloc _).alloc _) ?_
    intro Wg hSg hmg
    clear hA
    have hSg2 := Lib.hid (show Sep w0 Wg (Blk (w1.heap.size + 1 + 1) [.pointer (some ⟨ba, 0, none⟩), .slice (some ⟨w1.heap.size, 0, none⟩) m m, .slice (some ⟨w1.heap.size + 1, 0, none⟩) n n] 174 :: Row 2 1 m (.slice (some ⟨w1.heap.size, 0, none⟩) m m) (List.replicate m (.int .i64 0)) :: Row 2 1 n (.slice (some ⟨w1.heap.size + 1, 0, none⟩) n n) (List.replicate n (.int .i64 0)) :: ArcP ba n L :: R) from hSg.perm (List.Perm.cons _ (List.Perm.swap _ _ _)))
    clear hSg
    generalize w1.heap.size + 1 + 1 = r at *
    generalize w1.heap.size + 1 = go at *
    generalize w1.heap.size = gl at *
  case' refine_2 =>
    intro K hK
    rw [if_pos (by rfl)]
    go_simp
    refine (cn.out _ (Mod.refl [] w1).drew).mono ?_
    rintro e w2 ⟨rfl, hw2⟩
    subst w2
    try dsimp only
    refine hK.out _ _ (Mod.refl _ _) ?_
    clear hK K
    refine tail_two 3 6 (by kernel_rfl) rfl rfl ?_ ?_
  case' refine_2.refine_1 =>
    intro K hK
    rw [if_pos (by rfl)]
    go_simp
    refine hK.out _ _ ((Mod.refl _ _).alloc _) ?_
    clear hK K
    refine tail_one 6 (by kernel_rfl) rfl ?_
    intro K hK
    rw [if_pos (by rfl)]
    go_simp
    refine hK.out _ _ (((Mod.refl _ _).alloc _).alloc _) ?_
    clear hK K
    refine tail_one 7 (by kernel_rfl) rfl ?_
    intro K hK
    rw [if_pos (by rfl)]
    go_simp
    refine hK.out _ _ (((Mod.refl _ _).alloc _).alloc _) ?_
    clear hK K
    refine tail_one 8 (by kernel_rfl) rfl ?_
    intro K hK
    rw [if_pos (by rfl)]
    go_simp
    refine hK.out _ _ ((((Mod.refl _ _).alloc _).alloc _).alloc _) ?_
    clear hK K hmkL hmkN cl cn hB hS1
    refine sep_wrap2 (goalP := fun W => wpAnyH _ _ _ _ _ _ _ _ W) (V := w1.drew) hA.out ((((Mod.refl _ _).alloc _).alloc _).alloc _) ?_
    intro Wg hSg hmg
    clear hA
    have hSg2 := Lib.hid (show Sep w0 Wg (Blk (w1.heap.size + 1 + 1) [.pointer (some ⟨ba, 0, none⟩), .slice (some ⟨w1.heap.size, 0, none⟩) m m, .slice (some ⟨w1.heap.size + 1, 0, none⟩) n n] 174 :: Row 2 1 m (.slice (some ⟨w1.heap.size, 0, none⟩) m m) (List.replicate m (.int .i64 0)) :: Row 2 1 n (.slice (some ⟨w1.heap.size + 1, 0, none⟩) n n) (List.replicate n (.int .i64 0)) :: ArcP ba n L :: R) from hSg.perm (List.Perm.cons _ (List.Perm.swap _ _ _)))
    clear hSg
    generalize w1.heap.size + 1 + 1 = r at *
    generalize w1.heap.size + 1 = go at *
    generalize w1.heap.size = gl at *
  case' refine_2.refine_2 =>
    intro K hK
    rw [if_pos (by rfl)]
    go_simp
    refine hK.out _ _ ((Mod.refl _ _).alloc _) ?_
    clear hK K
    refine tail_one 3 (by kernel_rfl) rfl ?_
    intro K hK
    rw [if_pos (by rfl)]
    go_simp
    refine hK.out _ _ (((Mod.refl _ _).alloc _).alloc _) ?_
    clear hK K
    refine tail_one 7 (by kernel_rfl) rfl ?_
    intro K hK
    rw [if_pos (by rfl)]
    go_simp
    refine hK.out _ _ (((Mod.refl _ _).alloc _).alloc _) ?_
    clear hK K
    refine tail_one 8 (by kernel_rfl) rfl ?_
    intro K hK
    rw [if_pos (by rfl)]
    go_simp
    refine hK.out _ _ ((((Mod.refl _ _).alloc _).alloc _).alloc _) ?_
    clear hK K hmkL hmkN cl cn hA hS1
    refine sep_wrap2 (goalP := fun W => wpAnyH _ _ _ _ _ _ _ _ W) (V := w1.drew) hB.out ((((Mod.refl _ _).alloc _).alloc _).alloc _) ?_
    intro Wg hSg hmg
    clear hB
    have hSg2 := Lib.hid hSg
    clear hSg
    generalize w1.heap.size + 1 + 1 = r at *
    generalize w1.heap.size + 1 = gl at *
    generalize w1.heap.size = go at *
  all_goals
    have hS3 := Lib.hid (show Sep w0 Wg (Blk r [.pointer (some ⟨ba, 0, none⟩), .slice (some ⟨gl, 0, none⟩) m m, .slice (some ⟨go, 0, none⟩) n n] 174 :: Row 2 1 m (.slice (some ⟨gl, 0, none⟩) m m) (i64s (capL L 0)) :: Row 2 1 n (.slice (some ⟨go, 0, none⟩) n n) (i64s (overL n L (noF L))) :: ArcP ba n L :: R) by
      rw [capL_zero, overL_new, hm'.out]
      have e : ∀ m : Nat, i64s (List.replicate m 0) = List.replicate m (.int .i64 0) := fun m => by simp [i64s]
      rw [e, e]
      exact hSg2.out)
    clear hSg2
    refine tail_one 9 (by kernel_rfl) rfl ?_
    intro K hK
    rw [if_pos (by rfl)]
    go_simp
    refine hK.out _ _ hmg ?_
    clear hK K hmg
    refine tail_done (by kernel_rfl) ?_
    have r1 := (hS3.out.blkAt 0 rfl).cell 1 rfl
    have rl := (hS3.out.blkAt 0 rfl).lt
    go_wp2_with fail
    clear r1 rl
    go_loopw [22] (fun i wr => ∃ k : Nat, k ≤ m ∧ i = .int .i64 k ∧ Hid (Sep w0 wr (Blk r [.pointer (some ⟨ba, 0, none⟩), .slice (some ⟨gl, 0, none⟩) m m, .slice (some ⟨go, 0, none⟩) n n] 174 :: Row 2 1 m (.slice (some ⟨gl, 0, none⟩) m m) (i64s (capL L k)) :: Row 2 1 n (.slice (some ⟨go, 0, none⟩) n n) (i64s (overL n L (noF L))) :: ArcP ba n L :: R))) (fun i _ => m - (intOf i).toNat)
    case atStart => exact ⟨0, Nat.zero_le _, rfl, hS3⟩
    case round =>
      clear hS3
      obtain ⟨k, hk, rfl, hS⟩ := hrel
      by_cases hlt : k < m
      · have hlt1 : (k : Int) < m := by omega
        have r1 := (hS.out.blkAt 0 rfl).cell 1 rfl
        have rl := (hS.out.blkAt 0 rfl).lt
        have cc := Lib.hid (acap_sep ((hS.out.still (Mod.refl [] wr).drew).pick 3 (by simp)) hG'.out (k : Int))
        rw [show capI L (k : Int) = capE L k by unfold capI; rw [if_neg (by omega), Int.toNat_natCast]] at cc
        have hcs := Lib.hid (capL_step (L := L) (k := k) (by rw [hm'.out]; exact hlt))
        obtain ⟨ou, ogc⟩ : ∃ u, wr.drew.cell? ⟨gl, k, none⟩ = some u := by
          have h1 := (hS.out.rowAt 1 rfl).cellAt k (by omega)
          have h2 := (hS.out.rowAt 1 rfl).1
          rw [List.getElem?_eq_getElem (by omega)] at h1
          exact ⟨_, h1⟩
        have ogz : wr.drew.frozen? ⟨gl, k, none⟩ = false := (hS.out.rowAt 1 rfl).frozenAt k
        have ogl : gl < wr.drew.heap.size := own_lt (hS.out.rowAt 1 rfl) (g := gl) rfl
        generalize capE L k = z at *
        have hS5 := Lib.hid ((hS.out.rowsetAt 1 rfl k (.int .i64 z)).still (Mod.refl [] _).drew)
        rw [i64s_set, hcs.out] at hS5
        have k1 := KC.one (w := wr.drew) (L := [(⟨r, 1, none⟩, .slice (some ⟨gl, 0, none⟩) m m)]) r1 (by simp)
        clear hS r1 hcs
        go_upto_region 6 with fail
        refine region_sched (G := KC [(⟨r, 1, none⟩, .slice (some ⟨gl, 0, none⟩) m m)]) [([0,1,2,3,4,5,6],7), ([8],9)] [] (by kernel_rfl) (by kernel_rfl) (by kernel_rfl) rfl (KC.refl _) (KC.trans _) ?_
        simp only [stages, pickO, nthO, headO, List.append_eq, List.cons_append, List.nil_append]
        refine sched_step ?_
        repeat (go_big_quiet_step (fail))
        refine wpQuiet_nil ?_
        intro K hK
        rw [if_pos (by rfl)]
        go_simp
        refine cc.out.mono ?_
        rintro e w5 ⟨rfl, hw5⟩
        subst w5
        try dsimp only
        refine hK.out _ _ (KC.refl _ _) ?_
        clear hK K k1 cc
        refine sched_step ?_
        repeat (go_big_quiet_step (fail))
        refine wpQuiet_nil ?_
        intro K hK
        rw [if_pos (by rfl)]
        go_simp
        refine hK.out _ _ (fun p hp _ => by
          simp only [List.mem_cons, List.mem_nil_iff, or_false] at hp
          subst hp
          exact (hS5.out.blkAt 0 rfl).cell 1 rfl) ?_
        clear hK K ogc ogz ogl rl
        refine sched_last ?_
        refine wpQuiet_nil ?_
        go_wp2_with fail
        go_roundw
        case rel => exact ⟨k + 1, by omega, by go_num, hS5⟩
        case measure => simp [intOf]; omega
      · have hkm : k = m := by omega
        have hfin : Hid (Sep w0 wr (RestP r ba n L (noF L) :: ArcP ba n L :: R)) := Lib.hid (by
          refine Sep.mkRest (gl := gl) (go := go) ?_
          have h5 := hS.out
          rw [hkm, ← hm'.out, capL_all] at h5
          exact h5)
        clear hS hk hkm
        go_wp2_with fail
        go_ret
        exact ⟨r, ba, rfl, hfin.out⟩
end Edge
end Go.Proofs.YtjpfmkfikidgkaaGreat

set_option linter.unusedVariables false
set_option linter.unusedSimpArgs false
namespace Go.Proofs.YtjpfmkfikidgkaaGreat
open Go.RowKit
namespace Edge
section
variable {w0 w : World} {r ba n : Nat} {L : List Ed} {f : List Int} {R : List Part}
theorem rarcs_sep (h : Sep w0 w (RestP r ba n L f :: ArcP ba n L :: R)) : Calls Tryz.prog 23 #[.pointer (some ⟨r, 0, none⟩)] w fun e w' => e = .returned (.pointer (some ⟨ba, 0, none⟩)) ∧ w' = w := by
  obtain ⟨F, h1, _⟩ := h.first
  exact rarcs_p h1
theorem rleft_sep (h : Sep w0 w (RestP r ba n L f :: ArcP ba n L :: R)) (hG : GOk n L) (i : Int) : Calls Tryz.prog 40 #[.pointer (some ⟨r, 0, none⟩), .int .i64 i] w fun e w' => e = .returned (.int .i64 (leftI L f i)) ∧ w' = w := by
  obtain ⟨F, h1, _⟩ := h.first
  obtain ⟨F2, h2, _⟩ := h.tail.first
  exact rleft_p h1 h2 hG i
theorem rexc_sep (h : Sep w0 w (RestP r ba n L f :: ArcP ba n L :: R)) (hG : GOk n L) (v : Int) : Calls Tryz.prog 74 #[.pointer (some ⟨r, 0, none⟩), .int .i64 v] w fun e w' => e = .returned (.int .i64 (exc L f v)) ∧ w' = w := by
  obtain ⟨F, h1, _⟩ := h.first
  obtain ⟨F2, h2, _⟩ := h.tail.first
  exact rexc_p h1 h2 hG v
theorem rflow_sep (h : Sep w0 w (RestP r ba n L f :: ArcP ba n L :: R)) (hG : GOk n L) (hF : FB L f) (i : Int) : Calls Tryz.prog 99 #[.pointer (some ⟨r, 0, none⟩), .int .i64 i] w fun e w' => e = .returned (.int .i64 (flowI L f i)) ∧ Mod [] w w' := by
  obtain ⟨F, h1, _⟩ := h.first
  obtain ⟨F2, h2, _⟩ := h.tail.first
  exact rflow_p h1 h2 hG hF i
theorem rflows_sep (h : Sep w0 w (RestP r ba n L f :: ArcP ba n L :: R)) (hG : GOk n L) (hF : FB L f) : Calls Tryz.prog 80 #[.pointer (some ⟨r, 0, none⟩)] w fun e w' => ∃ a c, e = .returned (.slice a f.length c) ∧ Made w w' 2 1 a f.length c (i64s f) := by
  obtain ⟨F, h1, _⟩ := h.first
  obtain ⟨F2, h2, _⟩ := h.tail.first
  exact rflows_p h1 h2 hG hF
theorem rreach_none (h : Sep w0 w (RestP r ba 0 L f :: ArcP ba 0 L :: R)) (hG : GOk 0 L) : Calls Tryz.prog 110 #[.pointer (some ⟨r, 0, none⟩), .int .i64 0] w fun e w' => e = .returned (.slice none 0 0) ∧ w' = w := by
  have ca := Lib.hid (rarcs_sep h)
  have cn := an_sep h.tail hG
  simp only [Int.natCast_zero, Int.ofNat_zero, Int.cast_ofNat_Int] at cn
  have cn' := Lib.hid cn
  clear h hG cn
  go_enter Tryz.func110, Tryz.ntmps110
  go_wp2_with (first
    | (go_at_call 23; refine ca.out.mono ?_; rintro e w1 ⟨rfl, hw1⟩; subst w1)
    | (go_at_call 105; refine cn'.out.mono ?_; rintro e w1 ⟨rfl, hw1⟩; subst w1))
  go_ret
  exact ⟨rfl, rfl⟩
end
theorem fb_new {n : Nat} {L : List Ed} (hG : GOk n L) : FB L (noF L) := FB.none hG.pos
theorem merged23 : merged [(0, 1, 7)] = [(0, 1, 7)] := by decide +kernel
set_option maxRecDepth 100000 in
set_option maxHeartbeats 4000000 in
theorem awake23 (w : World) : Calls Tryz.prog 14 #[] w fun e w' => e = .returned (.bool true) ∧ Mod [] w w' := by
  go_enter Tryz.func14, Tryz.ntmps14
  go_wp2_with fail
  refine (new_net 2 (l := [(0, 1, 7)]) (rd_ed (l := [(0, 1, 7)]) (Has.new w [.int .i64 0, .int .i64 1, .int .i64 7] 146) (by simp))).mono ?_
  rintro e w1 hN
  rcases hN.out with ⟨hne, _⟩ | ⟨he, b, rfl, hS⟩
  · exact absurd (by decide +kernel) hne
  have hG := new_ok he
  rw [merged23] at hS hG
  have e3 : ((2 : Int).toNat) = 2 := rfl
  rw [e3] at hS hG
  have hnw := Lib.hid (rnew_res hG (csr_net hS hG))
  clear hN he hS
  try dsimp only
  go_wp2_with fail
  refine hnw.out.mono ?_
  rintro e w2 ⟨r, ba, rfl, hA⟩
  have hF := fb_new hG
  have c1 := Lib.hid (rpush_sep hA hG hF 0 5)
  rw [show mayP [(0, 1, 7)] (noF [(0, 1, 7)]) 0 5 = true by decide +kernel, show pushI [(0, 1, 7)] (noF [(0, 1, 7)]) 0 5 = [5] by decide +kernel] at c1
  clear hnw hA
  try dsimp only
  go_wp2_with fail
  refine c1.out.mono ?_
  rintro e w3 ⟨rfl, hA⟩
  have hF5 : FB [(0, 1, 7)] [5] := ⟨by decide, trivial⟩
  have c2 := Lib.hid (rpush_sep hA hG hF5 0 3)
  rw [show mayP [(0, 1, 7)] [5] 0 3 = false by decide +kernel, show pushI [(0, 1, 7)] [5] 0 3 = [5] by decide +kernel] at c2
  clear c1 hA
  try dsimp only
  go_wp2_with fail
  refine c2.out.mono ?_
  rintro e w4 ⟨rfl, hA⟩
  have hw4 := Lib.hid (show Mod [] w w4 from ((Mod.refl [] w).alloc _).trans hA.mod (by simp))
  have c3 := Lib.hid (rleft_sep hA hG 0)
  have c4 := Lib.hid (rleft_sep hA hG 1)
  have c5 := Lib.hid (rflow_sep hA hG hF5 0)
  have c6 := Lib.hid (fun W (m : Mod [] w4 W) => rexc_sep (hA.still m) hG 1)
  rw [show leftI [(0, 1, 7)] [5] 0 = 2 by decide +kernel] at c3
  rw [show leftI [(0, 1, 7)] [5] 1 = 12 by decide +kernel] at c4
  rw [show flowI [(0, 1, 7)] [5] 0 = 5 by decide +kernel] at c5
  simp only [show exc [(0, 1, 7)] [5] 1 = 5 by decide +kernel] at c6
  clear c2 hA hF hG hF5
  try dsimp only
  go_wp2_with fail
  refine c3.out.mono ?_
  rintro e w5 ⟨rfl, hw5⟩
  subst w5
  try dsimp only
  go_wp2_with fail
  refine c4.out.mono ?_
  rintro e w5 ⟨rfl, hw5⟩
  subst w5
  try dsimp only
  go_wp2_with fail
  refine c5.out.mono ?_
  rintro e w5 ⟨rfl, hm5⟩
  have c7 := Lib.hid (c6.out _ hm5)
  have hm5' := Lib.hid hm5
  clear hm5
  try dsimp only
  go_wp2_with fail
  refine c7.out.mono ?_
  rintro e w6 ⟨rfl, hw6⟩
  subst w6
  try dsimp only
  go_wp2_with fail
  go_ret
  exact ⟨rfl, hw4.out.trans hm5'.out (by simp)⟩
end Edge
end Go.Proofs.YtjpfmkfikidgkaaGreat

set_option linter.unusedVariables false
set_option linter.unusedSimpArgs false
namespace Go.Proofs.YtjpfmkfikidgkaaGreat
open Go.RowKit
theorem Sep.rowNew {w0 w : World} {L : List Part} {e size n g : Nat} {v : Value} {xs : List Value} (h : Sep w0 w L) (i : Nat) (hi : L[i]? = some (Row e size n v xs)) (hg : v.ownBlock = some g) : w0.heap.size ≤ g := by
  obtain ⟨F, ⟨_, rfl⟩, h2, _⟩ := (h.get i hi).first
  exact (h2 g (by simp [hg])).2
namespace Edge
theorem overL_step {n : Nat} {L : List Ed} {f : List Int} (hG : GOk n L) (hl : f.length = L.length) {k u v : Nat} (hk : k < L.length) (hu : L[k].1 = (u : Int)) (hv : L[k].2.1 = (v : Int)) :
    ((overL n (L.take k) (f.take k)).set u (exc (L.take k) (f.take k) (u : Int) - f.getD k 0)).set v (exc (L.take k) (f.take k) (v : Int) + f.getD k 0) = overL n (L.take (k + 1)) (f.take (k + 1)) := by
  have he := hG.ends _ (List.getElem_mem hk)
  rw [hu, hv] at he
  apply List.ext_getElem?
  intro i
  have e1 := exc_take L f k hk hl (i : Int)
  rw [hu, hv] at e1
  by_cases hi : i < n
  · rw [overL_get hi, e1, List.getElem?_set, List.getElem?_set]
    have hlen : (overL n (L.take k) (f.take k)).length = n := overL_len _ _ _
    by_cases c1 : v = i
    · subst c1
      rw [if_pos rfl, if_pos (by rw [List.length_set, hlen]; exact hi), if_pos rfl, if_neg (by omega)]
      congr 1; omega
    · rw [if_neg c1]
      by_cases c2 : u = i
      · subst c2
        rw [if_pos rfl, if_pos (by rw [hlen]; exact hi), if_neg (by omega), if_pos rfl]
        congr 1; omega
      · rw [if_neg c2, overL_get hi, if_neg (by omega), if_neg (by omega)]
        congr 1; omega
  · rw [List.getElem?_eq_none (by rw [List.length_set, List.length_set, overL_len]; omega), List.getElem?_eq_none (by rw [overL_len]; omega)]
theorem fb_step {L : List Ed} {f : List Int} {k : Nat} (hl : f.length = L.length) (hk : k < L.length) (h : FB (L.take k) (f.take k)) (h1 : -L[k].2.2 ≤ f.getD k 0 ∧ f.getD k 0 ≤ L[k].2.2) : FB (L.take (k + 1)) (f.take (k + 1)) := by
  refine fb_of (by simp; omega) (fun j hj => ?_)
  rw [List.length_take] at hj
  have e1 : (L.take (k + 1))[j]'(by rw [List.length_take]; omega) = L[j]'(by omega) := by rw [List.getElem_take]
  have e2 : (f.take (k + 1)).getD j 0 = f.getD j 0 := by
    rw [List.getD_eq_getElem?_getD, List.getD_eq_getElem?_getD, List.getElem?_take, if_pos (by omega)]
  rw [e1, e2]
  rcases Nat.lt_or_ge j k with c | c
  · have h2 := h.get j (by rw [List.length_take]; omega)
    have e3 : (L.take k)[j]'(by rw [List.length_take]; omega) = L[j]'(by omega) := by rw [List.getElem_take]
    have e4 : (f.take k).getD j 0 = f.getD j 0 := by
      rw [List.getD_eq_getElem?_getD, List.getD_eq_getElem?_getD, List.getElem?_take, if_pos c]
    rw [e3, e4] at h2
    exact h2
  · have : j = k := by omega
    subst this
    exact h1
theorem exc_tk {n : Nat} {L : List Ed} {f : List Int} (hG : GOk n L) {k : Nat} (h : FB (L.take k) (f.take k)) (v : Int) : -2251799813685248 ≤ exc (L.take k) (f.take k) v ∧ exc (L.take k) (f.take k) v ≤ 2251799813685248 := by
  have h1 := exc_in h (fun e he => by have := hG.ends e (List.mem_of_mem_take he); omega) v
  have h2 := (total_tkF (L := L) (fun e he => by have := hG.pos e he; omega) k).2
  have h3 := hG.tot
  omega
theorem then_wrap {F : Act → World → Prop} {A : Act} {W0 Wx : World} {L : List Part} (h : Sep W0 Wx L) (hp : ∀ Wg, Sep W0 Wg L → F A Wg) : F A Wx := hp Wx h
def FexOut (n : Nat) (L : List Ed) (f : List Int) (w : World) (e : Ending) (w' : World) : Prop := ∃ a c, e = .returned (.tuple #[.slice a (excP n L f).length c, .bool (fbB L f)]) ∧ Made w w' 2 1 a (excP n L f).length c (i64s (excP n L f))
theorem fex_no {n : Nat} {L : List Ed} {f : List Int} {w w' : World} (h : fbB L f = false) (hm : Mod [] w w') : FexOut n L f w (.returned (.tuple #[.slice none 0 0, .bool false])) w' := by
  have e : excP n L f = [] := by unfold excP; rw [h]; rfl
  unfold FexOut
  rw [e, h]
  exact ⟨none, 0, rfl, World.ownsRow_nil _ _ _ _, hm, by simp [Value.ownBlock]⟩
set_option maxRecDepth 100000 in
set_option maxHeartbeats 8000000 in
theorem fexcess_sep {w0 w : World} {b n : Nat} {L : List Ed} {R : List Part} {f : List Int} {v : Value} (hS : Sep w0 w (NetP b n L :: R)) (hG : GOk n L) (h : Rd w 1 v f.length (i64s f)) (hfb : ∀ x ∈ f, -9223372036854775808 ≤ x ∧ x ≤ 9223372036854775807) :
    Calls Tryz.prog 28 #[.pointer (some ⟨b, 0, none⟩), v] w (FexOut n L f w) := by
  obtain ⟨a, c, rfl⟩ := h.val
  have hle := h.le
  have hlen := hG.len
  have hn4 := hG.le
  have cM := Lib.hid (m_sep hS)
  have cN := Lib.hid (n_sep hS)
  have cE := Lib.hid (fun W (m : Mod [] w W) => edges_sep (hS.still m) hG.len)
  have hG' := Lib.hid hG
  have h' := Lib.hid h
  have hfb' := Lib.hid hfb
  clear hS hG h hfb
  by_cases hl : f.length = L.length
  · have t1 : ((f.length : Int) != (L.length : Int)) = false := by simp; omega
    have hl' := Lib.hid hl
    have hmk := make_run (P := Tryz.prog) 33 2 (.int .i64 0) 8 Tryz.underlying33 infoI64b rfl (by omega) n (by omega)
    have hS1 := Lib.hid ((Sep.empty w).made (made_made w 2 (.int .i64 0) n (by omega)))
    clear hl
    go_enter Tryz.func28, Tryz.ntmps28
    go_upto_region 4 with (first
      | (go_at_call 73; refine cM.out.mono ?_; rintro e w1 ⟨rfl, hw1⟩; subst w1)
      | (go_at_call 72; refine cN.out.mono ?_; rintro e w1 ⟨rfl, hw1⟩; subst w1))
    clear hmk cM cN
    have hS2 : Hid (Sep w (w.alloc (.cells (madeCells #[.int .i64 0] n) 2)) [Row 2 1 n (.slice (some ⟨w.heap.size, 0, none⟩) n n) (i64s (overL n (L.take 0) (f.take 0)))]) := Lib.hid (by
      have e : i64s (overL n (L.take 0) (f.take 0)) = List.replicate n (.int .i64 0) := by
        unfold overL i64s
        rw [List.map_map]
        apply List.eq_replicate_iff.2
        simp [exc]
      rw [e]
      exact hS1.out)
    clear hS1
    generalize w.alloc (.cells (madeCells #[.int .i64 0] n) 2) = w1 at *
    generalize w.heap.size = g at *
    go_wp2_with fail
    refine (cE.out _ hS2.out.mod).mono ?_
    rintro e w2 ⟨ax, cx, rfl, hmd⟩
    have hS3 := Lib.hid ((hS2.out.made hmd).swap)
    clear hmd hS2 cE
    try dsimp only
    go_wp2_with fail
    go_loopw [20] (fun s20 wr => ∃ k : Nat, k ≤ L.length ∧ s20 = .int .i64 k ∧ Hid (FB (L.take k) (f.take k)) ∧ Hid (Sep w wr [Row 2 1 n (.slice (some ⟨g, 0, none⟩) n n) (i64s (overL n (L.take k) (f.take k))), Row 146 3 L.length (.slice ax L.length cx) (flat encEd L)])) (fun s20 _ => L.length - (intOf s20).toNat)
    case atStart => exact ⟨0, Nat.zero_le _, rfl, Lib.hid trivial, hS3⟩
    case round =>
      clear hS3
      obtain ⟨k, hk, rfl, hF, hS⟩ := hrel
      by_cases hlt : k < L.length
      · have hlt1 : (k : Int) < L.length := by omega
        obtain ⟨ge, rfl, hge, _, q0, q1, q2⟩ := ed_row (hS.out.rowAt 1 rfl) hlt
        obtain ⟨he0, he1, he2⟩ := hG'.out.ends _ (List.getElem_mem hlt)
        obtain ⟨u, hu⟩ := Int.eq_ofNat_of_zero_le he0
        obtain ⟨x, hx⟩ := Int.eq_ofNat_of_zero_le (show 0 ≤ L[k].2.1 by omega)
        have hp := hG'.out.pos _ (List.getElem_mem hlt)
        have hcap := capE_le hG'.out (2 * k)
        rw [capE_get (show 2 * k < 2 * L.length by omega)] at hcap
        have e2k : 2 * k / 2 = k := by omega
        simp only [e2k] at hcap
        have hst := Lib.hid (overL_step hG'.out hl'.out hlt hu hx)
        have hno := Lib.hid (fbB_no (f := f) hlt)
        have hfs := Lib.hid (fb_step hl'.out hlt hF.out)
        obtain ⟨gf, o, rfl, hgf, hcell⟩ := rd_cell h'.out (show k < f.length by rw [hl'.out]; exact hlt)
        have hkf : k < f.length := by rw [hl'.out]; exact hlt
        have hkf1 : (k : Int) < f.length := by omega
        have cf := hcell wr k (.int .i64 (f.getD k 0)) hS.out.mod (i64s_getD hkf)
        have hfr := hfb'.out (f.getD k 0) (by rw [List.getD_eq_getElem?_getD, List.getElem?_eq_getElem hkf]; exact List.getElem_mem _)
        have hun : u < n := by omega
        have hxn : x < n := by omega
        have hux : u ≠ x := by omega
        have lgf : gf < wr.heap.size := Nat.lt_of_lt_of_le hgf hS.out.mod.size
        have lg : g < wr.heap.size := own_lt (hS.out.rowAt 0 rfl) (g := g) rfl
        have cu := (hS.out.rowAt 0 rfl).cellAt u (by omega)
        rw [i64s_getD (by rw [overL_len]; exact hun), overL_get0 hun] at cu
        have cxx := (hS.out.rowAt 0 rfl).cellAt x (by omega)
        rw [i64s_getD (by rw [overL_len]; exact hxn), overL_get0 hxn] at cxx
        have fu := (hS.out.rowAt 0 rfl).frozenAt u
        have fx := (hS.out.rowAt 0 rfl).frozenAt x
        have hbu := exc_tk hG'.out hF.out (u : Int)
        have hbx := exc_tk hG'.out hF.out (x : Int)
        have hS1 := Lib.hid (hS.out.box [.int .i64 (u : Int), .int .i64 (x : Int), .int .i64 L[k].2.2] 146)
        have hmd := Lib.hid hS1.out.mod
        have ngb : g ≠ wr.heap.size := by omega
        have ngf : gf ≠ wr.heap.size := by omega
        have hga : gf ≠ g := by
          have h9 : w.heap.size ≤ g := hS.out.rowNew 0 rfl rfl
          omega
        simp only [hu, hx] at q0 q1
        have hcell' := Lib.hid (fun W (m : Mod [] w W) => hcell W k (.int .i64 (f.getD k 0)) m (i64s_getD hkf))
        clear hS he0 he1 he2 hu hx hcell
        generalize hW : L[k].2.2 = W at *
        generalize f.getD k 0 = y at *
        clear hW
        by_cases c1 : W < y
        · have t2 : decide (W < y) = true := by simpa using c1
          have hb := Lib.hid (hno.out (by omega))
          go_upto_region 7 with fail
          go_quiet (fail)
          go_wp2_with fail
          exact bodyPost_ret (v := .tuple #[.slice none 0 0, .bool false]) (by simp [results, Tryz.results28, go_sem]) rfl (fex_no hb.out (hmd.out.drewN _))
        · have t2 : decide (W < y) = false := by simpa using c1
          by_cases c2 : y < -W
          · have t3 : decide (y < -W) = true := by simpa using c2
            have hb := Lib.hid (hno.out (by omega))
            go_upto_region 7 with fail
            go_quiet (fail)
            go_wp2_with fail
            exact bodyPost_ret (v := .tuple #[.slice none 0 0, .bool false]) (by simp [results, Tryz.results28, go_sem]) rfl (fex_no hb.out (hmd.out.drewN _))
          · have t3 : decide (y < -W) = false := by simpa using c2
            have hF1 := Lib.hid (hfs.out ⟨by omega, by omega⟩)
            go_upto_region 7 with fail
            go_quiet (fail)
            refine then_wrap (hS1.out.still ((Mod.refl [] _).drewN _)) ?_
            intro W7 hS7
            have hlu : (overL n (L.take k) (f.take k)).length = n := overL_len _ _ _
            have hgu := overL_get0 (L := L.take k) (f := f.take k) hun
            have hgx := overL_get0 (L := L.take k) (f := f.take k) hxn
            generalize overL n (L.take k) (f.take k) = O at *
            generalize exc (L.take k) (f.take k) (u : Int) = eu at *
            generalize exc (L.take k) (f.take k) (x : Int) = ex at *
            have hgx2 : (O.set u (eu - y)).getD x 0 = ex := by rw [getD_set5 O u _ (by rw [hlu]; exact hun), if_neg (by omega)]; exact hgx
            generalize wr.heap.size = B at *
            have e0 := (hS7.blkAt 0 rfl).cell 0 rfl
            have el := (hS7.blkAt 0 rfl).lt
            have cu7 := (hS7.rowAt 1 rfl).cellAt u (by omega)
            rw [i64s_getD (by rw [hlu]; exact hun), hgu] at cu7
            have fu7 := (hS7.rowAt 1 rfl).frozenAt u
            have lg7 : g < W7.heap.size := own_lt (hS7.rowAt 1 rfl) (g := g) rfl
            have cf7 := hcell'.out _ hS7.mod
            have lgf7 : gf < W7.heap.size := Nat.lt_of_lt_of_le hgf hS7.mod.size
            have hSA := Lib.hid (by
              have h5 := hS7.rowsetAt 1 rfl u (.int .i64 (eu - y))
              simp only [List.set_cons_succ, List.set_cons_zero] at h5
              rw [i64s_set] at h5
              exact h5)
            clear hS7
            go_upto_region 9 with fail
            go_still_tail 11, (by kernel_rfl)
            go_upto_region 10 with fail
            clear e0 el cu7 fu7 lg7 cf7 lgf7
            refine then_wrap (hSA.out.still (Mod.refl [] _).drew) ?_
            intro W8 hS8
            have e1 := (hS8.blkAt 0 rfl).cell 1 rfl
            have el := (hS8.blkAt 0 rfl).lt
            have cx8 := (hS8.rowAt 1 rfl).cellAt x (by omega)
            rw [i64s_getD (by rw [List.length_set, hlu]; exact hxn), hgx2] at cx8
            have fx8 := (hS8.rowAt 1 rfl).frozenAt x
            have lg8 : g < W8.heap.size := own_lt (hS8.rowAt 1 rfl) (g := g) rfl
            have cf8 := hcell'.out _ hS8.mod
            have lgf8 : gf < W8.heap.size := Nat.lt_of_lt_of_le hgf hS8.mod.size
            have hSB := Lib.hid (by
              have h5 := hS8.rowsetAt 1 rfl x (.int .i64 (ex + y))
              simp only [List.set_cons_succ, List.set_cons_zero] at h5
              rw [i64s_set, hst.out] at h5
              exact h5.tail)
            clear hS8 hst hcell' hSA hgu hgx hgx2 hlu
            go_still_tail 11, (by kernel_rfl)
            go_wp2_with fail
            go_roundw
            case rel => exact ⟨k + 1, by omega, by go_num, hF1, Lib.hid (hSB.out.still (Mod.refl [] _).drew)⟩
            case measure => simp [intOf]; omega
      · have hkl : k = L.length := by omega
        have hF1 := hF.out
        rw [hkl, List.take_length, ← hl'.out, List.take_length] at hF1
        have hb := fbB_iff.2 hF1
        have hS5 := hS.out.swap.tail
        rw [hkl, List.take_length, ← hl'.out, List.take_length] at hS5
        have hS6 := Lib.hid hS5
        have hb' := Lib.hid hb
        clear hS hF hF1 hb hS5 hkl hk
        go_wp2_with fail
        refine bodyPost_ret (v := .tuple #[.slice (some ⟨g, 0, none⟩) n n, .bool true]) (by simp [results, Tryz.results28, go_sem]) rfl ?_
        have e : excP n L f = overL n L f := by unfold excP; rw [if_pos hb'.out]
        unfold FexOut
        rw [e, hb'.out, overL_len]
        exact ⟨_, _, rfl, hS6.out.toMade⟩
  · have t1 : ((f.length : Int) != (L.length : Int)) = true := by simp; omega
    have hb := Lib.hid (fbB_len hl)
    clear hl
    go_enter Tryz.func28, Tryz.ntmps28
    go_wp2_with (go_at_call 73; refine cM.out.mono ?_; rintro e w1 ⟨rfl, hw1⟩; subst w1)
    exact bodyPost_ret (v := .tuple #[.slice none 0 0, .bool false]) (by simp [results, Tryz.results28, go_sem]) rfl (fex_no hb.out (Mod.refl _ _))
end Edge
end Go.Proofs.YtjpfmkfikidgkaaGreat

set_option linter.unusedVariables false
set_option linter.unusedSimpArgs false
namespace Go.Proofs.YtjpfmkfikidgkaaGreat
open Go.RowKit
namespace Edge
def REx28 (n : Nat) (L : List Ed) (f : List Int) (w : World) (e : Ending) (w' : World) : Prop := ∃ a c, e = .returned (.agg #[.slice a (excP n L f).length c, .bool (fbB L f)]) ∧ Made w w' 2 1 a (excP n L f).length c (i64s (excP n L f))
theorem rex_no {n : Nat} {L : List Ed} {f : List Int} {w w' : World} (h : fbB L f = false) (hm : Mod [] w w') : REx28 n L f w (.returned (.agg #[.slice none 0 0, .bool false])) w' := by
  have e : excP n L f = [] := by unfold excP; rw [h]; rfl
  unfold REx28
  rw [e, h]
  exact ⟨none, 0, rfl, World.ownsRow_nil _ _ _ _, hm, by simp [Value.ownBlock]⟩
set_option maxRecDepth 100000 in
set_option maxHeartbeats 16000000 in
theorem rexcess28_any {n : Nat} {L : List Ed} {a : Option Addr} {c : Nat} {f : List Int} {v : Value} {w : World} (h : Rd w 3 (.slice a L.length c) L.length (flat encEd L)) (hG : GOk n L) (hf : Rd w 1 v f.length (i64s f)) (hfb : ∀ x ∈ f, -9223372036854775808 ≤ x ∧ x ≤ 9223372036854775807) :
    Calls Tryz.prog 30 #[netV n a L.length c, v] w (REx28 n L f w) := by
  obtain ⟨af, cf, rfl⟩ := hf.val
  have hle := hf.le
  have hlen := hG.len
  have hn4 := hG.le
  have hst := Lib.hid (((Sep.empty w).box [.int .i64 n, .slice a L.length c] 32).box [.slice none 0 0, .bool false] 60)
  rw [World.size_alloc] at hst
  have h' := Lib.hid h
  have hf' := Lib.hid hf
  have hG' := Lib.hid hG
  have hfb' := Lib.hid hfb
  clear h hf hG hfb
  unfold netV
  go_enter Tryz.func30, Tryz.ntmps30
  go_upto_region 1 with fail
  generalize (w.alloc (.cells #[.int .i64 n, .slice a L.length c] 32)).alloc (.cells #[.slice none 0 0, .bool false] 60) = w1 at *
  generalize w.heap.size + 1 = Bs at *
  generalize w.heap.size = Bn at *
  by_cases hl : f.length = L.length
  · have t1 : ((f.length : Int) != (L.length : Int)) = false := by simp; omega
    have hl' := Lib.hid hl
    have b1 := (hst.out.blkAt 1 rfl).cell 1 rfl
    have bl := (hst.out.blkAt 1 rfl).lt
    go_upto_region 4 with fail
    go_loopw [5] (fun i wr => ∃ k : Nat, k ≤ L.length ∧ i = .int .i64 k ∧ Hid (FB (L.take k) (f.take k)) ∧ Hid (Sep w wr [Blk Bs [.slice none 0 0, .bool false] 60, Blk Bn [.int .i64 n, .slice a L.length c] 32])) (fun i _ => L.length - (intOf i).toNat)
    case atStart => exact ⟨0, Nat.zero_le _, rfl, Lib.hid trivial, hst⟩
    case round =>
      clear hst b1 bl
      obtain ⟨k, hk, rfl, hF, hS⟩ := hrel
      have b1 := (hS.out.blkAt 1 rfl).cell 1 rfl
      have bl := (hS.out.blkAt 1 rfl).lt
      by_cases hlt : k < L.length
      · have hlt1 : (k : Int) < f.length := by omega
        have hlt2 : (k : Int) < L.length := by omega
        obtain ⟨ge, o, rfl, hge, hcl⟩ := ed_cells h'.out hlt
        obtain ⟨_, _, q2⟩ := hcl _ hS.out.mod
        obtain ⟨gf, o2, rfl, hgf, hfc⟩ := rd_cell hf'.out (show k < f.length by omega)
        have qf := hfc wr k (.int .i64 (f.getD k 0)) hS.out.mod (i64s_getD (by omega))
        have lge : ge < wr.heap.size := Nat.lt_of_lt_of_le hge hS.out.mod.size
        have lgf : gf < wr.heap.size := Nat.lt_of_lt_of_le hgf hS.out.mod.size
        have hno := Lib.hid (fbB_no (f := f) hlt)
        have hfs := Lib.hid (fb_step hl'.out hlt hF.out)
        have hp := hG'.out.pos _ (List.getElem_mem hlt)
        have hcap := capE_le hG'.out (2 * k)
        rw [capE_get (show 2 * k < 2 * L.length by omega)] at hcap
        have e2k : 2 * k / 2 = k := by omega
        simp only [e2k] at hcap
        have hfr := hfb'.out (f.getD k 0) (by rw [List.getD_eq_getElem?_getD, List.getElem?_eq_getElem (show k < f.length by omega)]; exact List.getElem_mem _)
        have hSd := Lib.hid (fun t => hS.out.still ((Mod.refl [] wr).drewN t))
        clear hS hcl hfc
        generalize hW : L[k].2.2 = W at *
        generalize f.getD k 0 = y at *
        clear hW
        by_cases c1 : W < y
        · have t2 : decide (W < y) = true := by simpa using c1
          have hb := Lib.hid (hno.out (by omega))
          go_upto_region 6 with fail
          go_quiet (fail)
          have hS2 := Lib.hid (hSd.out nq)
          clear hSd hfs
          generalize wr.drewN nq = wq at *
          have s0 := (hS2.out.blkAt 0 rfl).cell 0 rfl
          have s1 := (hS2.out.blkAt 0 rfl).cell 1 rfl
          have sf := (hS2.out.blkAt 0 rfl).free
          have sl := (hS2.out.blkAt 0 rfl).lt
          have hS3 := Lib.hid (((hS2.out.set 0 (.slice none 0 0)).set 1 (.bool false)))
          clear hS2
          go_wp2_with fail
          generalize (wq.setCell ⟨Bs, 0, none⟩ (.slice none 0 0)).setCell ⟨Bs, 1, none⟩ (.bool false) = w2 at *
          have z0 := (hS3.out.blkAt 0 rfl).cell 0 rfl
          have z1 := (hS3.out.blkAt 0 rfl).cell 1 rfl
          refine bodyPost_ret (v := .agg #[.slice none 0 0, .bool false]) ?_ rfl (rex_no hb.out hS3.out.mod)
          simp [results, Tryz.results30, go_sem, z0, z1]
        · have t2 : decide (W < y) = false := by simpa using c1
          by_cases c2 : y < -W
          · have t3 : decide (y < -W) = true := by simpa using c2
            have hb := Lib.hid (hno.out (by omega))
            go_upto_region 6 with fail
            go_quiet (fail)
            have hS2 := Lib.hid (hSd.out nq)
            clear hSd hfs
            generalize wr.drewN nq = wq at *
            have s0 := (hS2.out.blkAt 0 rfl).cell 0 rfl
            have s1 := (hS2.out.blkAt 0 rfl).cell 1 rfl
            have sf := (hS2.out.blkAt 0 rfl).free
            have sl := (hS2.out.blkAt 0 rfl).lt
            have hS3 := Lib.hid (((hS2.out.set 0 (.slice none 0 0)).set 1 (.bool false)))
            clear hS2
            go_wp2_with fail
            generalize (wq.setCell ⟨Bs, 0, none⟩ (.slice none 0 0)).setCell ⟨Bs, 1, none⟩ (.bool false) = w2 at *
            have z0 := (hS3.out.blkAt 0 rfl).cell 0 rfl
            have z1 := (hS3.out.blkAt 0 rfl).cell 1 rfl
            refine bodyPost_ret (v := .agg #[.slice none 0 0, .bool false]) ?_ rfl (rex_no hb.out hS3.out.mod)
            simp [results, Tryz.results30, go_sem, z0, z1]
          · have t3 : decide (y < -W) = false := by simpa using c2
            have hF1 := Lib.hid (hfs.out ⟨by omega, by omega⟩)
            go_upto_region 6 with fail
            go_quiet (fail)
            have hS2 := Lib.hid (hSd.out nq)
            clear hSd hfs
            generalize wr.drewN nq = wq at *
            go_wp2_with fail
            go_roundw
            case rel => exact ⟨k + 1, by omega, by go_num, hF1, hS2⟩
            case measure => simp [intOf]; omega
      · have hkl : k = L.length := by omega
        have hF1 := hF.out
        rw [hkl, List.take_length, ← hl'.out, List.take_length] at hF1
        have hb := Lib.hid (fbB_iff.2 hF1)
        have hRX : RX w L f a c af cf := ⟨h'.out, hl'.out ▸ hf'.out⟩
        have cEx := Lib.hid (fun W (m : Mod [] w W) v => xexc23 (hRX.still m) hG'.out hF1 v)
        have b0 := (hS.out.blkAt 1 rfl).cell 0 rfl
        have hS2 := Lib.hid ((hS.out.box [.int .i64 n, .slice a L.length c, .slice af L.length cf] 35).add (P := Row 2 1 0 (.slice none 0 0) []) (Mod.refl _ _) (F := []) ⟨World.ownsRow_nil _ 0 _ 1, by simp [Value.ownBlock]⟩ (by simp))
        have t3 : decide ((k : Int) < f.length) = false := by simp; omega
        clear hF hS hF1 hRX hkl
        unfold restV at cEx
        rw [hl]
        rw [hl] at t3
        go_wp2_with fail
        generalize wr.alloc (.cells #[.int .i64 n, .slice a L.length c, .slice af L.length cf] 35) = w3 at *
        generalize wr.heap.size = Br at *
        clear b0 b1 bl
        go_loopw [6, 8] (fun s6 i wv => ∃ (j : Nat) (a6 : Option Addr) (c6 : Nat), j ≤ n ∧ i = .int .i64 j ∧ s6 = .slice a6 j c6 ∧ Hid (Sep w wv [Row 2 1 j (.slice a6 j c6) (i64s (overL j L f)), Blk Br [.int .i64 n, .slice a L.length c, .slice af L.length cf] 35, Blk Bs [.slice none 0 0, .bool false] 60, Blk Bn [.int .i64 n, .slice a L.length c] 32])) (fun _ i _ => n - (intOf i).toNat)
        case atStart => exact ⟨0, none, 0, Nat.zero_le _, rfl, rfl, hS2⟩
        case round =>
          clear hS2
          obtain ⟨j, a6, c6, hj, rfl, rfl, hS⟩ := hrel
          have r0 := (hS.out.blkAt 1 rfl).cell 0 rfl
          have r1 := (hS.out.blkAt 1 rfl).cell 1 rfl
          have r2 := (hS.out.blkAt 1 rfl).cell 2 rfl
          have rl := (hS.out.blkAt 1 rfl).lt
          have n0 := (hS.out.blkAt 3 rfl).cell 0 rfl
          have nl := (hS.out.blkAt 3 rfl).lt
          by_cases hjn : j < n
          · have hj1 : (j : Int) < n := by omega
            have cE := Lib.hid (cEx.out _ hS.out.mod (j : Int))
            have hov := Lib.hid (show overL (j + 1) L f = overL j L f ++ [exc L f (j : Int)] by unfold overL; rw [List.range_succ, List.map_append]; rfl)
            generalize exc L f (j : Int) = z at *
            go_wp2_with fail
            refine cE.out.mono ?_
            rintro e w4 ⟨rfl, hm4⟩
            have hS4 := Lib.hid (hS.out.still hm4)
            clear hm4 cE hS r0 r1 r2 rl n0 nl
            try dsimp only
            go_wp2_with (at_builtin; refine app_own rfl (.tmp 57) (.tmp 61) 33 2 _ 1 8 rfl Tryz.underlying33 infoI64b rfl (by omega) (by omega) (.slice a6 j c6) j 1 (i64s (overL j L f)) [.int .i64 z] rfl rfl (by simp [World.setCell]) rfl (by simp [Value.oneCell']) hS4.out.row (by omega) ?_; intro a7 c7 w6 ho6 hm6 hb6; have hS6 := Lib.hid (hS4.out.grow ho6 hm6 hb6); clear ho6 hm6 hb6)
            go_roundw
            case rel =>
              refine ⟨j + 1, a7, c7, by omega, by go_num, rfl, ?_⟩
              rw [hov.out, i64s_append]
              exact hS6
            case measure => simp [intOf]; omega
          · obtain rfl : j = n := by omega
            have s0 := (hS.out.blkAt 2 rfl).cell 0 rfl
            have s1 := (hS.out.blkAt 2 rfl).cell 1 rfl
            have sf := (hS.out.blkAt 2 rfl).free
            have sl := (hS.out.blkAt 2 rfl).lt
            have hS3 := Lib.hid ((((hS.out.pick 2 (by simp)).set 0 (.slice a6 j c6)).set 1 (.bool true)))
            clear hS
            go_wp2_with fail
            generalize (World.setCell _ ⟨Bs, 0, none⟩ (.slice a6 j c6)).setCell ⟨Bs, 1, none⟩ (.bool true) = w2 at *
            have z0 := (hS3.out.blkAt 0 rfl).cell 0 rfl
            have z1 := (hS3.out.blkAt 0 rfl).cell 1 rfl
            refine bodyPost_ret (v := .agg #[.slice a6 j c6, .bool true]) ?_ rfl ?_
            · simp [results, Tryz.results30, go_sem, z0, z1]
            · have e : excP j L f = overL j L f := by unfold excP; rw [if_pos hb.out]
              unfold REx28
              rw [e, hb.out, overL_len]
              exact ⟨_, _, rfl, hS3.out.tail.toMade⟩
  · have t1 : ((f.length : Int) != (L.length : Int)) = true := by simp; omega
    have hb := Lib.hid (fbB_len hl)
    have b1 := (hst.out.blkAt 1 rfl).cell 1 rfl
    have bl := (hst.out.blkAt 1 rfl).lt
    have s0 := (hst.out.blkAt 0 rfl).cell 0 rfl
    have s1 := (hst.out.blkAt 0 rfl).cell 1 rfl
    have sf := (hst.out.blkAt 0 rfl).free
    have sl := (hst.out.blkAt 0 rfl).lt
    have hS2 := Lib.hid (((hst.out.set 0 (.slice none 0 0)).set 1 (.bool false)))
    clear hst hl
    go_wp2_with fail
    generalize (w1.setCell ⟨Bs, 0, none⟩ (.slice none 0 0)).setCell ⟨Bs, 1, none⟩ (.bool false) = w2 at *
    have z0 := (hS2.out.blkAt 0 rfl).cell 0 rfl
    have z1 := (hS2.out.blkAt 0 rfl).cell 1 rfl
    refine bodyPost_ret (v := .agg #[.slice none 0 0, .bool false]) ?_ rfl (rex_no hb.out hS2.out.mod)
    simp [results, Tryz.results30, go_sem, z0, z1]
end Edge
end Go.Proofs.YtjpfmkfikidgkaaGreat

set_option linter.unusedVariables false
set_option linter.unusedSimpArgs false
namespace Go.Proofs.YtjpfmkfikidgkaaGreat
namespace Edge
/-! Edges merged, of any weights. -/
theorem merged_gen {k : Int} {l : List Ed} (hc : ∀ e ∈ l, 0 ≤ e.1 ∧ e.1 < k ∧ 0 ≤ e.2.1 ∧ e.2.1 < k ∧ 0 ≤ e.2.2) : (∀ e ∈ merged l, 0 ≤ e.1 ∧ e.1 < e.2.1 ∧ e.2.1 < k ∧ 0 < e.2.2) ∧ total (merged l) ≤ total l ∧ (merged l).length ≤ l.length := by
  have hi : ∀ x ∈ ins l, 0 ≤ x.1 ∧ x.1 < x.2.1 ∧ x.2.1 < k ∧ 0 ≤ x.2.2 := by
    intro x hx
    obtain ⟨e, he, h1, rfl⟩ := mem_ins hx
    have h2 := hc e he
    obtain ⟨h3, h4, h5⟩ := norm_ends h1
    have h6 := norm_w e
    omega
  have hm : ∀ e ∈ merged l, wt (key e) (ins l) = e.2.2 ∧ e.2.2 ≠ 0 := by
    intro e he
    obtain ⟨r1, r2⟩ := foldR (ins l) [] List.Pairwise.nil
    unfold merged allR at he
    rw [mem_heavy r1.apart, r2] at he
    simpa [wt] using he
  refine ⟨fun e he => ?_, ?_, ?_⟩
  · obtain ⟨h1, h2⟩ := hm e he
    obtain ⟨x, hx, e1⟩ := wt_some (k := key e) (l := ins l) (by omega)
    have h3 := hi x hx
    have e2 : (key x).1 = (key e).1 := by rw [e1]
    have e3 : (key x).2 = (key e).2 := by rw [e1]
    have := wt_nonneg (k := key e) (l := ins l) (fun x hx => (hi x hx).2.2.2)
    unfold key at e2 e3
    simp only at e2 e3
    omega
  · unfold merged allR
    rw [total_heavy, foldR_total _ _ List.Pairwise.nil]
    have h1 := tot_ins (l := l) (fun e he => (hc e he).2.2.2.2)
    simp only [total]
    omega
  · have h1 : (merged l).length ≤ (allR l).length := List.length_filter_le _ _
    have h2 := foldR_len (ins l) []
    have h3 := ins_len l
    unfold allR at h1
    simp only [List.length_nil] at h2
    omega
/-- Edges in order, each of which weighs something, are what they weigh. -/
theorem rising_wt {A B : List Ed} (ha : Rising A) (hb : Rising B) (wa : ∀ e ∈ A, e.2.2 ≠ 0) (wb : ∀ e ∈ B, e.2.2 ≠ 0) (h : ∀ k, wt k A = wt k B) : A = B := by
  have hh : ∀ {X : List Ed}, Rising X → (∀ e ∈ X, e.2.2 ≠ 0) → ∀ e, e ∈ X ↔ wt (key e) X = e.2.2 ∧ e.2.2 ≠ 0 := by
    intro X hx hw e
    have e1 : heavy X = X := List.filter_eq_self.2 (fun x hx => by simpa using hw x hx)
    rw [← mem_heavy hx.apart, e1]
  refine rising_eq ha hb (fun e => ?_)
  rw [hh ha wa, hh hb wb, h]
theorem ins_self {P : List Ed} (h : ∀ e ∈ P, e.1 < e.2.1) : ins P = P := by
  unfold ins
  rw [List.filter_eq_self.2 (fun e he => by have := h e he; simp; omega)]
  have : ∀ e ∈ P, norm e = e := fun e he => by have := h e he; unfold norm; rw [if_neg (by omega)]
  exact (List.map_congr_left this).trans (List.map_id P)
theorem merged_self {A P : List Ed} (hA : Rising A) (wA : ∀ e ∈ A, e.2.2 ≠ 0) (hP : ∀ e ∈ P, e.1 < e.2.1) (h : ∀ k, wt k P = wt k A) : merged P = A := by
  refine rising_wt (merged_rising P) hA (fun e he => ?_) wA (fun k => by rw [merged_wt, ins_self hP, h])
  unfold merged heavy at he
  have := (List.mem_filter.1 he).2
  simpa using this
/-! Edges that weigh too much, split. -/
def pcs (w : Int) : Nat := ((w - 1) / 2147483648).toNat
def splitE (e : Ed) : List Ed := List.replicate (pcs e.2.2) (e.1, e.2.1, 2147483648) ++ [(e.1, e.2.1, e.2.2 - 2147483648 * (pcs e.2.2 : Nat))]
def splitL (A : List Ed) : List Ed := A.flatMap splitE
theorem pcs_ok {w : Int} (h : 0 < w) : ((pcs w : Nat) : Int) = (w - 1) / 2147483648 ∧ 1 ≤ w - 2147483648 * (pcs w : Nat) ∧ w - 2147483648 * (pcs w : Nat) ≤ 2147483648 := by
  unfold pcs
  omega
theorem wt_rep (k : Int × Int) (e : Ed) : ∀ n : Nat, wt k (List.replicate n e) = if key e = k then (n : Int) * e.2.2 else 0
  | 0 => by simp [wt]
  | n + 1 => by
    simp only [List.replicate_succ, wt, wt_rep k e n]
    by_cases c : key e = k
    · simp only [c, if_true, Int.natCast_add, Int.natCast_one, Int.add_mul]; omega
    · simp only [c, if_false]; omega
theorem wt_splitE {e : Ed} (k : Int × Int) : wt k (splitE e) = if key e = k then e.2.2 else 0 := by
  unfold splitE
  rw [wt_append, wt_rep]
  simp only [wt]
  have e1 : key (e.1, e.2.1, (2147483648 : Int)) = key e := rfl
  have e2 : key (e.1, e.2.1, e.2.2 - 2147483648 * ((pcs e.2.2 : Nat) : Int)) = key e := rfl
  rw [e1, e2]
  by_cases c : key e = k
  · simp only [c, if_true]; omega
  · simp only [c, if_false]; omega
theorem wt_splitL (k : Int × Int) : ∀ {A : List Ed}, wt k (splitL A) = wt k A
  | [] => rfl
  | e :: l => by
    have := wt_splitL k (A := l)
    unfold splitL at this ⊢
    rw [List.flatMap_cons, wt_append, this, wt_splitE]
    simp only [wt]
theorem mem_splitE {e x : Ed} (h : 0 < e.2.2) (hx : x ∈ splitE e) : x.1 = e.1 ∧ x.2.1 = e.2.1 ∧ 0 < x.2.2 ∧ x.2.2 ≤ 2147483648 := by
  have hp := pcs_ok h
  unfold splitE at hx
  rcases List.mem_append.1 hx with hx | hx
  · have := (List.mem_replicate.1 hx).2
    subst this
    exact ⟨rfl, rfl, by simp only; omega, by simp only; omega⟩
  · rw [List.mem_singleton] at hx
    subst hx
    exact ⟨rfl, rfl, by simp only; omega, by simp only; omega⟩
theorem split_len : ∀ {A : List Ed}, (∀ e ∈ A, 0 < e.2.2) → 2147483648 * ((splitL A).length : Int) ≤ total A + 2147483648 * (A.length : Int)
  | [], _ => by simp [splitL, total]
  | e :: l, h => by
    have h1 := split_len (A := l) (fun x hx => h x (List.mem_cons_of_mem _ hx))
    have h2 := pcs_ok (h e (by simp))
    unfold splitL at h1 ⊢
    rw [List.flatMap_cons, List.length_append]
    have h3 : (splitE e).length = pcs e.2.2 + 1 := by simp [splitE]
    rw [h3]
    simp only [total, List.length_cons]
    omega
theorem split_ok {k : Int} {A : List Ed} (h : ∀ e ∈ A, 0 ≤ e.1 ∧ e.1 < e.2.1 ∧ e.2.1 < k ∧ 0 < e.2.2) : ∀ x ∈ splitL A, checkE k x = 0 ∧ x.1 < x.2.1 := by
  intro x hx
  unfold splitL at hx
  obtain ⟨e, he, hx⟩ := List.mem_flatMap.1 hx
  have h1 := h e he
  obtain ⟨e1, e2, e3, e4⟩ := mem_splitE h1.2.2.2 hx
  rw [checkE_ok]
  omega
theorem split_merged {k : Int} {A : List Ed} (hR : Rising A) (h : ∀ e ∈ A, 0 ≤ e.1 ∧ e.1 < e.2.1 ∧ e.2.1 < k ∧ 0 < e.2.2) : merged (splitL A) = A :=
  merged_self hR (fun e he => by have := h e he; omega) (fun e he => (split_ok h e he).2) (fun q => wt_splitL q)
/-! Namings. -/
def isN (k : Int) (name : List Int) : Prop := (0 ≤ k ∧ k ≤ 4096 ∧ name.length ≤ 4096) ∧ (∀ x ∈ name, 0 ≤ x ∧ x < k) ∧ ∀ v : Nat, (v : Int) < k → (v : Int) ∈ name
/-- Which names have come; how many. -/
def cameN (K : Nat) (name : List Int) (i : Nat) : List Bool := (List.range K).map fun (v : Nat) => decide ((v : Int) ∈ name.take i)
def cntN (K : Nat) (name : List Int) (i : Nat) : Nat := ((List.range K).filter fun (v : Nat) => decide ((v : Int) ∈ name.take i)).length
theorem cameN_len (K : Nat) (name : List Int) (i : Nat) : (cameN K name i).length = K := by simp [cameN]
theorem cameN_get {K : Nat} {name : List Int} {i v : Nat} (h : v < K) : (cameN K name i)[v]? = some (decide ((v : Int) ∈ name.take i)) := by
  unfold cameN
  rw [List.getElem?_map, List.getElem?_range h]; rfl
theorem cameN_zero (K : Nat) (name : List Int) : cameN K name 0 = List.replicate K false := by
  apply List.eq_replicate_iff.2 ⟨cameN_len _ _ _, ?_⟩
  intro x hx
  simp only [cameN, List.mem_map] at hx
  obtain ⟨v, _, rfl⟩ := hx
  simp
theorem cntN_zero (K : Nat) (name : List Int) : cntN K name 0 = 0 := by
  unfold cntN
  rw [List.length_eq_zero_iff, List.filter_eq_nil_iff]
  intro v _
  simp
theorem cntN_le (K : Nat) (name : List Int) (i : Nat) : cntN K name i ≤ K := by
  have := List.length_filter_le (fun (v : Nat) => decide ((v : Int) ∈ name.take i)) (List.range K)
  simpa [cntN] using this
theorem take_mem {name : List Int} {i : Nat} (hi : i < name.length) (y : Int) : y ∈ name.take (i + 1) ↔ y ∈ name.take i ∨ y = name[i] := by
  rw [List.take_succ_eq_append_getElem hi, List.mem_append, List.mem_singleton]
theorem cameN_old {K : Nat} {name : List Int} {i : Nat} (hi : i < name.length) (h : name[i] ∈ name.take i) : cameN K name (i + 1) = cameN K name i ∧ cntN K name (i + 1) = cntN K name i := by
  have e : ∀ y : Int, (y ∈ name.take (i + 1)) = (y ∈ name.take i) := fun y => propext (by rw [take_mem hi]; exact ⟨fun hh => hh.elim id (fun e => e ▸ h), .inl⟩)
  constructor
  · unfold cameN; simp only [e]
  · unfold cntN; simp only [e]
theorem cameN_new {K : Nat} {name : List Int} {i x : Nat} (hi : i < name.length) (hx : name[i] = (x : Int)) (hxK : x < K) (h : name[i] ∉ name.take i) : (cameN K name i).set x true = cameN K name (i + 1) ∧ cntN K name (i + 1) = cntN K name i + 1 := by
  have e : ∀ y : Int, y ∈ name.take (i + 1) ↔ y ∈ name.take i ∨ y = (x : Int) := fun y => by rw [take_mem hi, hx]
  rw [hx] at h
  constructor
  · apply List.ext_getElem
    · simp [cameN]
    intro v g1 g2
    simp only [cameN, List.getElem_set, List.getElem_map, List.getElem_range, e]
    by_cases c : x = v
    · subst c; simp
    · rw [if_neg c]
      have : ((v : Int) ∈ name.take i ∨ (v : Int) = (x : Int)) ↔ (v : Int) ∈ name.take i := ⟨fun hh => hh.elim id (fun hh => by omega), .inl⟩
      simp only [this]
  · unfold cntN
    have hg : ∀ K : Nat, ((List.range K).filter fun (v : Nat) => decide ((v : Int) ∈ name.take (i + 1))).length = ((List.range K).filter fun (v : Nat) => decide ((v : Int) ∈ name.take i)).length + if x < K then 1 else 0 := by
      intro K
      induction K with
      | zero => simp
      | succ K ih =>
        rw [List.range_succ, List.filter_append, List.filter_append, List.length_append, List.length_append, ih]
        by_cases c : x = K
        · subst c
          have e1 : ((x : Int) ∈ name.take (i + 1)) := (e _).2 (.inr rfl)
          simp [e1, h]
        · have e1 : ((K : Int) ∈ name.take (i + 1)) ↔ (K : Int) ∈ name.take i := by rw [e]; exact ⟨fun hh => hh.elim id (fun hh => by omega), .inl⟩
          by_cases d : (K : Int) ∈ name.take i
          · have d1 := e1.2 d
            simp only [List.filter_cons, d, d1, decide_true, if_true, List.filter_nil, List.length_cons, List.length_nil]
            by_cases f : x < K
            · rw [if_pos f, if_pos (by omega)]
            · rw [if_neg f, if_neg (by omega)]
          · have d1 : ¬ (K : Int) ∈ name.take (i + 1) := fun hh => d (e1.1 hh)
            simp only [List.filter_cons, d, d1, decide_false, Bool.false_eq_true, if_false, List.filter_nil, List.length_nil]
            by_cases f : x < K
            · rw [if_pos f, if_pos (by omega)]
            · rw [if_neg f, if_neg (by omega)]
    rw [hg K, if_pos hxK]
theorem cntN_all {K : Nat} {name : List Int} : cntN K name name.length = K ↔ ∀ v : Nat, v < K → (v : Int) ∈ name := by
  unfold cntN
  rw [List.take_length]
  constructor
  · intro h v hv
    have h2 : ((List.range K).filter fun (v : Nat) => decide ((v : Int) ∈ name)) = List.range K := by
      apply List.filter_eq_self.2
      have h3 := List.length_filter_eq_length_iff (p := fun (v : Nat) => decide ((v : Int) ∈ name)) (l := List.range K)
      exact h3.1 (by rw [h, List.length_range])
    have := List.filter_eq_self.1 h2 v (List.mem_range.2 hv)
    simpa using this
  · intro h
    rw [List.filter_eq_self.2 (fun v hv => by simpa using h v (List.mem_range.1 hv)), List.length_range]
/-- An edge's ends by their names. -/
def mapE (name : List Int) (e : Ed) : Ed := (name.getD e.1.toNat 0, name.getD e.2.1.toNat 0, e.2.2)
def mapL (name : List Int) (L : List Ed) : List Ed := L.map (mapE name)
theorem total_map (name : List Int) : ∀ L : List Ed, total (mapL name L) = total L
  | [] => rfl
  | e :: l => by
    have := total_map name l
    unfold mapL at this ⊢
    simp only [List.map_cons, total, this, mapE]
theorem mapL_ok {n : Nat} {L : List Ed} {k : Int} {name : List Int} (hG : GOk n L) (hl : name.length = n) (hr : ∀ x ∈ name, 0 ≤ x ∧ x < k) : ∀ e ∈ mapL name L, 0 ≤ e.1 ∧ e.1 < k ∧ 0 ≤ e.2.1 ∧ e.2.1 < k ∧ 0 ≤ e.2.2 := by
  intro e he
  unfold mapL at he
  obtain ⟨x, hx, rfl⟩ := List.mem_map.1 he
  have h1 := hG.ends x hx
  have h2 := hG.pos x hx
  have hg : ∀ j : Nat, j < name.length → 0 ≤ name.getD j 0 ∧ name.getD j 0 < k := fun j hj => by
    rw [List.getD_eq_getElem?_getD, List.getElem?_eq_getElem hj]
    exact hr _ (List.getElem_mem hj)
  have h3 := hg x.1.toNat (by omega)
  have h4 := hg x.2.1.toNat (by omega)
  unfold mapE
  simp only
  omega
/-- The naming of two vertices put together. -/
def pairN (n : Nat) (u v : Int) : List Int := (List.range n).map fun (x : Nat) => if (x : Int) = max u v then min u v else if max u v < (x : Int) then (x : Int) - 1 else (x : Int)
theorem pairN_len (n : Nat) (u v : Int) : (pairN n u v).length = n := by simp [pairN]
theorem pairN_ok {n : Nat} {u v : Int} (hn : n ≤ 4096) (hu : 0 ≤ u ∧ u < n) (hv : 0 ≤ v ∧ v < n) (huv : u ≠ v) : isN ((n : Int) - 1) (pairN n u v) := by
  refine ⟨⟨by omega, by omega, by rw [pairN_len]; exact hn⟩, ?_, ?_⟩
  · intro y hy
    unfold pairN at hy
    obtain ⟨x, hx, rfl⟩ := List.mem_map.1 hy
    rw [List.mem_range] at hx
    split
    · omega
    · split <;> omega
  · intro w hw
    unfold pairN
    rw [List.mem_map]
    by_cases c : (w : Int) < max u v
    · exact ⟨w, by rw [List.mem_range]; omega, by rw [if_neg (by omega), if_neg (by omega)]⟩
    · exact ⟨w + 1, by rw [List.mem_range]; omega, by rw [if_neg (by omega), if_pos (by omega)]; omega⟩
end Edge
end Go.Proofs.YtjpfmkfikidgkaaGreat

set_option linter.unusedVariables false
set_option linter.unusedSimpArgs false
namespace Go.Proofs.YtjpfmkfikidgkaaGreat
open Go.RowKit
namespace Edge
def bools (l : List Bool) : List Value := l.map Value.bool
theorem bools_got {l : List Bool} {i : Nat} {b : Bool} (h : l[i]? = some b) : (bools l)[i]? = some (.bool b) := by simp [bools, h]
theorem bools_set (l : List Bool) (i : Nat) (b : Bool) : (bools l).set i (.bool b) = bools (l.set i b) := by simp [bools, List.map_set]
theorem infoB : (Tryz.prog.info? 4).map (fun i => (i.zero, i.size, i.bytes)) = some (some (.bool false), 1, 1) := by kernel_rfl
theorem naming_start (w : World) (K : Nat) (name : List Int) (hK : K ≤ 4096) : Sep w ((((w.alloc (.cells #[.int .i64 (K : Int)] 3)).alloc (.cells (madeCells #[.bool false] K) 4)).alloc (.cells #[.slice (some ⟨w.heap.size + 1, 0, none⟩) K K] 211)).alloc (.cells #[.int .i64 (K : Int)] 3))
    [Blk w.heap.size [.int .i64 (K : Int)] 3, Blk (w.heap.size + 1 + 1) [.slice (some ⟨w.heap.size + 1, 0, none⟩) K K] 211, Blk (w.heap.size + 1 + 1 + 1) [.int .i64 ((K : Int) - (cntN K name 0 : Nat))] 3, Row 4 1 K (.slice (some ⟨w.heap.size + 1, 0, none⟩) K K) (bools (cameN K name 0))] := by
  have h1 := (((Sep.empty w).box [.int .i64 (K : Int)] 3).made (made_made _ 4 (.bool false) K (by omega))).box [.slice (some ⟨w.heap.size + 1, 0, none⟩) K K] 211 |>.box [.int .i64 (K : Int)] 3
  simp only [World.size_alloc] at h1
  rw [cntN_zero, cameN_zero]
  have e : bools (List.replicate K false) = List.replicate K (.bool false) := by simp [bools]
  rw [e]
  simp only [Int.natCast_zero, Int.sub_zero, Int.cast_ofNat_Int]
  exact ((h1.pick 3 (by simp)).perm (List.Perm.cons _ (List.Perm.swap _ _ _)))
/-- What naming answers. -/
structure NamOut (k : Int) (name : List Int) (w : World) (e : Ending) (w' : World) : Prop where
  mk ::
  out : ∃ b : Bool, (b = true ↔ isN k name) ∧ e = .returned (.bool b) ∧ Mod [] w w'
end Edge
end Go.Proofs.YtjpfmkfikidgkaaGreat

set_option linter.unusedVariables false
set_option linter.unusedSimpArgs false
namespace Go.Proofs.YtjpfmkfikidgkaaGreat
open Go.RowKit
namespace Edge
theorem pieces_any (u v x : Int) (w : World) (h0 : 0 < x) (h1 : x ≤ 2251799813685248) : Calls Tryz.prog 215 #[.agg #[.int .i64 u, .int .i64 v, .int .i64 x]] w fun e w' => e = .returned (.int .i64 ((pcs x : Nat) + 1)) ∧ Mod [] w w' := by
  have hp := (pcs_ok h0).1
  have hq : 0 ≤ x - 1 := by omega
  have hmod := Lib.hid ((Mod.refl [] w).alloc (.cells #[.int .i64 u, .int .i64 v, .int .i64 x] 146))
  rw [hp]
  have h2 : 0 ≤ (x - 1) / 2147483648 := by omega
  have h3 : (x - 1) / 2147483648 ≤ 1048576 := by omega
  have t1 : ¬ ((x - 1) / 2147483648 + 1 < 1) := by omega
  have t2 : (1 : Int) ≤ (x - 1) / 2147483648 + 1 := by omega
  have t3 : max 1 ((x - 1) / 2147483648 + 1) = (x - 1) / 2147483648 + 1 := by omega
  clear hp
  go_enter Tryz.func215, Tryz.ntmps215
  go_wp2_with fail
  all_goals
    go_ret
    refine ⟨?_, hmod.out⟩
    first
      | rfl
      | exact ret_i64 (by omega)
theorem put_any {w0 w : World} {b : Nat} {s x : Int} {R : List Part} (hS : Sep w0 w (Blk b [.int .i64 s, .bool false] 286 :: R)) (h0 : 0 ≤ s) (h1 : 0 ≤ x) (h2 : s + x ≤ 4611686018427387904) :
    Calls Tryz.prog 214 #[.pointer (some ⟨b, 0, none⟩), .int .i64 x] w fun e w' => e = .returned (.bool true) ∧ Sep w0 w' (Blk b [.int .i64 (s + x), .bool false] 286 :: R) := by
  have b0 := hS.blk.cell 0 rfl
  have b1 := hS.blk.cell 1 rfl
  have bl := hS.blk.lt
  have bf0 := hS.blk.free 0
  have bf1 := hS.blk.free 1
  have had := Lib.hid (fun W => add_any h0 h1 h2 W)
  have hfin := Lib.hid ((hS.set 0 (.int .i64 (s + x))).set 1 (.bool false))
  clear hS
  go_enter Tryz.func214, Tryz.ntmps214
  go_wp2_with (go_at_call 168; refine (had.out _).mono ?_; rintro e w1 ⟨rfl, hw1⟩; subst w1)
  go_ret
  exact ⟨rfl, hfin.out⟩
theorem value_any {w0 w : World} {b : Nat} {s : Int} {R : List Part} (hS : Sep w0 w (Blk b [.int .i64 s, .bool false] 286 :: R)) :
    Calls Tryz.prog 216 #[.pointer (some ⟨b, 0, none⟩)] w fun e w' => e = .returned (.tuple #[.int .i64 s, .bool true]) ∧ w' = w := by
  have b0 := hS.blk.cell 0 rfl
  have b1 := hS.blk.cell 1 rfl
  have bl := hS.blk.lt
  clear hS
  go_enter Tryz.func216, Tryz.ntmps216
  go_wp2_with fail
  exact bodyPost_ret (v := .tuple #[.int .i64 s, .bool true]) (by simp [results, Tryz.results216, go_sem]) rfl ⟨rfl, rfl⟩
theorem splitL_snoc {A : List Ed} {k : Nat} (hk : k < A.length) : splitL (A.take (k + 1)) = splitL (A.take k) ++ splitE A[k] := by
  unfold splitL
  rw [List.take_succ_eq_append_getElem hk, List.flatMap_append]
  simp only [List.flatMap_cons, List.flatMap_nil, List.append_nil]
theorem splitL_take (A : List Ed) (k : Nat) : (splitL (A.take k)).length ≤ (splitL A).length := by
  have e : splitL A = splitL (A.take k) ++ splitL (A.drop k) := by
    unfold splitL
    rw [← List.flatMap_append, List.take_append_drop]
  rw [e, List.length_append]; omega
set_option maxRecDepth 100000 in
set_option maxHeartbeats 8000000 in
theorem split_any {A : List Ed} {v : Value} {w : World} (h : Rd w 3 v A.length (flat encEd A)) (hp : ∀ e ∈ A, 0 < e.2.2) (hT : total A ≤ 2251799813685248) (hm : (splitL A).length ≤ 1048576) :
    Calls Tryz.prog 162 #[v] w fun e w' => ∃ a c, e = .returned (.tuple #[.slice a (splitL A).length c, .bool true]) ∧ Made w w' 146 3 a (splitL A).length c (flat encEd (splitL A)) := by
  obtain ⟨a0, c0, rfl⟩ := h.val
  have hle := h.le
  have h' := Lib.hid h
  have hp' := Lib.hid hp
  have hw' := Lib.hid (fun (k : Nat) (hk : k < A.length) => show 0 < A[k].2.2 ∧ A[k].2.2 ≤ 2251799813685248 from ⟨hp _ (List.getElem_mem hk), Int.le_trans ((tot_in (l := A) (fun e he => by have := hp e he; omega)).2 _ (List.getElem_mem hk)) hT⟩)
  have hsn := Lib.hid (fun (k : Nat) (hk : k < A.length) => splitL_snoc hk)
  have htk := Lib.hid (splitL_take A)
  have hS0 := Lib.hid ((Sep.empty w).box [.int .i64 0, .bool false] 286)
  clear h hp hT
  go_enter Tryz.func162, Tryz.ntmps162
  go_wp2_with fail
  generalize w.alloc (.cells [.int .i64 0, .bool false].toArray 286) = w1 at *
  generalize w.heap.size = bc at *
  go_loopw [14] (fun i wr => ∃ k : Nat, k ≤ A.length ∧ i = .int .i64 k ∧ Hid (Sep w wr [Blk bc [.int .i64 ((splitL (A.take k)).length : Nat), .bool false] 286])) (fun i _ => A.length - (intOf i).toNat)
  case atStart => exact ⟨0, Nat.zero_le _, rfl, hS0⟩
  case round =>
    clear hS0
    obtain ⟨k, hk, rfl, hS⟩ := hrel
    by_cases hlt : k < A.length
    · have hlt1 : (k : Int) < A.length := by omega
      obtain ⟨g, o, rfl, hg, hcell⟩ := ed_cells h'.out hlt
      obtain ⟨q0, q1, q2⟩ := hcell _ hS.out.mod
      have hgl : g < wr.heap.size := Nat.lt_of_lt_of_le hg hS.out.mod.size
      obtain ⟨w0', w1'⟩ := hw'.out k hlt
      have hln := hsn.out k hlt
      have ht1 := htk.out (k + 1)
      rw [hln, List.length_append, show (splitE A[k]).length = pcs A[k].2.2 + 1 by simp [splitE]] at ht1
      have hln2 : Hid (((splitL (A.take (k + 1))).length : Int) = ((splitL (A.take k)).length : Int) + ((pcs A[k].2.2 : Nat) + 1)) := Lib.hid (by rw [hln, List.length_append, show (splitE A[k]).length = pcs A[k].2.2 + 1 by simp [splitE]]; omega)
      generalize A[k] = e at *
      obtain ⟨eu, ev, ew⟩ := e
      simp only at q0 q1 q2 w0' w1' ht1 hln2
      have cp := Lib.hid (fun W => pieces_any eu ev ew W w0' w1')
      have hSb := Lib.hid (hS.out.still ((Mod.refl [] wr).alloc (.cells #[.int .i64 eu, .int .i64 ev, .int .i64 ew] 146)))
      generalize pcs ew = p at *
      generalize (splitL (A.take k)).length = s at *
      clear hS hcell hln
      go_wp2_with fail
      refine (cp.out _).mono ?_
      rintro e w2 ⟨rfl, hm2⟩
      have cpt := Lib.hid (put_any (hSb.out.still hm2) (x := (p : Int) + 1) (by omega) (by omega) (by omega))
      rw [← hln2.out] at cpt
      clear hSb hm2 cp
      try dsimp only
      go_wp2_with fail
      refine cpt.out.mono ?_
      rintro e w3 ⟨rfl, hS3⟩
      have hS3' := Lib.hid hS3
      clear hS3 cpt
      try dsimp only
      go_wp2_with fail
      go_roundw
      case rel => exact ⟨k + 1, by omega, by go_num, hS3'⟩
      case measure => simp [intOf]; omega
    · have hkA : k = A.length := by omega
      have hSA := Lib.hid (show Sep w wr [Blk bc [.int .i64 ((splitL A).length : Nat), .bool false] 286] by
        have h5 := hS.out
        rw [hkA, List.take_length] at h5
        exact h5)
      have cv := Lib.hid (value_any hSA.out)
      have hml : ¬ (1048576 : Int) < ((splitL A).length : Nat) := by omega
      have hSo := Lib.hid (show Sep w wr [Row 146 3 (splitL (A.take 0)).length (.slice none (splitL (A.take 0)).length 0) (flat encEd (splitL (A.take 0)))] from by
        have h5 := (hSA.out.tail).add (P := Row 146 3 0 (.slice none 0 0) []) (Mod.refl _ _) (F := []) ⟨World.ownsRow_nil wr 0 _ 3, by simp [Value.ownBlock]⟩ (by simp)
        exact h5)
      clear hS hSA hk hkA
      go_wp2_with (go_at_call 216; refine cv.out.mono ?_; rintro e w2 ⟨rfl, hw2⟩; subst w2)
      clear hlt
      go_loopw [9, 37] (fun s9 i wr => ∃ (k m : Nat) (a : Option Addr) (c : Nat), k ≤ A.length ∧ i = .int .i64 k ∧ s9 = .slice a m c ∧ m = (splitL (A.take k)).length ∧ Hid (Sep w wr [Row 146 3 m (.slice a m c) (flat encEd (splitL (A.take k)))])) (fun _ i _ => A.length - (intOf i).toNat)
      case atStart => exact ⟨0, 0, none, 0, Nat.zero_le _, rfl, rfl, rfl, hSo⟩
      case round =>
        clear hSo
        obtain ⟨k, m, a, c, hk, rfl, rfl, hmk, hS⟩ := hrel
        by_cases hlt : k < A.length
        · have hlt1 : (k : Int) < A.length := by omega
          obtain ⟨g, o, rfl, hg, hcell⟩ := ed_cells h'.out hlt
          obtain ⟨q0, q1, q2⟩ := hcell _ hS.out.mod
          have hgl : g < wr.heap.size := Nat.lt_of_lt_of_le hg hS.out.mod.size
          obtain ⟨w0', w1'⟩ := hw'.out k hlt
          have hln := Lib.hid (hsn.out k hlt)
          have ht1 := htk.out (k + 1)
          rw [hln.out, List.length_append, show (splitE A[k]).length = pcs A[k].2.2 + 1 by simp [splitE], ← hmk] at ht1
          have hpk := (pcs_ok w0').2
          generalize A[k] = e at *
          obtain ⟨eu, ev, ew⟩ := e
          simp only at q0 q1 q2 w0' w1' ht1 hln hpk
          have cp := Lib.hid (fun W => pieces_any eu ev ew W w0' w1')
          have hSb := Lib.hid (hS.out.box [.int .i64 eu, .int .i64 ev, .int .i64 ew] 146)
          have hpe : splitE (eu, ev, ew) = List.replicate (pcs ew) (eu, ev, 2147483648) ++ [(eu, ev, ew - 2147483648 * ((pcs ew : Nat) : Int))] := rfl
          rw [hpe] at hln
          generalize pcs ew = p at *
          have hmk' := Lib.hid hmk
          clear hmk
          generalize splitL (A.take k) = O at *
          have hbe := hSb.out.blk
          have e0 := hbe.cell 0 rfl
          have e1 := hbe.cell 1 rfl
          have e2 := hbe.cell 2 rfl
          have el := hbe.lt
          clear hS hcell hbe hpe
          go_wp2_with fail
          refine (cp.out _).mono ?_
          rintro e w2 ⟨rfl, hm2⟩
          have hS2 := Lib.hid (show Sep w w2 [Blk wr.heap.size [.int .i64 eu, .int .i64 ev, .int .i64 (ew - 2147483648 * ((0 : Nat) : Int))] 146, Row 146 3 m (.slice a m c) (flat encEd (O ++ List.replicate 0 (eu, ev, 2147483648)))] by
            have h5 := hSb.out.still hm2
            simpa using h5)
          clear hm2 cp hSb e0 e1 e2 el q0 q1 q2 hgl hg
          generalize wr.heap.size = be at *
          try dsimp only
          go_wp2_with fail
          go_loopw [9, 44] (fun s9 i wr => ∃ (q mm : Nat) (a : Option Addr) (c : Nat), q ≤ p ∧ i = .int .i64 q ∧ s9 = .slice a mm c ∧ mm = m + q ∧ Hid (Sep w wr [Blk be [.int .i64 eu, .int .i64 ev, .int .i64 (ew - 2147483648 * ((q : Nat) : Int))] 146, Row 146 3 mm (.slice a mm c) (flat encEd (O ++ List.replicate q (eu, ev, 2147483648)))])) (fun _ i _ => p - (intOf i).toNat)
          case atStart => exact ⟨0, m, a, c, Nat.zero_le _, rfl, rfl, rfl, hS2⟩
          case round =>
            clear hS2
            obtain ⟨q, mm, a, c, hq, rfl, rfl, hmm, hS⟩ := hrel
            have hmb : mm + 1 ≤ 1048576 := by omega
            replace hmm := Lib.hid hmm
            have hbe := hS.out.blkAt 0 rfl
            have e0 := hbe.cell 0 rfl
            have e1 := hbe.cell 1 rfl
            have e2 := hbe.cell 2 rfl
            have el := hbe.lt
            by_cases hlq : q < p
            · have hlq1 : (q : Int) < p := by omega
              clear hbe
              go_upto_region 19 with (at_builtin; refine app_own rfl (.tmp 46) (.tmp 52) 22 146 _ 3 24 rfl Tryz.underlying22 infoEd rfl (by omega) (by omega) (.slice a mm c) mm 1 (flat encEd (O ++ List.replicate q (eu, ev, 2147483648))) (encEd (eu, ev, 2147483648)) rfl rfl rfl rfl (by simp [encEd, Value.oneCell']) (hS.out.rowAt 1 rfl) (by omega) ?_; intro a1 c1 w6 ho6 hm6 hb6; have hS6 := Lib.hid (hS.out.growAt 1 rfl ho6 hm6 hb6); clear ho6 hm6 hb6)
              clear e0 e1 e2 el hS
              have hb6 := hS6.out.blkAt 0 rfl
              have e2 := hb6.cell 2 rfl
              have ef := hb6.free 2
              have el := hb6.lt
              have hq3 : 2147483648 * (q : Int) ≤ 2147483648 * (p : Int) := by omega
              have hS7 := Lib.hid (show Sep w (w6.setCell ⟨be, 2, none⟩ (.int .i64 (ew - 2147483648 * (q : Int) - 2147483648))) [Blk be [.int .i64 eu, .int .i64 ev, .int .i64 (ew - 2147483648 * ((q + 1 : Nat) : Int))] 146, Row 146 3 (mm + 1) (.slice a1 (mm + 1) c1) (flat encEd (O ++ List.replicate (q + 1) (eu, ev, 2147483648)))] by
                have h5 := hS6.out.setAt 0 rfl 2 (.int .i64 (ew - 2147483648 * (q : Int) - 2147483648))
                rw [List.replicate_succ', ← List.append_assoc, flat_append, flat_one, show ew - 2147483648 * ((q + 1 : Nat) : Int) = ew - 2147483648 * (q : Int) - 2147483648 by omega]
                exact h5)
              clear hb6 hS6
              go_wp2_with fail
              go_roundw
              case rel => exact ⟨q + 1, mm + 1, a1, c1, by omega, by go_num, rfl, by have := hmm.out; omega, hS7⟩
              case measure => simp [intOf]; omega
            · obtain rfl : q = p := by omega
              clear hbe
              obtain ⟨z, hz⟩ : ∃ z, ew - 2147483648 * ((q : Nat) : Int) = z := ⟨_, rfl⟩
              rw [hz] at hS e2 hln
              have hz' := Lib.hid hz
              clear hz hpk
              go_wp2_with (at_builtin; refine app_own rfl (.tmp 59) (.tmp 61) 22 146 _ 3 24 rfl Tryz.underlying22 infoEd rfl (by omega) (by omega) (.slice a mm c) mm 1 (flat encEd (O ++ List.replicate q (eu, ev, 2147483648))) (encEd (eu, ev, z)) rfl rfl rfl rfl (by simp [encEd, Value.oneCell']) (hS.out.rowAt 1 rfl) (by omega) ?_; intro a1 c1 w6 ho6 hm6 hb6; have hS6 := Lib.hid (hS.out.growAt 1 rfl ho6 hm6 hb6); clear ho6 hm6 hb6)
              have hfin : Hid (Sep w w6 [Row 146 3 (mm + 1) (.slice a1 (mm + 1) c1) (flat encEd (splitL (A.take (k + 1))))] ∧ mm + 1 = (splitL (A.take (k + 1))).length) := Lib.hid (by
                have h5 := hS6.out.tail
                rw [hln.out, ← List.append_assoc, flat_append, flat_one]
                refine ⟨h5, ?_⟩
                rw [List.length_append, List.length_append, List.length_replicate, ← hmk'.out]
                simp only [List.length_cons, List.length_nil]
                have := hmm.out
                omega)
              clear hS hS6 e0 e1 e2 el
              go_roundw
              case rel => exact ⟨k + 1, mm + 1, a1, c1, by omega, by go_num, rfl, hfin.out.2, Lib.hid hfin.out.1⟩
              case measure => simp [intOf]; omega
        · have hkA : k = A.length := by omega
          have hfin : Hid (Made w wr 146 3 a m c (flat encEd (splitL A)) ∧ m = (splitL A).length) := Lib.hid (by
            have h5 := hS.out
            rw [hkA, List.take_length] at h5
            refine ⟨h5.toMade, ?_⟩
            rw [hmk, hkA, List.take_length])
          clear hS hk hkA hmk
          go_wp2_with fail
          exact bodyPost_ret (v := .tuple #[.slice a m c, .bool true]) (by simp [results, Tryz.results162, go_sem]) rfl ⟨a, c, by rw [hfin.out.2], by have := hfin.out.1; rw [hfin.out.2] at this; exact this⟩
end Edge
end Go.Proofs.YtjpfmkfikidgkaaGreat

set_option linter.unusedVariables false
set_option linter.unusedSimpArgs false
namespace Go.Proofs.YtjpfmkfikidgkaaGreat
open Go.RowKit
namespace Edge
theorem Sep.before {w w1 w2 : World} {L : List Part} (h : Sep w1 w2 L) (m : Mod [] w w1) : Sep w w2 L := by
  obtain ⟨F, h1, h2, h3⟩ := h.out
  exact ⟨F, h1, m.trans h2 (by simp), fun b hb => Nat.le_trans m.size (h3 b hb)⟩
theorem flat_set01 {Y : List Ed} {k : Nat} (hk : k < Y.length) (a b : Int) : ((flat encEd Y).set (k * 3) (.int .i64 a)).set (k * 3 + 1) (.int .i64 b) = flat encEd (Y.set k (a, b, Y[k].2.2)) := by
  rw [flat_split Y k hk, show k * 3 = k * 3 + 0 from rfl, mid_set _ _ _ (k * 3) 0 _ (flat_take_length encEd_len Y k hk) (by simp [encEd]), mid_set _ _ _ (k * 3) 1 _ (flat_take_length encEd_len Y k hk) (by simp [encEd]), ← flat_mid Y k hk]
  rfl
theorem sep_wrap7 {goalP : World → Prop} {W0 Wx : World} {L : List Part} (h : Sep W0 Wx L) (hp : ∀ Wg, Sep W0 Wg L → goalP Wg) : goalP Wx := hp Wx h
/-- The edges of which the first k are named anew. -/
def halfM (name : List Int) (L : List Ed) (k : Nat) : List Ed := mapL name (L.take k) ++ L.drop k
theorem halfM_len (name : List Int) (L : List Ed) (k : Nat) : (halfM name L k).length = L.length := by
  unfold halfM mapL
  simp; omega
theorem halfM_get {name : List Int} {L : List Ed} {k : Nat} (hk : k < L.length) : (halfM name L k)[k]'(by rw [halfM_len]; exact hk) = L[k] := by
  unfold halfM mapL
  rw [List.getElem_append_right (by simp; omega)]
  simp [show min k L.length = k by omega]
theorem halfM_step {name : List Int} {L : List Ed} {k : Nat} (hk : k < L.length) : (halfM name L k).set k (mapE name L[k]) = halfM name L (k + 1) := by
  unfold halfM mapL
  rw [List.set_append_right _ _ (by simp; omega), List.length_map, List.length_take, show k - min k L.length = 0 by omega, List.drop_eq_getElem_cons hk, List.set_cons_zero, List.take_succ_eq_append_getElem hk, List.map_append]
  simp
theorem halfM_zero (name : List Int) (L : List Ed) : halfM name L 0 = L := by simp [halfM, mapL]
theorem halfM_all (name : List Int) (L : List Ed) : halfM name L L.length = mapL name L := by simp [halfM]
/-- What Of answers. -/
structure OfOut (k : Int) (name : List Int) (n : Nat) (L : List Ed) (w : World) (e : Ending) (w' : World) : Prop where
  mk ::
  out : (¬ (name.length = n ∧ isN k name) ∧ e = .returned (.tuple #[.pointer none, .int .i64 1]) ∧ Mod [] w w') ∨
    ((name.length = n ∧ isN k name) ∧ ∃ b2, e = .returned (.tuple #[.pointer (some ⟨b2, 0, none⟩), .int .i64 0]) ∧ Sep w w' [NetP b2 k.toNat (merged (mapL name L))])
end Edge
end Go.Proofs.YtjpfmkfikidgkaaGreat

set_option linter.unusedVariables false
set_option linter.unusedSimpArgs false
namespace Go.Proofs.YtjpfmkfikidgkaaGreat
open Go.RowKit
namespace Edge
theorem infoInt0 : (Tryz.prog.info? 3).map (fun i => (i.zero, i.size, i.bytes)) = some (some (.int .i64 0), 1, 8) := by kernel_rfl
def pairV (u v : Int) (x : Nat) : Int := if (x : Int) = max u v then min u v else if max u v < (x : Int) then (x : Int) - 1 else (x : Int)
def pairK (n : Nat) (u v : Int) (k : Nat) : List Int := (List.range n).map fun (x : Nat) => if x < k then pairV u v x else 0
theorem pairK_len (n : Nat) (u v : Int) (k : Nat) : (pairK n u v k).length = n := by simp [pairK]
theorem pairK_zero (n : Nat) (u v : Int) : pairK n u v 0 = List.replicate n 0 := by
  apply List.eq_replicate_iff.2 ⟨pairK_len _ _ _ _, ?_⟩
  intro x hx
  simp only [pairK, List.mem_map] at hx
  obtain ⟨v, _, rfl⟩ := hx
  rw [if_neg (by omega)]
theorem pairK_step (n : Nat) (u v : Int) (k : Nat) : (pairK n u v k).set k (pairV u v k) = pairK n u v (k + 1) := by
  apply List.ext_getElem
  · simp [pairK]
  intro i g1 g2
  simp only [pairK, List.getElem_set, List.getElem_map, List.getElem_range]
  by_cases c : k = i
  · subst c; rw [if_pos rfl, if_pos (by omega)]
  · rw [if_neg c]
    by_cases h : i < k
    · rw [if_pos h, if_pos (by omega)]
    · rw [if_neg h, if_neg (by omega)]
theorem pairK_all (n : Nat) (u v : Int) : pairK n u v n = pairN n u v := by
  unfold pairK pairN
  apply List.map_congr_left
  intro x hx
  rw [List.mem_range] at hx
  rw [if_pos hx]; rfl
def pairE (n : Nat) (u v : Int) : Int := if u < 0 ∨ v < 0 ∨ (n : Int) ≤ u ∨ (n : Int) ≤ v then 4 else if u = v then 6 else 0
/-- What Pair answers. -/
structure PairOut (n : Nat) (L : List Ed) (u v : Int) (w : World) (e : Ending) (w' : World) : Prop where
  mk ::
  out : (pairE n u v ≠ 0 ∧ e = .returned (.tuple #[.pointer none, .slice none 0 0, .int .i64 (pairE n u v)]) ∧ Mod [] w w') ∨
    (pairE n u v = 0 ∧ isN ((n : Int) - 1) (pairN n u v) ∧ ∃ b2 a c, e = .returned (.tuple #[.pointer (some ⟨b2, 0, none⟩), .slice a n c, .int .i64 0]) ∧ Sep w w' [NetP b2 ((n : Int) - 1).toNat (merged (mapL (pairN n u v) L)), Row 3 1 n (.slice a n c) (i64s (pairN n u v))])
end Edge
end Go.Proofs.YtjpfmkfikidgkaaGreat

set_option linter.unusedVariables false
set_option linter.unusedSimpArgs false
namespace Go.Proofs.YtjpfmkfikidgkaaGreat
open Go.RowKit
namespace Edge
set_option maxHeartbeats 1000000 in
theorem rin_any {name : List Int} {va : Value} {w : World} (h : Rd w 1 va name.length (i64s name)) (v : Int) :
    Calls Tryz.prog 129 #[va, .int .i64 v] w fun e w' => e = .returned (.bool (decide (v ∈ name))) ∧ w' = w := by
  obtain ⟨a, c, rfl⟩ := h.val
  have hle := h.le
  have h' := Lib.hid h
  have hyes := Lib.hid (fun (k : Nat) (hk : k < name.length) (e : name[k] = v) => show decide (v ∈ name) = true by rw [decide_eq_true_eq, ← e]; exact List.getElem_mem hk)
  have hno := Lib.hid (fun (hh : ∀ j (hj : j < name.length), name[j] ≠ v) => show decide (v ∈ name) = false by
    rw [decide_eq_false_iff_not]
    intro hm
    obtain ⟨j, hj, e⟩ := List.mem_iff_getElem.1 hm
    exact hh j hj e)
  obtain ⟨r, hr⟩ : ∃ r, decide (v ∈ name) = r := ⟨_, rfl⟩
  rw [hr] at hyes hno ⊢
  clear h hr
  go_enter Tryz.func129, Tryz.ntmps129
  go_wp2_with fail
  go_loopw [5] (fun i wr => ∃ k : Nat, k ≤ name.length ∧ i = .int .i64 k ∧ wr = w ∧ Hid (∀ j (hj : j < name.length), j < k → name[j] ≠ v)) (fun i _ => name.length - (intOf i).toNat)
  case atStart => exact ⟨0, Nat.zero_le _, rfl, rfl, Lib.hid (fun j _ hj => by omega)⟩
  case round =>
    obtain ⟨k, hk, rfl, hw, hal⟩ := hrel
    subst hw
    by_cases hlt : k < name.length
    · have hlt1 : (k : Int) < name.length := by omega
      obtain ⟨g, o, rfl, hgl, hcell⟩ := rd_cell h'.out hlt
      have q0 := hcell _ k (.int .i64 name[k]) (Mod.refl _ _) (i64s_get hlt)
      by_cases c1 : name[k] = v
      · have d1 : (name[k] == v) = true := by simpa using c1
        have hf := hyes.out k hlt c1
        have hf' := Lib.hid hf
        generalize name[k] = x at *
        clear hf c1 hcell
        go_wp2_with fail
        go_ret
        exact ⟨by rw [hf'.out]; rfl, rfl⟩
      · have d1 : (name[k] == v) = false := by simpa using c1
        have hal2 : Hid (∀ j (hj : j < name.length), j < k + 1 → name[j] ≠ v) := Lib.hid (fun j hj h2 => by
          rcases Nat.lt_or_ge j k with h3 | h3
          · exact hal.out j hj h3
          · have e : j = k := by omega
            subst e; exact c1)
        generalize name[k] = x at *
        clear hcell c1
        go_wp2_with fail
        go_roundw
        case rel => exact ⟨k + 1, by omega, by go_num, trivial, hal2⟩
        case measure => simp [intOf]; omega
    · have hf := hno.out (fun j hj => hal.out j hj (by omega))
      have hf' := Lib.hid hf
      clear hf
      go_wp2_with fail
      go_ret
      exact ⟨by rw [hf'.out]; rfl, rfl⟩
theorem rcheck25_any (n : Nat) (s t : Int) (w : World) : Calls Tryz.prog 127 #[.int .i64 n, .int .i64 s, .int .i64 t] w fun e w' => e = .returned (.int .i64 (pairE n s t)) ∧ w' = w := by
  by_cases h1 : s < 0
  · have he : pairE n s t = 4 := by unfold pairE; rw [if_pos (by omega)]
    rw [he]
    clear he
    go_enter Tryz.func127, Tryz.ntmps127
    go_wp2_with fail
    go_ret
    exact ⟨rfl, rfl⟩
  by_cases h3 : (n : Int) ≤ s
  · have he : pairE n s t = 4 := by unfold pairE; rw [if_pos (by omega)]
    rw [he]
    have d1 : decide ((n : Int) ≤ s) = true := by simpa using h3
    clear he
    go_enter Tryz.func127, Tryz.ntmps127
    go_wp2_with fail
    go_ret
    exact ⟨rfl, rfl⟩
  by_cases h2 : t < 0
  · have he : pairE n s t = 4 := by unfold pairE; rw [if_pos (by omega)]
    rw [he]
    have d1 : decide ((n : Int) ≤ s) = false := by simpa using h3
    clear he
    go_enter Tryz.func127, Tryz.ntmps127
    go_wp2_with fail
    go_ret
    exact ⟨rfl, rfl⟩
  by_cases h4 : (n : Int) ≤ t
  · have he : pairE n s t = 4 := by unfold pairE; rw [if_pos (by omega)]
    rw [he]
    have d1 : decide ((n : Int) ≤ s) = false := by simpa using h3
    have d2 : decide ((n : Int) ≤ t) = true := by simpa using h4
    clear he
    go_enter Tryz.func127, Tryz.ntmps127
    go_wp2_with fail
    go_ret
    exact ⟨rfl, rfl⟩
  have d1 : decide ((n : Int) ≤ s) = false := by simpa using h3
  have d2 : decide ((n : Int) ≤ t) = false := by simpa using h4
  by_cases h5 : s = t
  · have he : pairE n s t = 6 := by unfold pairE; rw [if_neg (by omega), if_pos h5]
    rw [he]
    have d3 : (s == t) = true := by simpa using h5
    clear he
    go_enter Tryz.func127, Tryz.ntmps127
    go_wp2_with fail
    go_ret
    exact ⟨rfl, rfl⟩
  have he : pairE n s t = 0 := by unfold pairE; rw [if_neg (by omega), if_neg h5]
  rw [he]
  have d3 : (s == t) = false := by simpa using h5
  clear he
  go_enter Tryz.func127, Tryz.ntmps127
  go_wp2_with fail
  go_ret
  exact ⟨rfl, rfl⟩
theorem nilRow9 {w0 w : World} {L : List Part} (h : Sep w0 w L) (e size : Nat) : Sep w0 w (Row e size 0 (.slice none 0 0) [] :: L) :=
  h.add (P := Row e size 0 (.slice none 0 0) []) (Mod.refl _ _) (F := []) ⟨World.ownsRow_nil w 0 _ size, by simp [Value.ownBlock]⟩ (by simp)
def pairA (u v : Int) (k : Nat) : List Int := (List.range k).map (pairV u v)
theorem pairA_len (u v : Int) (k : Nat) : (pairA u v k).length = k := by simp [pairA]
theorem pairA_snoc (u v : Int) (k : Nat) : i64s (pairA u v (k + 1)) = i64s (pairA u v k) ++ [.int .i64 (pairV u v k)] := by
  unfold pairA
  rw [List.range_succ, List.map_append, i64s_append]
  rfl
theorem pairA_all (n : Nat) (u v : Int) : pairA u v n = pairN n u v := rfl
end Edge
end Go.Proofs.YtjpfmkfikidgkaaGreat

set_option linter.unusedVariables false
set_option linter.unusedSimpArgs false
namespace Go.Proofs.YtjpfmkfikidgkaaGreat
open Go.RowKit
namespace Edge
def RCar28 (n : Nat) (L : List Ed) (f : List Int) (s t : Int) (w : World) (e : Ending) (w' : World) : Prop := e = .returned (.agg #[.int .i64 (carW n L f s t), .int .i64 (carE n L f s t)]) ∧ Mod [] w w'
theorem pairE_car {n : Nat} {s t : Int} : pairE n s t = if ¬ (0 ≤ s ∧ s < n ∧ 0 ≤ t ∧ t < n) then 4 else if s = t then 6 else 0 := by
  unfold pairE
  split <;> split <;> (try rfl) <;> omega
set_option maxRecDepth 100000 in
set_option maxHeartbeats 16000000 in
theorem rcarries28_any {n : Nat} {L : List Ed} {a : Option Addr} {c : Nat} {f : List Int} {v : Value} {w : World} (h : Rd w 3 (.slice a L.length c) L.length (flat encEd L)) (hG : GOk n L) (hf : Rd w 1 v f.length (i64s f)) (hfb : ∀ x ∈ f, -9223372036854775808 ≤ x ∧ x ≤ 9223372036854775807) (s t : Int) :
    Calls Tryz.prog 32 #[netV n a L.length c, .int .i64 s, .int .i64 t, v] w (RCar28 n L f s t w) := by
  obtain ⟨af, cf, rfl⟩ := hf.val
  have hle := hf.le
  have hlen := hG.len
  have hn4 := hG.le
  have hst := Lib.hid (((Sep.empty w).box [.int .i64 n, .slice a L.length c] 32).box [.int .i64 0, .int .i64 0] 64)
  rw [World.size_alloc] at hst
  have cX := Lib.hid (fun W (m : Mod [] w W) => rexcess28_any (h.still m) hG (hf.still m) hfb)
  have cK := Lib.hid (fun W => rcheck25_any n s t W)
  have hG' := Lib.hid hG
  clear h hf hG hfb
  unfold netV at cX ⊢
  go_enter Tryz.func32, Tryz.ntmps32
  go_upto_region 1 with fail
  generalize (w.alloc (.cells #[.int .i64 n, .slice a L.length c] 32)).alloc (.cells #[.int .i64 0, .int .i64 0] 64) = w1 at *
  generalize w.heap.size + 1 = Bm at *
  generalize w.heap.size = Bn at *
  have n0 := (hst.out.blkAt 1 rfl).cell 0 rfl
  have n1 := (hst.out.blkAt 1 rfl).cell 1 rfl
  have nl := (hst.out.blkAt 1 rfl).lt
  go_wp2_with fail
  refine (cK.out _).mono ?_
  rintro e w2 ⟨rfl, rfl⟩
  try dsimp only
  by_cases hE : pairE n s t = 0
  · rw [hE]
    have hin : 0 ≤ s ∧ s < n ∧ 0 ≤ t ∧ t < n ∧ s ≠ t := by
      rw [pairE_car] at hE
      by_cases h1 : 0 ≤ s ∧ s < n ∧ 0 ≤ t ∧ t < n
      · rw [if_neg (by simpa using h1)] at hE
        by_cases h2 : s = t
        · rw [if_pos h2] at hE; omega
        · exact ⟨h1.1, h1.2.1, h1.2.2.1, h1.2.2.2, h2⟩
      · rw [if_pos h1] at hE; omega
    have hcE := Lib.hid (show carE n L f s t = if fbB L f = true ∧ 0 ≤ exc L f t ∧ zeroB n L f s t = true then 0 else 14 by
      unfold carE
      rw [if_neg (by simp; omega), if_neg hin.2.2.2.2])
    clear hE cK
    obtain ⟨S, rfl⟩ := Int.eq_ofNat_of_zero_le hin.1
    obtain ⟨T, rfl⟩ := Int.eq_ofNat_of_zero_le hin.2.2.1
    have hSn : S < n := by omega
    have hTn : T < n := by omega
    have hST : S ≠ T := by omega
    have cX2 := Lib.hid (cX.out _ hst.out.mod)
    clear cX hin
    go_wp2_with fail
    refine cX2.out.mono ?_
    rintro e w4 ⟨ax, cx, rfl, hmd⟩
    have hS4 := Lib.hid ((hst.out.made hmd).box [.slice ax (excP n L f).length cx, .bool (fbB L f)] 60)
    clear hmd cX2 hst n0 n1 nl
    try dsimp only
    cases hb : fbB L f with
    | false =>
      have hE := Lib.hid (show carE n L f (S : Int) (T : Int) = 14 by rw [hcE.out, hb]; rfl)
      have hW := Lib.hid (show carW n L f (S : Int) (T : Int) = 0 by unfold carW; rw [hE.out, if_neg (by decide)])
      rw [hb] at hS4
      clear hb hcE
      generalize excP n L f = X at *
      go_upto_region 5 with fail
      generalize w4.alloc (.cells #[.slice ax X.length cx, .bool false] 60) = w5 at *
      generalize w4.heap.size = Bx at *
      have x0 := (hS4.out.blkAt 0 rfl).cell 0 rfl
      have x1 := (hS4.out.blkAt 0 rfl).cell 1 rfl
      have xl := (hS4.out.blkAt 0 rfl).lt
      have s0 := (hS4.out.blkAt 2 rfl).cell 0 rfl
      have s1 := (hS4.out.blkAt 2 rfl).cell 1 rfl
      have sf := (hS4.out.blkAt 2 rfl).free
      have sl := (hS4.out.blkAt 2 rfl).lt
      have hS9 := Lib.hid ((((hS4.out.pick 2 (by simp)).set 0 (.int .i64 0)).set 1 (.int .i64 14)))
      clear hS4
      go_wp2_with fail
      generalize (World.setCell _ ⟨Bm, 0, none⟩ (.int .i64 0)).setCell ⟨Bm, 1, none⟩ (.int .i64 14) = w9 at *
      have z0 := (hS9.out.blkAt 0 rfl).cell 0 rfl
      have z1 := (hS9.out.blkAt 0 rfl).cell 1 rfl
      refine bodyPost_ret (v := .agg #[.int .i64 0, .int .i64 14]) ?_ rfl ⟨by rw [hE.out, hW.out], hS9.out.mod⟩
      simp [results, Tryz.results32, go_sem, z0, z1]
    | true =>
      have eX : excP n L f = overL n L f := by unfold excP; rw [if_pos hb]
      rw [eX, overL_len, hb] at hS4
      rw [eX, overL_len]
      have hE0 : carE n L f (S : Int) (T : Int) = if 0 ≤ exc L f (T : Int) ∧ zeroB n L f (S : Int) (T : Int) = true then 0 else 14 := by
        rw [hcE.out, hb]; simp
      have hE0' := Lib.hid hE0
      clear hcE eX hE0 hb
      go_upto_region 5 with fail
      generalize w4.alloc (.cells #[.slice ax n cx, .bool true] 60) = w5 at *
      generalize w4.heap.size = Bx at *
      have x0 := (hS4.out.blkAt 0 rfl).cell 0 rfl
      have x1 := (hS4.out.blkAt 0 rfl).cell 1 rfl
      have xl := (hS4.out.blkAt 0 rfl).lt
      obtain ⟨g, rfl, hgl, hgf, hcell⟩ := row_form (hS4.out.rowAt 1 rfl) (by omega)
      have ct := hcell T (.int .i64 (exc L f (T : Int))) (i64s_got (overL_get hTn))
      have hT1 : (T : Int) < n := by omega
      have hcell' := Lib.hid hcell
      clear hcell
      by_cases hneg : exc L f (T : Int) < 0
      · have tn : decide (exc L f (T : Int) < 0) = true := by simpa using hneg
        have hE := Lib.hid (show carE n L f (S : Int) (T : Int) = 14 by rw [hE0'.out, if_neg (fun h => by omega)])
        have hW := Lib.hid (show carW n L f (S : Int) (T : Int) = 0 by unfold carW; rw [hE.out, if_neg (by decide)])
        clear hneg hE0'
        generalize exc L f (T : Int) = z at *
        have s0 := (hS4.out.blkAt 2 rfl).cell 0 rfl
        have s1 := (hS4.out.blkAt 2 rfl).cell 1 rfl
        have sf := (hS4.out.blkAt 2 rfl).free
        have sl := (hS4.out.blkAt 2 rfl).lt
        have hS9 := Lib.hid ((((hS4.out.pick 2 (by simp)).set 0 (.int .i64 0)).set 1 (.int .i64 14)))
        clear hS4
        go_wp2_with fail
        generalize (World.setCell _ ⟨Bm, 0, none⟩ (.int .i64 0)).setCell ⟨Bm, 1, none⟩ (.int .i64 14) = w9 at *
        have z0 := (hS9.out.blkAt 0 rfl).cell 0 rfl
        have z1 := (hS9.out.blkAt 0 rfl).cell 1 rfl
        refine bodyPost_ret (v := .agg #[.int .i64 0, .int .i64 14]) ?_ rfl ⟨by rw [hE.out, hW.out], hS9.out.mod⟩
        simp [results, Tryz.results32, go_sem, z0, z1]
      · have tn : decide (exc L f (T : Int) < 0) = false := by simpa using hneg
        have hge := Lib.hid (show 0 ≤ exc L f (T : Int) by omega)
        clear hneg
        obtain ⟨z, hz⟩ : ∃ z, exc L f (T : Int) = z := ⟨_, rfl⟩
        have hz' := Lib.hid hz
        rw [hz] at ct tn
        clear hz
        go_upto_region 8 with fail
        have n0 := (hS4.out.blkAt 3 rfl).cell 0 rfl
        have nl := (hS4.out.blkAt 3 rfl).lt
        go_loopw [11] (fun i wr => ∃ k : Nat, k ≤ n ∧ i = .int .i64 k ∧ wr = w5 ∧ Hid (∀ u : Nat, u < k → u = S ∨ u = T ∨ exc L f (u : Int) = 0)) (fun i _ => n - (intOf i).toNat)
        case atStart => exact ⟨0, Nat.zero_le _, rfl, rfl, Lib.hid (fun u h => absurd h (Nat.not_lt_zero _))⟩
        case round =>
          obtain ⟨k, hk, rfl, hw, hF⟩ := hrel
          subst hw
          by_cases hlt : k < n
          · have hlt1 : (k : Int) < n := by omega
            by_cases hkS : k = S
            · have t1 : ((k : Int) != (S : Int)) = false := by simp; omega
              have hF1 := Lib.hid (fun (u : Nat) (hu : u < k + 1) => show u = S ∨ u = T ∨ exc L f (u : Int) = 0 from by
                rcases Nat.lt_or_ge u k with h | h
                · exact hF.out u h
                · exact .inl (by omega))
              clear hkS hF
              go_wp2_with fail
              go_roundw
              case rel => exact ⟨k + 1, by omega, by go_num, trivial, hF1⟩
              case measure => simp [intOf]; omega
            · have t1 : ((k : Int) != (S : Int)) = true := by simp; omega
              by_cases hkT : k = T
              · have t2 : ((k : Int) != (T : Int)) = false := by simp; omega
                have hF1 := Lib.hid (fun (u : Nat) (hu : u < k + 1) => show u = S ∨ u = T ∨ exc L f (u : Int) = 0 from by
                  rcases Nat.lt_or_ge u k with h | h
                  · exact hF.out u h
                  · exact .inr (.inl (by omega)))
                clear hkS hkT hF
                go_wp2_with fail
                go_roundw
                case rel => exact ⟨k + 1, by omega, by go_num, trivial, hF1⟩
                case measure => simp [intOf]; omega
              · have t2 : ((k : Int) != (T : Int)) = true := by simp; omega
                have ck := hcell'.out k (.int .i64 (exc L f (k : Int))) (i64s_got (overL_get hlt))
                by_cases hz0 : exc L f (k : Int) = 0
                · have hF1 := Lib.hid (fun (u : Nat) (hu : u < k + 1) => show u = S ∨ u = T ∨ exc L f (u : Int) = 0 from by
                    rcases Nat.lt_or_ge u k with h | h
                    · exact hF.out u h
                    · obtain rfl : u = k := by omega
                      exact .inr (.inr hz0))
                  rw [hz0] at ck
                  clear hkS hkT hF hz0
                  go_wp2_with fail
                  go_roundw
                  case rel => exact ⟨k + 1, by omega, by go_num, trivial, hF1⟩
                  case measure => simp [intOf]; omega
                · have t3 : (exc L f (k : Int) != 0) = true := by simpa using hz0
                  have hE := Lib.hid (show carE n L f (S : Int) (T : Int) = 14 by
                    rw [hE0'.out, if_neg]
                    rintro ⟨_, h⟩
                    unfold zeroB at h
                    have := List.all_eq_true.1 h k (List.mem_range.2 hlt)
                    simp only [Bool.or_eq_true, decide_eq_true_eq] at this
                    omega)
                  have hW := Lib.hid (show carW n L f (S : Int) (T : Int) = 0 by unfold carW; rw [hE.out, if_neg (by decide)])
                  clear hkS hkT hF hz0 hE0'
                  generalize exc L f (k : Int) = y at *
                  have s0 := (hS4.out.blkAt 2 rfl).cell 0 rfl
                  have s1 := (hS4.out.blkAt 2 rfl).cell 1 rfl
                  have sf := (hS4.out.blkAt 2 rfl).free
                  have sl := (hS4.out.blkAt 2 rfl).lt
                  have hS9 := Lib.hid ((((hS4.out.pick 2 (by simp)).set 0 (.int .i64 0)).set 1 (.int .i64 14)))
                  clear hS4
                  go_wp2_with fail
                  generalize (World.setCell _ ⟨Bm, 0, none⟩ (.int .i64 0)).setCell ⟨Bm, 1, none⟩ (.int .i64 14) = w9 at *
                  have z0 := (hS9.out.blkAt 0 rfl).cell 0 rfl
                  have z1 := (hS9.out.blkAt 0 rfl).cell 1 rfl
                  refine bodyPost_ret (v := .agg #[.int .i64 0, .int .i64 14]) ?_ rfl ⟨by rw [hE.out, hW.out], hS9.out.mod⟩
                  simp [results, Tryz.results32, go_sem, z0, z1]
          · have hkn : k = n := by omega
            have hE := Lib.hid (show carE n L f (S : Int) (T : Int) = 0 by
              rw [hE0'.out, if_pos]
              refine ⟨hge.out, ?_⟩
              unfold zeroB
              rw [List.all_eq_true]
              intro u hu
              have := hF.out u (by rw [hkn]; exact List.mem_range.1 hu)
              simp only [Bool.or_eq_true, decide_eq_true_eq]
              omega)
            have hW := Lib.hid (show carW n L f (S : Int) (T : Int) = z by unfold carW; rw [if_pos hE.out, hz'.out])
            have t9 : decide ((k : Int) < n) = false := by simp; omega
            clear hF hE0' hkn
            have s0 := (hS4.out.blkAt 2 rfl).cell 0 rfl
            have s1 := (hS4.out.blkAt 2 rfl).cell 1 rfl
            have sf := (hS4.out.blkAt 2 rfl).free
            have sl := (hS4.out.blkAt 2 rfl).lt
            have hS9 := Lib.hid ((((hS4.out.pick 2 (by simp)).set 0 (.int .i64 z)).set 1 (.int .i64 0)))
            clear hS4
            go_wp2_with fail
            generalize (World.setCell _ ⟨Bm, 0, none⟩ (.int .i64 z)).setCell ⟨Bm, 1, none⟩ (.int .i64 0) = w9 at *
            have z0 := (hS9.out.blkAt 0 rfl).cell 0 rfl
            have z1 := (hS9.out.blkAt 0 rfl).cell 1 rfl
            refine bodyPost_ret (v := .agg #[.int .i64 z, .int .i64 0]) ?_ rfl ⟨by rw [hE.out, hW.out], hS9.out.mod⟩
            simp [results, Tryz.results32, go_sem, z0, z1]
  · have hcE := Lib.hid (show carE n L f s t = pairE n s t by
      rw [pairE_car] at hE ⊢
      unfold carE
      by_cases h1 : 0 ≤ s ∧ s < n ∧ 0 ≤ t ∧ t < n
      · have e1 : ¬ ¬ (0 ≤ s ∧ s < n ∧ 0 ≤ t ∧ t < n) := fun e => e h1
        simp only [if_neg e1] at hE ⊢
        by_cases h2 : s = t
        · rw [if_pos h2, if_pos h2]
        · rw [if_neg h2] at hE; exact absurd rfl hE
      · rw [if_pos h1, if_pos h1])
    have hcW := Lib.hid (show carW n L f s t = 0 by unfold carW; rw [hcE.out, if_neg hE])
    have t0 : (pairE n s t != 0) = true := by simpa using hE
    clear hE cX cK n0 n1 nl
    have s0 := (hst.out.blkAt 0 rfl).cell 0 rfl
    have s1 := (hst.out.blkAt 0 rfl).cell 1 rfl
    have sf := (hst.out.blkAt 0 rfl).free
    have sl := (hst.out.blkAt 0 rfl).lt
    obtain ⟨E, hEE⟩ : ∃ E, pairE n s t = E := ⟨_, rfl⟩
    rw [hEE] at hcE t0 ⊢
    clear hEE
    have hS3 := Lib.hid (((hst.out.set 0 (.int .i64 0)).set 1 (.int .i64 E)))
    clear hst
    go_wp2_with fail
    generalize (World.setCell _ ⟨Bm, 0, none⟩ (.int .i64 0)).setCell ⟨Bm, 1, none⟩ (.int .i64 E) = w3 at *
    have z0 := (hS3.out.blkAt 0 rfl).cell 0 rfl
    have z1 := (hS3.out.blkAt 0 rfl).cell 1 rfl
    refine bodyPost_ret (v := .agg #[.int .i64 0, .int .i64 E]) ?_ rfl ⟨by rw [hcE.out, hcW.out], hS3.out.mod⟩
    simp [results, Tryz.results32, go_sem, z0, z1]
end Edge
end Go.Proofs.YtjpfmkfikidgkaaGreat

set_option linter.unusedVariables false
set_option linter.unusedSimpArgs false
namespace Go.Proofs.YtjpfmkfikidgkaaGreat
open Go.RowKit
section
variable {P : Program} {ops : Array Oper} {Q : Exit → Act → World → Prop} {md : Region.Mode} {S : World → Prop} {N : Nat}
/-- What goes on in the plain walk goes on in the wide fence. -/
theorem oper_wide {o : Oper} {a : Act} {w : World} {K : Act → World → Prop} (h : o.wp P a w K Q) : o.wpIn Fence.wide N P a w K Q := by
  refine ⟨fun f _ => trivial, ?_⟩
  unfold Oper.wp at h
  show o.uponIn Fence.wide N P a K Q ((o.semAt none a.eval).run P w)
  rw [Oper.semAt_none]
  cases hr : (execOp a.eval o).run P w with
  | ok x w' =>
    rw [hr] at h
    cases x with
    | value v => exact h
    | skip => exact h
    | «defer» d => exact h
    | enter f args => exact ⟨fun hd => by simp [Fence.wide] at hd, callsIn_wide.2 h⟩
    | row r args => exact ⟨fun hd => by simp [Fence.wide] at hd, fun c cs _ => by
        obtain ⟨v, w2, h1, h2⟩ := h c cs
        exact ⟨v, w2, h1, stepsIn_wide.2 h2⟩⟩
    | round l f tmps assign body => exact h.elim
    | _ => exact h.elim
  | halt x w' =>
    rw [hr] at h
    cases x with
    | panic v => exact h
    | _ => exact h.elim
/-- Number i, in the wide fence. -/
abbrev opY (N : Nat) (P : Program) (ops : Array Oper) (Q : Exit → Act → World → Prop) (i : Nat) (K : Act → World → Prop) (a : Act) (w : World) : Prop := wpOpIn Fence.wide N P ops Q i K a w
theorem opY_yields {i : Nat} {o : Oper} {v : Value} {a : Act} (hi : ops[i]? = some o) (hy : YieldsIf P ops S o v a) {K : Act → World → Prop} {w : World} (hS : S w) (h : K (a.put o.dst v) w) : opY N P ops Q i K a w := by
  unfold opY wpOpIn
  rw [hi]
  rcases hy with ⟨hw, hv⟩ | ⟨hw, rfl⟩
  · simp only [hw, if_true]
    refine ⟨fun f _ => trivial, ?_⟩
    show o.uponIn Fence.wide N P a K Q ((o.semAt none a.eval).run P w)
    rw [Oper.semAt_none, hv w hS]
    exact h
  · simp only [hw, Bool.false_eq_true, if_false]
    exact ⟨fun f _ => trivial, h⟩
/-- An operation apart from one that has yielded already: it minds nothing. -/
theorem opY_put {j : Nat} {oi oj : Oper} {v : Value} (hj : ops[j]? = some oj) (hap : oi.apart ops oj = true) (hsi : ∀ cs b, oi.op ≠ .select cs b) (hsj : ∀ cs b, oj.op ≠ .select cs b)
    (hQ : ∀ c a w, Q (.panic c) (a.put oi.dst v) w → Q (.panic c) a w) {K : Act → World → Prop} {a : Act} {w : World} (hy : YieldsIf P ops S oi v a) (h : opY N P ops Q j K (a.put oi.dst v) w) :
    opY N P ops Q j (fun a' w' => YieldsIf P ops S oi v a' ∧ K (a'.put oi.dst v) w') a w := by
  obtain ⟨h1, h2, h3⟩ := Oper.apart_spec hap
  have kp : ∀ u, YieldsIf P ops S oi v (a.put oj.dst u) := fun u => hy.of_same (execOp_put oi hsi a oj.dst u h3) (wanted_put oi a oj.dst u h3)
  have sw : ∀ u, (a.put oj.dst u).put oi.dst v = (a.put oi.dst v).put oj.dst u := fun u => (Act.put_comm a v u h2).symm
  unfold opY wpOpIn at h ⊢
  rw [hj] at h ⊢
  simp only at h ⊢
  rw [wanted_put oj a oi.dst v h1] at h
  by_cases hw : Region.wanted oj (yielded ops a.tmps) = true
  · rw [if_pos hw] at h ⊢
    refine ⟨fun f _ => trivial, ?_⟩
    have h4 : oj.uponIn Fence.wide N P (a.put oi.dst v) K Q ((oj.semAt none (a.put oi.dst v).eval).run P w) := h.2
    show oj.uponIn Fence.wide N P a _ Q ((oj.semAt none a.eval).run P w)
    rw [Oper.semAt_none, execOp_put oj hsj a oi.dst v h1] at h4
    rw [Oper.semAt_none]
    generalize (execOp a.eval oj).run P w = r at h4 ⊢
    cases r with
    | ok x w' =>
      cases x with
      | value u => exact ⟨kp u, by rw [sw u]; exact h4⟩
      | skip => exact ⟨kp _, by rw [sw undef]; exact h4⟩
      | «defer» d =>
        refine ⟨(hy.of_same (a' := { a with defers := d :: a.defers }) rfl rfl).of_same (execOp_put oi hsi _ oj.dst undef h3) (wanted_put oi _ oj.dst undef h3), ?_⟩
        rw [← Act.put_comm _ v undef h2, ← Act.put_defers]
        exact h4
      | enter f args => exact ⟨h4.1, CallsIn.mono h4.2 (fun e w2 he => by
          cases e with
          | returned u => exact ⟨kp u, by rw [sw u]; exact he⟩
          | panicked c => exact hQ _ _ _ he
          | outgrown => exact he)⟩
      | row r args => exact ⟨h4.1, RowsIn.mono h4.2 (fun u w2 he => ⟨kp u, by rw [sw u]; exact he⟩)⟩
      | round l f tmps assign body => exact ⟨h4.1, RoundIn.mono h4.2 (fun e w2 he => by
          cases e with
          | returned u => exact ⟨kp u, by rw [sw u]; exact he⟩
          | panicked c => exact hQ _ _ _ he
          | outgrown => exact he)⟩
      | _ => exact h4.elim
    | halt x w' =>
      cases x with
      | panic u => exact hQ _ _ _ h4
      | _ => exact h4.elim
  · rw [if_neg hw] at h ⊢
    exact ⟨fun f _ => trivial, kp _, by rw [sw undef]; exact h.2⟩
theorem opY_mono {i : Nat} {a : Act} {w : World} {K K' : Act → World → Prop} (h : ∀ a w, K a w → K' a w) (hh : opY N P ops Q i K a w) : opY N P ops Q i K' a w := wpOpIn_mono h hh
/-- Whatever order comes, S holding behind whatever is carried out. -/
def anyY (N : Nat) (P : Program) (md : Region.Mode) (ops : Array Oper) (Q : Exit → Act → World → Prop) (S : World → Prop) : Nat → Array Bool → Act → World → Prop
  | 0, listed, a, w => Region.ready md ops listed = [] ∧ Q .normal a w
  | k + 1, listed, a, w => (Region.ready md ops listed = [] → Q .normal a w) ∧ ∀ i ∈ Region.ready md ops listed, opY N P ops Q i (fun a' w' => S w' ∧ anyY N P md ops Q S k (listed.setIfInBounds i true) a' w') a w
theorem anyY_in : ∀ (k : Nat) (listed : Array Bool) (a : Act) (w : World), anyY N P md ops Q S k listed a w → wpAnyIn Fence.wide N P md ops Q k listed a w
  | 0, _, _, _, h => h
  | k + 1, _, _, _, h => ⟨h.1, fun i hi => opY_mono (fun a' w' h' => anyY_in k _ a' w' h'.2) (h.2 i hi)⟩
theorem anyY_mono {S' : World → Prop} (hS : ∀ w, S' w → S w) : ∀ (k : Nat) (listed : Array Bool) (a : Act) (w : World), anyY N P md ops Q S' k listed a w → anyY N P md ops Q S k listed a w
  | 0, _, _, _, h => h
  | k + 1, _, _, _, h => ⟨h.1, fun i hi => opY_mono (fun a' w' h' => ⟨hS _ h'.1, anyY_mono hS k _ a' w' h'.2⟩) (h.2 i hi)⟩
/-- One that yields, whenever it comes, may come first. -/
theorem anyY_first {i : Nat} {oi : Oper} {v : Value} (hi : ops[i]? = some oi) (hsel : ∀ (j : Nat) (o : Oper) cs b, ops[j]? = some o → o.op ≠ .select cs b) (hQ : ∀ c a w, Q (.panic c) (a.put oi.dst v) w → Q (.panic c) a w) :
    ∀ (k : Nat) (listed : Array Bool) (a : Act) (w : World),
      (∀ j oj, ops[j]? = some oj → j ≠ i → listed.getD j true = false → (∀ e ∈ oj.after, Region.binds md e = true → e.on ≠ i) → oi.apart ops oj = true) →
      i ∈ Region.ready md ops listed → YieldsIf P ops S oi v a → S w → anyY N P md ops Q S k (listed.setIfInBounds i true) (a.put oi.dst v) w → anyY N P md ops Q S (k + 1) listed a w := by
  intro k
  induction k with
  | zero =>
    intro listed a w _ hr hy hS H
    refine ⟨fun h => absurd (h ▸ hr) (by simp), fun j hj => ?_⟩
    by_cases e : j = i
    · subst e; exact opY_yields hi hy hS ⟨hS, H⟩
    · have := ready_mono hj e
      rw [H.1] at this
      exact absurd this (by simp)
  | succ k ih =>
    intro listed a w hfree hr hy hS H
    refine ⟨fun h => absurd (h ▸ hr) (by simp), fun j hj => ?_⟩
    by_cases e : j = i
    · subst e; exact opY_yields hi hy hS ⟨hS, H⟩
    · obtain ⟨hun, oj, hoj, hall⟩ := mem_ready.1 hj
      have hni : ∀ x ∈ oj.after, Region.binds md x = true → x.on ≠ i := fun x hx hb he => by
        have p1 := hall x hx hb
        have p0 := (mem_ready.1 hr).1
        rw [he] at p1
        rcases Nat.lt_or_ge i listed.size with q | q
        · simp [q] at p0 p1; rw [p0] at p1; cases p1
        · simp [Array.getElem?_eq_none q] at p1
      have h2 := opY_put hoj (hfree j oj hoj e hun hni) (fun cs b => hsel i oi cs b hi) (fun cs b => hsel j oj cs b hoj) hQ hy (H.2 j (ready_mono hj e))
      refine opY_mono (fun a' w' ⟨y1, s1, r1⟩ => ⟨s1, ih (listed.setIfInBounds j true) a' w' (fun m om hm hmi hu hno => hfree m om hm hmi ?_ hno) (ready_mono hr (Ne.symm e)) y1 s1 ?_⟩) h2
      · by_cases q : j = m
        · subst q; exact hun
        · rw [getD_set_ne true q] at hu; exact hu
      · rw [Array.setIfInBounds_comm _ _ e]; exact r1
def wpSchedY (N : Nat) (P : Program) (ops : Array Oper) (G : World → World → Prop) (Q : Exit → Act → World → Prop) : List (List Oper × Oper) → List Oper → Act → World → Prop
  | [], last, a, w => wpQuiet P ops (Cls G w) (fun a' => Q .normal a' w) last a
  | (seg, b) :: rest, last, a, w => wpQuiet P ops (Cls G w) (fun a' => ∀ K : Act → World → Prop, Hid (∀ a'' w'', G w w'' → wpSchedY N P ops G Q rest last a'' w'' → K a'' w'') → if Region.wanted b (yielded ops a'.tmps) = true then (b.wp P a' w K Q ∨ b.wpIn Fence.wide N P a' w K Q) else K (a'.put b.dst undef) w) seg a
variable {G : World → World → Prop}
theorem seg_takeY (hs : Region.noSelect ops = true) (hQ : ∀ c a d v w, Q (.panic c) (Act.put a d v) w → Q (.panic c) a w) (hG : ∀ w, G w w) {Kq : Act → Prop} {w : World} :
    ∀ (is : List Nat) (listed listed' : Array Bool) (k : Nat) (a : Act), segB md ops is listed = some listed' → wpQuiet P ops (Cls G w) Kq (is.filterMap (ops[·]?)) a →
      (∀ a', Kq a' → anyY N P md ops Q (G w) k listed' a' w) → anyY N P md ops Q (G w) (k + is.length) listed a w
  | [], listed, listed', k, a, hB, h, hK => by
    simp only [segB, Option.some.injEq] at hB
    subst hB
    exact hK _ h
  | i :: is, listed, listed', k, a, hB, h, hK => by
    unfold segB at hB
    split at hB
    case isFalse => exact absurd hB (by simp)
    rename_i hc
    simp only [Bool.and_eq_true] at hc
    obtain ⟨⟨hr, hf⟩, hst⟩ := hc
    obtain ⟨o, ho⟩ : ∃ o, ops[i]? = some o := by
      cases hx : ops[i]? with
      | none => simp [hx] at hst
      | some o => exact ⟨o, rfl⟩
    simp only [ho, Option.map_some, Option.getD_some] at hst
    simp only [List.filterMap_cons, ho] at h
    unfold wpQuiet at h
    have ih : ∀ v, wpQuiet P ops (Cls G w) Kq (is.filterMap (ops[·]?)) (a.put o.dst v) → anyY N P md ops Q (G w) (k + is.length) (listed.setIfInBounds i true) (a.put o.dst v) w :=
      fun v hv => seg_takeY hs hQ hG is _ listed' k _ hB hv hK
    rw [List.length_cons, ← Nat.add_assoc]
    have fst : ∀ v, YieldsIf P ops (G w) o v a → wpQuiet P ops (Cls G w) Kq (is.filterMap (ops[·]?)) (a.put o.dst v) → anyY N P md ops Q (G w) (k + is.length + 1) listed a w := fun v hy hv =>
      anyY_first ho (Region.noSelect_spec hs) (fun c a w => hQ c a _ _ w) _ listed a w (Region.free_spec ho hf) (by simpa using hr) hy (hG w) (ih v hv)
    by_cases hw : Region.wanted o (yielded ops a.tmps) = true
    · rw [if_pos hw] at h
      obtain ⟨v, h1, h2⟩ := h
      exact fst v (yields_of hst hw h1) h2
    · rw [if_neg hw] at h
      exact fst undef (.inr ⟨by simpa using hw, rfl⟩) h
theorem schedY_held (hs : Region.noSelect ops = true) (hQ : ∀ c a d v w, Q (.panic c) (Act.put a d v) w → Q (.panic c) a w) (hG : ∀ w, G w w) (hT : ∀ w1 w2 w3, G w1 w2 → G w2 w3 → G w1 w3) (last : List Nat) :
    ∀ (ps : List (List Nat × Nat)) (listed : Array Bool) (a : Act) (w : World), schedB md ops ps last listed = true →
      wpSchedY N P ops G Q (ps.map fun p => (p.1.filterMap (ops[·]?), (ops[p.2]?).getD default)) (last.filterMap (ops[·]?)) a w → anyY N P md ops Q (G w) (countS ps + last.length) listed a w
  | [], listed, a, w, hB, h => by
    unfold schedB at hB
    split at hB
    case h_2 => exact absurd hB (by simp)
    rename_i l' hl'
    simp only [countS]
    exact seg_takeY hs hQ hG last listed l' 0 a hl' h (fun a' hk => ⟨by simpa using hB, hk⟩)
  | (is, b) :: rest, listed, a, w, hB, h => by
    unfold schedB at hB
    split at hB
    case h_2 => exact absurd hB (by simp)
    rename_i l' hl'
    simp only [Bool.and_eq_true, beq_iff_eq] at hB
    obtain ⟨⟨hr, hsm⟩, hB⟩ := hB
    obtain ⟨o, ho⟩ := Option.isSome_iff_exists.1 hsm
    simp only [List.map_cons, ho, Option.getD_some] at h
    unfold wpSchedY at h
    have e : countS ((is, b) :: rest) + last.length = (countS rest + last.length + 1) + is.length := by simp only [countS]; omega
    rw [e]
    refine seg_takeY hs hQ hG is listed l' _ a hl' h (fun a' hk => ⟨fun h0 => by rw [hr] at h0; exact absurd h0 (by simp), fun i hi => ?_⟩)
    rw [hr, List.mem_singleton] at hi
    subst hi
    have h2 := hk (fun a' w' => G w w' ∧ anyY N P md ops Q (G w) (countS rest + last.length) (l'.setIfInBounds i true) a' w')
      (show Hid _ from fun a'' w'' hg hw => ⟨hg, anyY_mono (fun w3 h3 => hT _ _ _ hg h3) _ _ _ _ (schedY_held hs hQ hG hT last rest _ a'' w'' hB hw)⟩)
    unfold opY wpOpIn
    simp only [ho]
    by_cases hw : Region.wanted o (yielded ops a'.tmps) = true
    · rw [if_pos hw] at h2 ⊢
      exact h2.elim oper_wide id
    · rw [if_neg hw] at h2 ⊢
      exact ⟨fun f _ => trivial, h2⟩
theorem region_schedY {id : Nat} {a : Act} {w : World} {l : List Oper} (ps : List (List Nat × Nat)) (last : List Nat) (hm : P.follows .mixedOrders = true) (hs : Region.noSelect l.toArray = true) (hB : schedB .any l.toArray ps last (Array.replicate l.length false) = true) (hc : countS ps + last.length = l.length)
    (hG : ∀ w, G w w) (hT : ∀ w1 w2 w3, G w1 w2 → G w2 w3 → G w1 w3)
    (h : wpSchedY 3 P l.toArray G (NoPanic Q) (stages l ps) (pickO l last) a w.drew) : (Code.region id l.toArray true).wp P Q a w := by
  refine wp_region_noPanic ?_
  refine (wpIn_wide (n := 3)).1 (wpIn_region_any hm (anyY_in (S := G w.drew) _ _ _ _ ?_))
  rw [stages_eq, pickO_eq] at h
  have := schedY_held hs (fun _ _ _ _ _ h => h) hG hT last ps _ a w.drew hB h
  rw [hc] at this
  simpa using this
theorem schedY_step {seg : List Oper} {b : Oper} {rest : List (List Oper × Oper)} {last : List Oper} {a : Act} {w : World}
    (h : wpQuiet P ops (fun w' => ∃ m : Fut G w, w' = m.v) (fun a' => ∀ K : Act → World → Prop, Hid (∀ a'' w'', G w w'' → wpSchedY N P ops G Q rest last a'' w'' → K a'' w'') → if Region.wanted b (yielded ops a'.tmps) = true then (b.wp P a' w K Q ∨ b.wpIn Fence.wide N P a' w K Q) else K (a'.put b.dst undef) w) seg a) :
    wpSchedY N P ops G Q ((seg, b) :: rest) last a w := h
theorem schedY_last {last : List Oper} {a : Act} {w : World} (h : wpQuiet P ops (fun w' => ∃ m : Fut G w, w' = m.v) (fun a' => Q .normal a' w) last a) : wpSchedY N P ops G Q [] last a w := h
end
end Go.Proofs.YtjpfmkfikidgkaaGreat
