/- What no graph at all tells; whether two graphs are the same. -/
import Derived.Test.YtkhbnopmeapfjaaNetGet
import Derived.Test.YtkhbnopmeapfjaaEqualE
import Derived.Laws.EntriesVeiled
set_option linter.unusedVariables false
set_option linter.unusedSimpArgs false
namespace Go.Proofs.Ytkhbnopmeapfjaa
open Go.RowKit
namespace Edge
theorem n_nil (w : World) : Calls Try.prog 18 #[.pointer none] w fun e w' => e = .returned (.int .i64 0) ∧ w' = w := by
  go_enter Try.func18, Try.ntmps18
  go_wp2
  go_ret
  exact ⟨rfl, rfl⟩
theorem m_nil (w : World) : Calls Try.prog 19 #[.pointer none] w fun e w' => e = .returned (.int .i64 0) ∧ w' = w := by
  go_enter Try.func19, Try.ntmps19
  go_wp2
  go_ret
  exact ⟨rfl, rfl⟩
theorem edges_nil (w : World) : Calls Try.prog 21 #[.pointer none] w fun e w' => e = .returned (.slice none 0 0) ∧ w' = w := by
  go_enter Try.func21, Try.ntmps21
  go_wp2
  go_ret
  exact ⟨rfl, rfl⟩
theorem total_nil (w : World) : Calls Try.prog 15 #[.pointer none] w fun e w' => e = .returned (.int .i64 0) ∧ w' = w := by
  go_enter Try.func15, Try.ntmps15
  go_wp2
  go_ret
  exact ⟨rfl, rfl⟩
theorem weight_nil (u v : Int) (w : World) : Calls Try.prog 14 #[.pointer none, .int .i64 u, .int .i64 v] w fun e w' => e = .returned (.int .i64 0) ∧ w' = w := by
  go_enter Try.func14, Try.ntmps14
  go_wp2
  go_ret
  exact ⟨rfl, rfl⟩
theorem degree_nil (w : World) : Calls Try.prog 12 #[.pointer none, .int .i64 0] w fun e w' => e = .returned (.int .i64 0) ∧ w' = w := by
  go_enter Try.func12, Try.ntmps12
  go_wp2_with (go_at_call 18; refine (n_nil _).mono ?_; rintro e w1 ⟨rfl, rfl⟩)
  go_ret
  exact ⟨rfl, rfl⟩
theorem near_nil (w : World) : Calls Try.prog 13 #[.pointer none, .int .i64 0] w fun e w' => e = .returned (.slice none 0 0) ∧ w' = w := by
  go_enter Try.func13, Try.ntmps13
  go_wp2_with (go_at_call 18; refine (n_nil _).mono ?_; rintro e w1 ⟨rfl, rfl⟩)
  go_ret
  exact ⟨rfl, rfl⟩
theorem edge_nil (w : World) : Calls Try.prog 17 #[.pointer none, .int .i64 0] w fun e w' => e = .returned (.tuple #[.agg #[.int .i64 0, .int .i64 0, .int .i64 0], .bool false]) ∧ Mod [] w w' := by
  have hmod := Lib.hid ((Mod.refl [] w).alloc (.cells #[.int .i64 0, .int .i64 0, .int .i64 0] 41))
  go_enter Try.func17, Try.ntmps17
  go_wp2_with (go_at_call 19; refine (m_nil _).mono ?_; rintro e w1 ⟨rfl, rfl⟩)
  exact bodyPost_ret (v := .tuple #[.agg #[.int .i64 0, .int .i64 0, .int .i64 0], .bool false]) (by simp [results, Try.results17, go_sem]) rfl ⟨rfl, hmod.out⟩
/-- Same where one at least is none. -/
theorem same_nil (b : Option Addr) (w : World) : Calls Try.prog 43 #[.pointer none, .pointer b] w fun e w' => e = .returned (.bool b.isNone) ∧ w' = w := by
  cases b with
  | none =>
    go_enter Try.func43, Try.ntmps43
    go_wp2
    go_ret
    exact ⟨rfl, rfl⟩
  | some a =>
    go_enter Try.func43, Try.ntmps43
    go_wp2
    go_ret
    exact ⟨rfl, rfl⟩
theorem same_nil2 (b : Addr) (w : World) : Calls Try.prog 43 #[.pointer (some b), .pointer none] w fun e w' => e = .returned (.bool false) ∧ w' = w := by
  go_enter Try.func43, Try.ntmps43
  go_wp2
  go_ret
  exact ⟨rfl, rfl⟩
set_option maxRecDepth 100000 in
set_option maxHeartbeats 2000000 in
theorem same_net {w : World} {b1 n1 b2 n2 : Nat} {L1 L2 : List Ed} {F1 F2 : List Nat} (h1 : NetP b1 n1 L1 w F1) (h2 : NetP b2 n2 L2 w F2) :
    Calls Try.prog 43 #[.pointer (some ⟨b1, 0, none⟩), .pointer (some ⟨b2, 0, none⟩)] w fun e w' => e = .returned (.bool (decide (n1 = n2 ∧ L1 = L2))) ∧ Mod [] w w' := by
  obtain ⟨a1, c1, x0, x1, x3, hb1, hr1⟩ := eds_of h1
  obtain ⟨a2, c2, y0, y1, y3, hb2, hr2⟩ := eds_of h2
  have hb1' := Lib.hid (fun W (m : Mod [] w W) => hb1.keep m (by simp))
  have hb2' := Lib.hid (fun W (m : Mod [] w W) => hb2.keep m (by simp))
  have hn1 := Lib.hid (fun W (m : Mod [] w W) => n_net (w := W) (b := b1) (n := n1) (L := L1) (F := F1) (Good.keep h1 m (by simp)))
  have hn2 := Lib.hid (fun W (m : Mod [] w W) => n_net (w := W) (b := b2) (n := n2) (L := L2) (F := F2) (Good.keep h2 m (by simp)))
  have heq := Lib.hid (fun W (m : Mod [] w W) => equal_any ((Rd.ofReads hr1).still m) ((Rd.ofReads hr2).still m))
  obtain ⟨r, hr⟩ : ∃ r, decide (n1 = n2 ∧ L1 = L2) = r := ⟨_, rfl⟩
  rw [hr]
  have hr' := Lib.hid hr
  clear hb1 hb2 h1 h2 hr1 hr2 hr
  go_enter Try.func43, Try.ntmps43
  go_upto_region 3 with fail
  have p1 : ∀ m : Fut (Mod []) w.drew, m.v.cell? ⟨b1, 2, none⟩ = some (.slice a1 L1.length c1) := fun m => (hb1'.out _ ((Mod.refl [] w).drew.trans m.of (by simp))).cell 2 rfl
  have p2 : ∀ m : Fut (Mod []) w.drew, m.v.cell? ⟨b2, 2, none⟩ = some (.slice a2 L2.length c2) := fun m => (hb2'.out _ ((Mod.refl [] w).drew.trans m.of (by simp))).cell 2 rfl
  refine region_sched (G := Mod []) [([0,2],1), ([],3), ([4,5,6,7,8,9,10,11,12,13],14)] [15,16] (by kernel_rfl) (by kernel_rfl) (by kernel_rfl) rfl (Mod.refl []) (fun _ _ _ h1 h2 => h1.trans h2 (by simp)) ?_
  simp only [stages, pickO, nthO, headO, List.append_eq, List.cons_append, List.nil_append]
  refine sched_step ?_
  repeat (go_big_quiet_step (fail))
  refine wpQuiet_nil ?_
  intro K hK
  rw [if_pos (by rfl)]
  go_simp
  refine (hn1.out _ (Mod.refl [] w).drew).mono ?_
  rintro e w1 ⟨rfl, rfl⟩
  try dsimp only
  refine hK.out _ _ (Mod.refl _ _) ?_
  clear hK K
  refine sched_step ?_
  refine wpQuiet_nil ?_
  intro K hK
  rw [if_pos (by rfl)]
  go_simp
  refine (hn2.out _ (Mod.refl [] w).drew).mono ?_
  rintro e w1 ⟨rfl, rfl⟩
  try dsimp only
  refine hK.out _ _ (Mod.refl _ _) ?_
  clear hK K
  refine sched_step ?_
  by_cases hn : n1 = n2
  · have t1 : ((n1 : Int) == (n2 : Int)) = true := by simp [hn]
    have hd : decide (L1 = L2) = r := by rw [← hr'.out]; simp [hn]
    rw [hd] at heq
    clear hn hd
    repeat (go_big_quiet_step (fail))
    refine wpQuiet_nil ?_
    intro K hK
    rw [if_pos (by rfl)]
    go_simp
    refine (heq.out _ (Mod.refl [] w).drew).mono ?_
    rintro e w1 ⟨rfl, hm⟩
    try dsimp only
    refine hK.out _ _ hm ?_
    have hm2 := Lib.hid ((Mod.refl [] w).drew.trans hm (by simp))
    clear hK K hm p1 p2
    refine sched_last ?_
    repeat (go_big_quiet_step (fail))
    refine wpQuiet_nil ?_
    go_wp2_with fail
    go_ret
    exact ⟨rfl, hm2.out⟩
  · have t1 : ((n1 : Int) == (n2 : Int)) = false := by simp; omega
    have hd : false = r := by rw [← hr'.out]; simp [hn]
    subst hd
    clear hn
    repeat (go_big_quiet_step (fail))
    refine wpQuiet_nil ?_
    intro K hK
    rw [if_neg (by exact Bool.false_ne_true)]
    go_simp
    refine hK.out _ _ (Mod.refl [] _) ?_
    clear hK K
    refine sched_last ?_
    repeat (go_big_quiet_step (fail))
    refine wpQuiet_nil ?_
    go_wp2_with fail
    go_ret
    exact ⟨rfl, (Mod.refl [] w).drew⟩
end Edge
end Go.Proofs.Ytkhbnopmeapfjaa
