/- The law of ratios: its walk. -/
import Derived.Test.YtmkbinbggiocaaaTellsLaw
set_option linter.unusedVariables false
set_option linter.unusedSimpArgs false
namespace Go.Proofs.Ytmkbinbggiocaaa
open Go.RowKit
namespace Ratio
open Go.Proofs.Ytmkbinbggiocaaa.Code Go.Proofs.Ytmkbinbggiocaaa.Fl
theorem ite_no {c : Bool} {A B : Prop} (h : c = false) (hB : B) : if c = true then A else B := by rw [h]; exact hB
/-- The k-th cut of a slice, in every later world. -/
structure CutAt (w : World) (g o : Nat) (l : List CutV) (k : Nat) (a : Option Addr) (c : Nat) : Prop where
  c0 : ∀ w', Mod [] w w' → w'.cell? ⟨g, o + k * 2, none⟩ = some (.int .i64 (cW l k))
  c1 : ∀ w', Mod [] w w' → w'.cell? ⟨g, o + k * 2 + 1, none⟩ = some (.slice a (cS l k).length c)
  rd : ∀ w', Mod [] w w' → Rd w' 1 (.slice a (cS l k).length c) (cS l k).length (vi64 (cS l k))
  bd : cW l k ≤ 9223372036854775807
  le : (cS l k).length ≤ 9223372036854775807
theorem Cuts.all {w : World} {g o c k : Nat} {l : List CutV} (h : Cuts w (.slice (some ⟨g, o, none⟩) l.length c) l) (hk : k < l.length) : ∃ a c, CutAt w g o l k a c := by
  obtain ⟨hs, hW⟩ := h.get hk
  obtain ⟨ak, ck, hv⟩ := hs.val
  refine ⟨ak, ck, fun w' m => ((h.still m).cell hk).1, fun w' m => ?_, fun w' m => ?_, hW, hs.le⟩
  · rw [← hv]; exact ((h.still m).cell hk).2
  · rw [← hv]; exact hs.still m
set_option maxRecDepth 100000 in
set_option maxHeartbeats 8000000 in
theorem tells_any {w : World} {v : Value} {n : Int} {l : List CutV} (h : Cuts w v l) :
    Calls Try.prog 9 #[.int .i64 n, v] w fun e w' => e = .returned (.bool true) ∧ Mod [] w w' := by
  obtain ⟨a1, c1, rfl⟩ := h.rd.val
  have hm1 := h.rd.le
  have h' := Lib.hid h
  clear h
  by_cases hlen : 30 < l.length
  · have hlen' : (30 : Int) < l.length := by omega
    go_enter Try.func9, Try.ntmps9
    go_wp2_with fail
    refine (awake44 _).mono ?_
    rintro e w' ⟨rfl, hm⟩
    try dsimp only
    go_wp2_with fail
    go_ret
    exact ⟨rfl, hm⟩
  · have hlen1 : (l.length : Int) ≤ 30 := by omega
    have hlen2 : l.length ≤ 30 := by omega
    clear hlen
    go_enter Try.func9, Try.ntmps9
    go_wp2_with fail
    go_loop [5] (fun i => ∃ k : Nat, k ≤ l.length ∧ i = .int .i64 k) (fun i => l.length - (intOf i).toNat)
    case atStart => exact ⟨0, Nat.zero_le _, rfl⟩
    case round =>
      obtain ⟨k, hk, rfl⟩ := hrel
      by_cases hlt : k < l.length
      · have hlt1 : (k : Int) < l.length := by omega
        obtain ⟨g, o, rfl, hg⟩ := h'.out.cells hlt
        obtain ⟨ak, ck, hat⟩ := h'.out.all hlt
        have q1 := hat.c1 w (Mod.refl [] w)
        have hle := hat.le
        clear hat
        by_cases hs : 300 < (cS l k).length
        · have hs' : (300 : Int) < (cS l k).length := by omega
          go_wp2_with fail
          refine (awake44 _).mono ?_
          rintro e w' ⟨rfl, hm⟩
          try dsimp only
          go_wp2_with fail
          go_ret
          exact ⟨rfl, hm⟩
        · have hs' : ((cS l k).length : Int) ≤ 300 := by omega
          go_wp2_with fail
          go_round
          case rel => exact ⟨k + 1, by omega, by go_num⟩
          case measure => simp [intOf]; omega
      · have hk' : k = l.length := by omega
        subst hk'
        clear hk hlt
        go_wp2_with fail
        go_loopw [6] (fun i wr => ∃ k : Nat, k ≤ l.length ∧ i = .int .i64 k ∧ Hid (Mod [] w wr)) (fun i _ => l.length - (intOf i).toNat)
        case atStart => exact ⟨0, Nat.zero_le _, rfl, Lib.hid (Mod.refl _ _)⟩
        case round =>
          obtain ⟨k, hk, rfl, hm⟩ := hrel
          by_cases hlt : k < l.length
          · have hlt1 : (k : Int) < l.length := by omega
            obtain ⟨g, o, rfl, hg⟩ := h'.out.cells hlt
            obtain ⟨ak, ck, hat⟩ := h'.out.all hlt
            have hat' := Lib.hid hat
            clear hat
            have hof := Lib.hid (fun (w' : World) (m : Mod [] w w') => of_all (n := n) (hat'.out.rd w' m) hat'.out.bd)
            have hmay := Lib.hid (fun (w' : World) (m : Mod [] w w') => may_ref (n := n) (W := cW l k) (hat'.out.rd w' m))
            have p0 := hat'.out.c0 wr hm.out
            have p1 := hat'.out.c1 wr hm.out
            go_wp2_with fail
            refine (nan44 _).mono ?_
            rintro e w1 ⟨rfl, rfl⟩
            try dsimp only
            go_wp2_with fail
            refine (hmay.out _ hm.out).mono ?_
            rintro e w2 ⟨rfl, hm2⟩
            try dsimp only
            have hm3 := Lib.hid (hm.out.trans hm2 (by simp))
            clear p0 p1 hm2 hm hmay
            cases hmb : mayB n (cW l k) (cS l k)
            case' true =>
              have hy := (mayB_iff _ _ _).1 hmb
              have hrf : ratF n (cW l k) (cS l k) = fquo (some (cv (cW l k))) (some (cv (byN n (cS l k)))) := by unfold ratF; rw [hmb]; rfl
              have p0 := hat'.out.c0 _ hm3.out
              have p1 := hat'.out.c1 _ hm3.out
              have horf := Lib.hid (of_ref (hat'.out.rd _ hm3.out) hy)
              clear hmb hy
              go_wp2_with fail
              refine horf.out.mono ?_
              rintro e w4 ⟨rfl, hm4⟩
              try dsimp only
              clear p0 p1 horf
              obtain ⟨qw, w5, hrun, hq, _, hw⟩ := run_quo (P := Try.prog) (w4.alloc (.cells #[.int .i64 (cW l k), .int .i64 (byN n (cS l k))] 98)) 81 (cv (cW l k)) (cv (byN n (cS l k)))
              rw [fl_cv, fl_cv, ← hrf] at hq
              have hm45 : Mod [] w w5 := by
                have h1 : Mod [] w (w4.alloc (.cells #[.int .i64 (cW l k), .int .i64 (byN n (cS l k))] 98)) := (hm3.out.trans hm4 (by simp)).alloc _
                rcases hw with rfl | rfl
                · exact h1
                · exact h1.drew
              have hwant := Lib.hid hq
              have hm5 := Lib.hid hm45
              clear hm45 hm4 hm3 hq hw hrf
              unfold cv at hrun
              go_upto_region 15 with fail
            case' false =>
              have hwant := Lib.hid (show fl 9221120237041090560 = ratF n (cW l k) (cS l k) by unfold ratF; rw [hmb]; exact (show fl 9221120237041090560 = none by decide +kernel))
              have hm5 := hm3
              have hrun : True := trivial
              clear hmb hm3
              go_upto_region 15 with fail
            all_goals
              clear hrun
              have p0 := hat'.out.c0 _ hm5.out
              have p1 := hat'.out.c1 _ hm5.out
              go_wp2_with fail
              refine (hof.out _ hm5.out).mono ?_
              rintro e w6 ⟨q, rfl, hq, hm6⟩
              try dsimp only
              have hm7 := Lib.hid (hm5.out.trans hm6 (by simp))
              have hq' := Lib.hid hq
              clear p0 p1 hm6 hm5 hq
              go_wp2_with fail
              refine (same44 _ _ _).mono ?_
              rintro e w8 ⟨rfl, rfl⟩
              try dsimp only
              rw [show decide (bitsF (fl q) = _) = true from decide_eq_true (by rw [hq'.out, hwant.out])]
              clear hwant hq'
              go_wp2_with fail
              go_loopw [9] (fun i wr => ∃ j : Nat, j ≤ l.length ∧ i = .int .i64 j ∧ Hid (Mod [] w wr)) (fun i _ => l.length - (intOf i).toNat)
              case atStart => exact ⟨0, Nat.zero_le _, rfl, hm7⟩
              case round =>
                clear hm7
                obtain ⟨j, hj, rfl, hmr⟩ := hrel
                by_cases hjt : j < l.length
                · have hjt1 : (j : Int) < l.length := by omega
                  obtain ⟨aj, cj, hbt⟩ := h'.out.all hjt
                  have hbt' := Lib.hid hbt
                  have hof2 := Lib.hid (fun (w' : World) (m : Mod [] w w') => of_all (n := n) (hbt.rd w' m) hbt.bd)
                  have hcp := Lib.hid (fun (w' : World) (m : Mod [] w w') => cmp_any (n := n) (hat'.out.rd w' m) (hbt.rd w' m) hat'.out.bd hbt.bd)
                  have hcr := Lib.hid (fun (w' : World) (m : Mod [] w w') => cmp_ref (n := n) (hat'.out.rd w' m) (hbt.rd w' m) hat'.out.bd hbt.bd)
                  clear hbt
                  have htl := Lib.hid (fun (a : cW l k ≤ 9007199254740992) (b : cW l j ≤ 9007199254740992) => tells_law (n := n) (s1 := cS l k) (s2 := cS l j) a b)
                  have hpk := Lib.hid (fun (a : cW l k ≤ 9007199254740992) => ratF_plain (n := n) (s := cS l k) a)
                  have hpj := Lib.hid (fun (a : cW l j ≤ 9007199254740992) => ratF_plain (n := n) (s := cS l j) a)
                  generalize cmpP n (cW l k) (cS l k) (cW l j) (cS l j) = C at *
                  have fk0 : ∀ m : Fut (Mod []) wr.drew, m.v.cell? ⟨g, o + k * 2, none⟩ = some (.int .i64 (cW l k)) := fun m => hat'.out.c0 _ (hmr.out.drew.trans m.of (by simp))
                  have fk1 : ∀ m : Fut (Mod []) wr.drew, m.v.cell? ⟨g, o + k * 2 + 1, none⟩ = some (.slice ak (cS l k).length ck) := fun m => hat'.out.c1 _ (hmr.out.drew.trans m.of (by simp))
                  have fj0 : ∀ m : Fut (Mod []) wr.drew, m.v.cell? ⟨g, o + j * 2, none⟩ = some (.int .i64 (cW l j)) := fun m => hbt'.out.c0 _ (hmr.out.drew.trans m.of (by simp))
                  have fj1 : ∀ m : Fut (Mod []) wr.drew, m.v.cell? ⟨g, o + j * 2 + 1, none⟩ = some (.slice aj (cS l j).length cj) := fun m => hbt'.out.c1 _ (hmr.out.drew.trans m.of (by simp))
                  go_upto_region 20 with fail
                  refine region_sched (G := Mod []) [([0,1,2,3,4,5,6,7,8],9)] [10] (by kernel_rfl) (by kernel_rfl) (by kernel_rfl) rfl (Mod.refl _) (fun _ _ _ h1 h2 => h1.trans h2 (by simp)) ?_
                  simp only [stages, pickO, nthO, headO, List.cons_append, List.nil_append]
                  refine sched_step ?_
                  repeat (go_big_quiet_step (fail))
                  refine wpQuiet_nil ?_
                  intro K hK
                  rw [if_pos (by rfl)]
                  go_simp
                  refine (hcp.out _ hmr.out.drew).mono ?_
                  rintro e w20 ⟨rfl, hm20⟩
                  try dsimp only
                  have hm21 := Lib.hid (show Mod [] w w20 from hmr.out.drew.trans hm20 (by simp))
                  refine hK.out _ _ hm20 ?_
                  clear hK K hm20 fk0 fk1 fj0 fj1 hcp hmr
                  refine sched_last ?_
                  repeat (go_big_quiet_step (fail))
                  refine wpQuiet_nil ?_
                  have fk0 : ∀ m : Fut (Mod []) w20.drew, m.v.cell? ⟨g, o + k * 2, none⟩ = some (.int .i64 (cW l k)) := fun m => hat'.out.c0 _ (hm21.out.drew.trans m.of (by simp))
                  have fk1 : ∀ m : Fut (Mod []) w20.drew, m.v.cell? ⟨g, o + k * 2 + 1, none⟩ = some (.slice ak (cS l k).length ck) := fun m => hat'.out.c1 _ (hm21.out.drew.trans m.of (by simp))
                  have fj0 : ∀ m : Fut (Mod []) w20.drew, m.v.cell? ⟨g, o + j * 2, none⟩ = some (.int .i64 (cW l j)) := fun m => hbt'.out.c0 _ (hm21.out.drew.trans m.of (by simp))
                  have fj1 : ∀ m : Fut (Mod []) w20.drew, m.v.cell? ⟨g, o + j * 2 + 1, none⟩ = some (.slice aj (cS l j).length cj) := fun m => hbt'.out.c1 _ (hm21.out.drew.trans m.of (by simp))
                  go_upto_region 21 with fail
                  refine region_sched (G := Mod []) [([0,1,2,3,4,6,7,8,9,10],5), ([],11)] [12,13] (by kernel_rfl) (by kernel_rfl) (by kernel_rfl) rfl (Mod.refl _) (fun _ _ _ h1 h2 => h1.trans h2 (by simp)) ?_
                  simp only [stages, pickO, nthO, headO, List.cons_append, List.nil_append]
                  refine sched_step ?_
                  repeat (go_big_quiet_step (fail))
                  refine wpQuiet_nil ?_
                  intro K hK
                  rw [if_pos (by rfl)]
                  go_simp
                  refine (hof.out _ hm21.out.drew).mono ?_
                  rintro e w22 ⟨qk, rfl, hqk, hm22⟩
                  try dsimp only
                  have hm23 := Lib.hid (show Mod [] w w22 from hm21.out.drew.trans hm22 (by simp))
                  have hqk' := Lib.hid hqk
                  refine hK.out _ _ hm22 ?_
                  clear hK K hm22 fk0 fk1 fj0 fj1 hm21 hqk
                  refine sched_step ?_
                  refine wpQuiet_nil ?_
                  intro K hK
                  rw [if_pos (by rfl)]
                  go_simp
                  refine (hof2.out _ hm23.out).mono ?_
                  rintro e w24 ⟨qj, rfl, hqj, hm24⟩
                  try dsimp only
                  have hm25 := Lib.hid (show Mod [] w w24 from hm23.out.trans hm24 (by simp))
                  have hqj' := Lib.hid hqj
                  refine hK.out _ _ hm24 ?_
                  clear hK K hm24 hm23 hqj
                  refine sched_last ?_
                  repeat (go_big_quiet_step (fail))
                  refine wpQuiet_nil ?_
                  have p0 := hat'.out.c0 _ hm25.out
                  have s0 := hbt'.out.c0 _ hm25.out
                  have fk0 : ∀ m : Fut (Mod []) w24.drew, m.v.cell? ⟨g, o + k * 2, none⟩ = some (.int .i64 (cW l k)) := fun m => hat'.out.c0 _ (hm25.out.drew.trans m.of (by simp))
                  have fk1 : ∀ m : Fut (Mod []) w24.drew, m.v.cell? ⟨g, o + k * 2 + 1, none⟩ = some (.slice ak (cS l k).length ck) := fun m => hat'.out.c1 _ (hm25.out.drew.trans m.of (by simp))
                  have fj0 : ∀ m : Fut (Mod []) w24.drew, m.v.cell? ⟨g, o + j * 2, none⟩ = some (.int .i64 (cW l j)) := fun m => hbt'.out.c0 _ (hm25.out.drew.trans m.of (by simp))
                  have fj1 : ∀ m : Fut (Mod []) w24.drew, m.v.cell? ⟨g, o + j * 2 + 1, none⟩ = some (.slice aj (cS l j).length cj) := fun m => hbt'.out.c1 _ (hm25.out.drew.trans m.of (by simp))
                  have hmx := Lib.hid (hm25.out.drew)
                  clear hat' hbt' hof hof2 h'
                  have hsm : (¬ cW l k ≤ 9007199254740992) ∨ (cW l k ≤ 9007199254740992 ∧ ¬ cW l j ≤ 9007199254740992) ∨ (cW l k ≤ 9007199254740992 ∧ cW l j ≤ 9007199254740992 ∧ C < 0) ∨ (cW l k ≤ 9007199254740992 ∧ cW l j ≤ 9007199254740992 ∧ C = 0) ∨ (cW l k ≤ 9007199254740992 ∧ cW l j ≤ 9007199254740992 ∧ 0 < C) := by omega
                  have hne : (C != C) = false := by simp
                  rcases hsm with S1 | ⟨S1, S2⟩ | ⟨S1, S2, hC⟩ | ⟨S1, S2, hC⟩ | ⟨S1, S2, hC⟩
                  · clear htl hpk hpj hqk' hqj'
                    go_upto_region 23 with fail
                    clear p0 s0
                    refine region_sched (G := Mod []) [([0,1,2,3,4,5,6,7,8,9],10), ([11,12,13,14,15,16,17,18,19],20), ([21,22],23), ([24,25],26), ([27,28],29)] [30,31,32,33,34] (by kernel_rfl) (by kernel_rfl) (by kernel_rfl) rfl (Mod.refl _) (fun _ _ _ h1 h2 => h1.trans h2 (by simp)) ?_
                    simp only [stages, pickO, nthO, headO, List.cons_append, List.nil_append]
                    refine sched_step ?_
                    repeat (go_big_quiet_step (fail))
                    refine wpQuiet_nil ?_
                    intro K hK
                    rw [if_pos (by rfl)]
                    go_simp
                    refine (hcr.out _ hmx.out).mono ?_
                    rintro e w26 ⟨rfl, hm26⟩
                    try dsimp only
                    have hm27 := Lib.hid (hmx.out.trans hm26 (by simp))
                    refine hK.out _ _ hm26 ?_
                    clear hK K hm26 fk0 fk1 fj0 fj1 hcr hmx
                    refine sched_step ?_
                    repeat (go_big_quiet_step (fail))
                    refine wpQuiet_nil ?_
                    intro K hK
                    refine ite_no (by rfl) ?_
                    go_simp
                    generalize hA : Act.mk _ _ = A
                    have hK2 := hK.out A _ (Mod.refl [] _)
                    clear hK
                    apply hK2
                    clear hK2 K
                    subst hA
                    refine sched_step ?_
                    repeat (go_big_quiet_step (fail))
                    refine wpQuiet_nil ?_
                    intro K hK
                    refine ite_no (by rfl) ?_
                    go_simp
                    generalize hA : Act.mk _ _ = A
                    have hK2 := hK.out A _ (Mod.refl [] _)
                    clear hK
                    apply hK2
                    clear hK2 K
                    subst hA
                    refine sched_step ?_
                    repeat (go_big_quiet_step (fail))
                    refine wpQuiet_nil ?_
                    intro K hK
                    refine ite_no (by rfl) ?_
                    go_simp
                    generalize hA : Act.mk _ _ = A
                    have hK2 := hK.out A _ (Mod.refl [] _)
                    clear hK
                    apply hK2
                    clear hK2 K
                    subst hA
                    refine sched_step ?_
                    repeat (go_big_quiet_step (fail))
                    refine wpQuiet_nil ?_
                    intro K hK
                    refine ite_no (by rfl) ?_
                    go_simp
                    generalize hA : Act.mk _ _ = A
                    have hK2 := hK.out A _ (Mod.refl [] _)
                    clear hK
                    apply hK2
                    clear hK2 K
                    subst hA
                    refine sched_last ?_
                    repeat (go_big_quiet_step (fail))
                    refine wpQuiet_nil ?_
                    go_wp2_with fail
                    go_roundw
                    case rel => exact ⟨j + 1, by omega, by go_num, hm27⟩
                    case measure => simp [intOf]; omega
                  · clear htl hpk hpj hqk' hqj'
                    go_upto_region 23 with fail
                    clear p0 s0
                    refine region_sched (G := Mod []) [([0,1,2,3,4,5,6,7,8,9],10), ([11,12,13,14,15,16,17,18,19],20), ([21,22],23), ([24,25],26), ([27,28],29)] [30,31,32,33,34] (by kernel_rfl) (by kernel_rfl) (by kernel_rfl) rfl (Mod.refl _) (fun _ _ _ h1 h2 => h1.trans h2 (by simp)) ?_
                    simp only [stages, pickO, nthO, headO, List.cons_append, List.nil_append]
                    refine sched_step ?_
                    repeat (go_big_quiet_step (fail))
                    refine wpQuiet_nil ?_
                    intro K hK
                    rw [if_pos (by rfl)]
                    go_simp
                    refine (hcr.out _ hmx.out).mono ?_
                    rintro e w26 ⟨rfl, hm26⟩
                    try dsimp only
                    have hm27 := Lib.hid (hmx.out.trans hm26 (by simp))
                    refine hK.out _ _ hm26 ?_
                    clear hK K hm26 fk0 fk1 fj0 fj1 hcr hmx
                    refine sched_step ?_
                    repeat (go_big_quiet_step (fail))
                    refine wpQuiet_nil ?_
                    intro K hK
                    refine ite_no (by rfl) ?_
                    go_simp
                    generalize hA : Act.mk _ _ = A
                    have hK2 := hK.out A _ (Mod.refl [] _)
                    clear hK
                    apply hK2
                    clear hK2 K
                    subst hA
                    refine sched_step ?_
                    repeat (go_big_quiet_step (fail))
                    refine wpQuiet_nil ?_
                    intro K hK
                    refine ite_no (by rfl) ?_
                    go_simp
                    generalize hA : Act.mk _ _ = A
                    have hK2 := hK.out A _ (Mod.refl [] _)
                    clear hK
                    apply hK2
                    clear hK2 K
                    subst hA
                    refine sched_step ?_
                    repeat (go_big_quiet_step (fail))
                    refine wpQuiet_nil ?_
                    intro K hK
                    refine ite_no (by rfl) ?_
                    go_simp
                    generalize hA : Act.mk _ _ = A
                    have hK2 := hK.out A _ (Mod.refl [] _)
                    clear hK
                    apply hK2
                    clear hK2 K
                    subst hA
                    refine sched_step ?_
                    repeat (go_big_quiet_step (fail))
                    refine wpQuiet_nil ?_
                    intro K hK
                    refine ite_no (by rfl) ?_
                    go_simp
                    generalize hA : Act.mk _ _ = A
                    have hK2 := hK.out A _ (Mod.refl [] _)
                    clear hK
                    apply hK2
                    clear hK2 K
                    subst hA
                    refine sched_last ?_
                    repeat (go_big_quiet_step (fail))
                    refine wpQuiet_nil ?_
                    go_wp2_with fail
                    go_roundw
                    case rel => exact ⟨j + 1, by omega, by go_num, hm27⟩
                    case measure => simp [intOf]; omega
                  · have hord := Lib.hid (fun w' => order_any w' qk qj (by rw [hqk'.out]; exact hpk.out S1) (by rw [hqj'.out]; exact hpj.out S2))
                    have hlaw := (htl.out S1 S2).1 hC
                    have hC0 : (C == 0) = false := by simp; omega
                    clear htl hpk hpj
                    go_upto_region 23 with fail
                    clear p0 s0
                    refine region_sched (G := Mod []) [([0,1,2,3,4,5,6,7,8,9],10), ([11,12,13,14,15,16,17,18,19],20), ([21,22],23), ([24,25],26), ([27,28],29)] [30,31,32,33,34] (by kernel_rfl) (by kernel_rfl) (by kernel_rfl) rfl (Mod.refl _) (fun _ _ _ h1 h2 => h1.trans h2 (by simp)) ?_
                    simp only [stages, pickO, nthO, headO, List.cons_append, List.nil_append]
                    refine sched_step ?_
                    repeat (go_big_quiet_step (fail))
                    refine wpQuiet_nil ?_
                    intro K hK
                    rw [if_pos (by rfl)]
                    go_simp
                    refine (hcr.out _ hmx.out).mono ?_
                    rintro e w26 ⟨rfl, hm26⟩
                    try dsimp only
                    have hm27 := Lib.hid (hmx.out.trans hm26 (by simp))
                    refine hK.out _ _ hm26 ?_
                    clear hK K hm26 fk0 fk1 fj0 fj1 hcr hmx
                    refine sched_step ?_
                    repeat (go_big_quiet_step (fail))
                    refine wpQuiet_nil ?_
                    intro K hK
                    rw [if_pos (by rfl)]
                    go_simp
                    refine (hord.out _).mono ?_
                    rintro e w28 ⟨rfl, rfl⟩
                    try dsimp only
                    rw [hqk'.out, hqj'.out]
                    generalize cmpI (pl (ratF n (cW l k) (cS l k))) (pl (ratF n (cW l j) (cS l j))) = r at *
                    generalize hA : Act.mk _ _ = A
                    have hK2 := hK.out A _ (Mod.refl [] _)
                    clear hK
                    apply hK2
                    clear hK2 K
                    subst hA
                    refine sched_step ?_
                    repeat (go_big_quiet_step (fail))
                    refine wpQuiet_nil ?_
                    intro K hK
                    rw [if_pos (by rfl)]
                    go_simp
                    generalize hA : Act.mk _ _ = A
                    have hK2 := hK.out A _ (Mod.refl [] _)
                    clear hK
                    apply hK2
                    clear hK2 K
                    subst hA
                    refine sched_step ?_
                    repeat (go_big_quiet_step (fail))
                    refine wpQuiet_nil ?_
                    intro K hK
                    rw [if_pos (by rfl)]
                    go_simp
                    generalize hA : Act.mk _ _ = A
                    have hK2 := hK.out A _ (Mod.refl [] _)
                    clear hK
                    apply hK2
                    clear hK2 K
                    subst hA
                    refine sched_step ?_
                    repeat (go_big_quiet_step (fail))
                    refine wpQuiet_nil ?_
                    intro K hK
                    refine ite_no (by rfl) ?_
                    go_simp
                    generalize hA : Act.mk _ _ = A
                    have hK2 := hK.out A _ (Mod.refl [] _)
                    clear hK
                    apply hK2
                    clear hK2 K
                    subst hA
                    refine sched_last ?_
                    repeat (go_big_quiet_step (fail))
                    refine wpQuiet_nil ?_
                    go_wp2_with fail
                    go_roundw
                    case rel => exact ⟨j + 1, by omega, by go_num, hm27⟩
                    case measure => simp [intOf]; omega
                  · have hord := Lib.hid (fun w' => order_any w' qk qj (by rw [hqk'.out]; exact hpk.out S1) (by rw [hqj'.out]; exact hpj.out S2))
                    have hlaw := (htl.out S1 S2).2 hC
                    have hC0 : (C == 0) = true := by simp [hC]
                    have hC1 : decide (C < 0) = false := by simp [hC]
                    have hC2 : ¬ C < 0 := by omega
                    clear htl hpk hpj hC
                    go_upto_region 23 with fail
                    clear p0 s0
                    refine region_sched (G := Mod []) [([0,1,2,3,4,5,6,7,8,9],10), ([11,12,13,14,15,16,17,18,19],20), ([21,22],23), ([24,25],26), ([27,28],29)] [30,31,32,33,34] (by kernel_rfl) (by kernel_rfl) (by kernel_rfl) rfl (Mod.refl _) (fun _ _ _ h1 h2 => h1.trans h2 (by simp)) ?_
                    simp only [stages, pickO, nthO, headO, List.cons_append, List.nil_append]
                    refine sched_step ?_
                    repeat (go_big_quiet_step (fail))
                    refine wpQuiet_nil ?_
                    intro K hK
                    rw [if_pos (by rfl)]
                    go_simp
                    refine (hcr.out _ hmx.out).mono ?_
                    rintro e w26 ⟨rfl, hm26⟩
                    try dsimp only
                    have hm27 := Lib.hid (hmx.out.trans hm26 (by simp))
                    refine hK.out _ _ hm26 ?_
                    clear hK K hm26 fk0 fk1 fj0 fj1 hcr hmx
                    refine sched_step ?_
                    repeat (go_big_quiet_step (fail))
                    refine wpQuiet_nil ?_
                    intro K hK
                    refine ite_no (by rfl) ?_
                    go_simp
                    generalize hA : Act.mk _ _ = A
                    have hK2 := hK.out A _ (Mod.refl [] _)
                    clear hK
                    apply hK2
                    clear hK2 K
                    subst hA
                    refine sched_step ?_
                    repeat (go_big_quiet_step (fail))
                    refine wpQuiet_nil ?_
                    intro K hK
                    rw [if_pos (by rfl)]
                    go_simp
                    generalize hA : Act.mk _ _ = A
                    have hK2 := hK.out A _ (Mod.refl [] _)
                    clear hK
                    apply hK2
                    clear hK2 K
                    subst hA
                    refine sched_step ?_
                    repeat (go_big_quiet_step (fail))
                    refine wpQuiet_nil ?_
                    intro K hK
                    rw [if_pos (by rfl)]
                    go_simp
                    generalize hA : Act.mk _ _ = A
                    have hK2 := hK.out A _ (Mod.refl [] _)
                    clear hK
                    apply hK2
                    clear hK2 K
                    subst hA
                    refine sched_step ?_
                    repeat (go_big_quiet_step (fail))
                    refine wpQuiet_nil ?_
                    intro K hK
                    rw [if_pos (by rfl)]
                    go_simp
                    refine (hord.out _).mono ?_
                    rintro e w28 ⟨rfl, rfl⟩
                    try dsimp only
                    rw [hqk'.out, hqj'.out]
                    generalize cmpI (pl (ratF n (cW l k) (cS l k))) (pl (ratF n (cW l j) (cS l j))) = r at *
                    generalize hA : Act.mk _ _ = A
                    have hK2 := hK.out A _ (Mod.refl [] _)
                    clear hK
                    apply hK2
                    clear hK2 K
                    subst hA
                    refine sched_last ?_
                    repeat (go_big_quiet_step (fail))
                    refine wpQuiet_nil ?_
                    go_wp2_with fail
                    go_roundw
                    case rel => exact ⟨j + 1, by omega, by go_num, hm27⟩
                    case measure => simp [intOf]; omega
                  · have hC0 : (C == 0) = false := by simp; omega
                    have hC1 : decide (C < 0) = false := by simp; omega
                    have hC2 : ¬ C < 0 := by omega
                    clear htl hpk hpj hqk' hqj'
                    go_upto_region 23 with fail
                    clear p0 s0
                    refine region_sched (G := Mod []) [([0,1,2,3,4,5,6,7,8,9],10), ([11,12,13,14,15,16,17,18,19],20), ([21,22],23), ([24,25],26), ([27,28],29)] [30,31,32,33,34] (by kernel_rfl) (by kernel_rfl) (by kernel_rfl) rfl (Mod.refl _) (fun _ _ _ h1 h2 => h1.trans h2 (by simp)) ?_
                    simp only [stages, pickO, nthO, headO, List.cons_append, List.nil_append]
                    refine sched_step ?_
                    repeat (go_big_quiet_step (fail))
                    refine wpQuiet_nil ?_
                    intro K hK
                    rw [if_pos (by rfl)]
                    go_simp
                    refine (hcr.out _ hmx.out).mono ?_
                    rintro e w26 ⟨rfl, hm26⟩
                    try dsimp only
                    have hm27 := Lib.hid (hmx.out.trans hm26 (by simp))
                    refine hK.out _ _ hm26 ?_
                    clear hK K hm26 fk0 fk1 fj0 fj1 hcr hmx
                    refine sched_step ?_
                    repeat (go_big_quiet_step (fail))
                    refine wpQuiet_nil ?_
                    intro K hK
                    refine ite_no (by rfl) ?_
                    go_simp
                    generalize hA : Act.mk _ _ = A
                    have hK2 := hK.out A _ (Mod.refl [] _)
                    clear hK
                    apply hK2
                    clear hK2 K
                    subst hA
                    refine sched_step ?_
                    repeat (go_big_quiet_step (fail))
                    refine wpQuiet_nil ?_
                    intro K hK
                    rw [if_pos (by rfl)]
                    go_simp
                    generalize hA : Act.mk _ _ = A
                    have hK2 := hK.out A _ (Mod.refl [] _)
                    clear hK
                    apply hK2
                    clear hK2 K
                    subst hA
                    refine sched_step ?_
                    repeat (go_big_quiet_step (fail))
                    refine wpQuiet_nil ?_
                    intro K hK
                    rw [if_pos (by rfl)]
                    go_simp
                    generalize hA : Act.mk _ _ = A
                    have hK2 := hK.out A _ (Mod.refl [] _)
                    clear hK
                    apply hK2
                    clear hK2 K
                    subst hA
                    refine sched_step ?_
                    repeat (go_big_quiet_step (fail))
                    refine wpQuiet_nil ?_
                    intro K hK
                    refine ite_no (by rfl) ?_
                    go_simp
                    generalize hA : Act.mk _ _ = A
                    have hK2 := hK.out A _ (Mod.refl [] _)
                    clear hK
                    apply hK2
                    clear hK2 K
                    subst hA
                    refine sched_last ?_
                    repeat (go_big_quiet_step (fail))
                    refine wpQuiet_nil ?_
                    go_wp2_with fail
                    go_roundw
                    case rel => exact ⟨j + 1, by omega, by go_num, hm27⟩
                    case measure => simp [intOf]; omega
                · have hj' : j = l.length := by omega
                  subst hj'
                  go_wp2_with fail
                  go_roundw
                  case rel => exact ⟨k + 1, by omega, by go_num, hmr⟩
                  case measure => simp [intOf]; omega
          · have hk' : k = l.length := by omega
            subst hk'
            have t1 := Lib.hid (fun (w' : World) (m : Mod [] w w') => thin_prog (n := n) (h'.out.still m))
            have t2 := Lib.hid (fun (w' : World) (m : Mod [] w w') => thin_ref (n := n) (h'.out.still m))
            clear h'
            go_wp2_with fail
            refine (t1.out _ hm.out).mono ?_
            rintro e w2 ⟨rfl, hm2⟩
            try dsimp only
            have hm3 := Lib.hid (hm.out.trans hm2 (by simp))
            clear hm2 hm
            go_wp2_with fail
            refine (t2.out _ hm3.out).mono ?_
            rintro e w4 ⟨rfl, hm4⟩
            try dsimp only
            have hm5 := Lib.hid (hm3.out.trans hm4 (by simp))
            clear hm4 hm3 t1 t2
            generalize bestI n l l.length = bb at *
            go_wp2_with fail
            refine (awake44 _).mono ?_
            rintro e w6 ⟨rfl, hm6⟩
            try dsimp only
            have hm7 := Lib.hid (hm5.out.trans hm6 (by simp))
            clear hm6 hm5
            go_wp2_with fail
            go_ret
            exact ⟨rfl, hm7.out⟩
end Ratio
end Go.Proofs.Ytmkbinbggiocaaa
