/- CodeReads: the walk. -/
import Derived.Test.YtmkbinbggiocaaaReads1
import Derived.Test.YtmkbinbggiocaaaRead2
set_option linter.unusedVariables false
set_option linter.unusedSimpArgs false
namespace Go.Proofs.Ytmkbinbggiocaaa
open Go.RowKit
namespace Code
set_option maxRecDepth 100000 in
set_option maxHeartbeats 8000000 in
theorem reads_any {w : World} {vb vo : Value} (bs : List Int) (ops : List OpS) (hb : Rd w 1 vb bs.length (u8s bs)) (hbb : ∀ x ∈ bs, 0 ≤ x ∧ x < 256) (ho : Rd w 3 vo ops.length (flat encOpS ops)) (hstr : ∀ o ∈ ops, o.2.2.size ≤ 9223372036854775807)
    (h1 : bs.length ≤ 600) (h2 : ops.length ≤ 100) :
    Calls Try.prog 7 #[vb, vo] w fun e w' => e = .returned (.bool true) ∧ Mod [] w w' := by
  obtain ⟨ab, cb, rfl⟩ := hb.val
  obtain ⟨ao, co, rfl⟩ := ho.val
  have hg1 : decide (600 < (bs.length : Int)) = false := by simp; omega
  have hg1' : decide (600 < bs.length) = false := by simp; omega
  have hg2 : decide (100 < (ops.length : Int)) = false := by simp; omega
  have hg2' : decide (100 < ops.length) = false := by simp; omega
  have hb' := Lib.hid hb
  have ho' := Lib.hid ho
  have hbb' := Lib.hid hbb
  have hstr' := Lib.hid hstr
  have haw := Lib.hid (fun W => awake_true W)
  have hend := Lib.hid (fun W => noneEnd W)
  have hatn := Lib.hid (fun W => noneAt W)
  clear hb ho hbb hstr
  go_enter Try.func7, Try.ntmps7
  go_wp2_with (at_builtin; refine app_rd rfl (.tmp 19) (.tmp 20) 45 5 _ 1 1 rfl Try.underlying45 infoU8 rfl (by omega) (by omega) (.slice (some ⟨w.heap.size, 0, none⟩) 0 0) (.slice ab bs.length cb) 0 bs.length [] (u8s bs) rfl rfl (u8s_one bs) (World.ownsRow_made w #[] 0 (Nat.zero_le _) (Nat.zero_le _) rfl) (hb'.out.still ((Mod.refl _ _).alloc _)) (by omega) ?_; intro ai ci w1 hi mi ni)
  rw [Nat.zero_add] at hi ni
  have hmi : Made w w1 5 1 ai bs.length ci (u8s bs) := ⟨by simpa using hi, ((Mod.refl [] w).alloc _).ge mi (by simp [Value.ownBlock]), ge_of_old _ (by simp [Value.ownBlock]) ni (by simp)⟩
  clear hi mi ni
  have hmi' := Lib.hid hmi
  clear hmi
  go_wp2_with fail
  refine (new_any (Rd.own hmi'.out.own) (by omega)).mono ?_
  rintro e w2 ⟨r, a, c, rfl, hR, hmN, hrn, han⟩
  dsimp only
  have hrx : Hid (∀ w3, w3 = w2.alloc (.cells #[.slice ab bs.length cb, .int .i64 0, .bool false] 75) → RX w w3 r w2.heap.size a ai c ci (.slice ab bs.length cb) bs 0 false) := fun w3 e => by
    subst e
    have hm2 : Mod [] w w2 := hmi'.out.mod.trans hmN (by simp)
    have hrl := hR.has.lt
    refine ⟨hR.still ((Mod.refl [] w2).alloc _), ⟨Has.new w2 _ _, hb'.out, hm2.alloc _, hm2.size, Nat.zero_le _, by omega⟩, own_keep hmi'.out.own (hmN.trans ((Mod.refl [] w2).alloc _) (by simp)) (by simp), Nat.le_trans hmi'.out.mod.size hrn, hrl, fun g hg => ⟨?_, Nat.le_trans hmi'.out.mod.size (han g hg)⟩, fun g hg => ?_⟩
    · have := own_lt hR.own hg; omega
    · have := own_lt hmi'.out.own hg; have := hmN.size; omega
  have hR2 := Lib.hid hR
  clear hR hmN hrn han
  go_wp2_with fail
  refine (hatn.out _).mono ?_
  rintro e w3 ⟨rfl, rfl⟩
  dsimp only
  go_wp2_with fail
  refine (hend.out _).mono ?_
  rintro e w3 ⟨rfl, rfl⟩
  dsimp only
  go_wp2_with fail
  have hrx0 := Lib.hid (hrx.out _ rfl)
  clear hrx
  generalize hrxn : w2.heap.size = rx at *
  clear hrxn hg1 hg1' hg2 hg2'
  go_loopw [9] (fun iv wr => ∃ (i k : Nat) (st : Bool), i ≤ ops.length ∧ iv = .int .i64 i ∧ RX w wr r rx a ai c ci (.slice ab bs.length cb) bs k st) (fun iv _ => ops.length - (intOf iv).toNat)
  case atStart => exact ⟨0, 0, false, Nat.zero_le _, rfl, hrx0.out⟩
  case round =>
    obtain ⟨i, k, st, hi, rfl, hx⟩ := hrel
    obtain ⟨wo, hwo⟩ : ∃ wo : World, wo = wr := ⟨_, rfl⟩
    clear hwo
    have hx' := Lib.hid hx
    have hne := hx.rrx
    clear hx
    by_cases hlt : i < ops.length
    · have hlt2 : (i : Int) < ops.length := by omega
      obtain ⟨go, oo, ⟨K, N, s⟩, rfl, hxo, hcells⟩ := ops_cells ho'.out hlt
      have hs := hstr'.out _ (List.mem_of_getElem? hxo)
      simp only at hcells hs
      rcases hd : rDo bs k st K N (bytesI s) with ⟨res, k1, st1⟩
      have hd' := Lib.hid hd
      have hcells' := Lib.hid hcells
      have hs' := Lib.hid hs
      clear hd hcells hxo hs
      have hmod : Hid (∀ W, GS r rx (.slice a bs.length c) (.slice ab bs.length cb) k1 st1 wr.drew W → Mod [] w W) := fun W m => (hx'.out.mod.trans (Mod.refl [] wr).drew (by simp)).trans m.1 (fun b hb hlt => by
        have h1 := hx'.out.rr
        have h2 := hx'.out.rrx
        simp only [List.mem_cons, List.mem_nil_iff, or_false] at hb
        omega)
      have f0 : ∀ m : Fut (GS r rx (.slice a bs.length c) (.slice ab bs.length cb) k1 st1) wr.drew, m.v.cell? ⟨go, oo + i * 3, none⟩ = some (.int .i64 K) := fun m => (hcells'.out _ (hmod.out m.v m.of)).1
      have f1 : ∀ m : Fut (GS r rx (.slice a bs.length c) (.slice ab bs.length cb) k1 st1) wr.drew, m.v.cell? ⟨go, oo + i * 3 + 1, none⟩ = some (.int .i64 N) := fun m => (hcells'.out _ (hmod.out m.v m.of)).2.1
      have f2 : ∀ m : Fut (GS r rx (.slice a bs.length c) (.slice ab bs.length cb) k1 st1) wr.drew, m.v.cell? ⟨go, oo + i * 3 + 2, none⟩ = some (.string s) := fun m => (hcells'.out _ (hmod.out m.v m.of)).2.2
      go_wp2_with fail
      refine region_sched (G := GS r rx (.slice a bs.length c) (.slice ab bs.length cb) k1 st1) [([0,1,2,3,4,6,7,8,9,10],5), ([],11), ([],12), ([13,14,15,17,18,19,20],16), ([21,22,23,24,26],25), ([],27)] [28,29] (by kernel_rfl) (by kernel_rfl) (by kernel_rfl) rfl (GS.refl _ _ _ _ _ _) (GS.trans _ _ _ _ _ _) ?_
      simp only [stages, pickO, nthO, headO, List.cons_append, List.nil_append]
      refine sched_step ?_
      repeat (go_big_quiet_step (fail))
      refine wpQuiet_nil ?_
      intro K' hK
      rw [if_pos (by rfl)]
      go_simp
      have hx0 := Lib.hid (hx'.out.still (Mod.refl [] wr).drew)
      refine (rdDo K N s hs'.out hx0.out.rt hbb'.out).mono ?_
      intro e w3 h3
      unfold RDoOut at h3
      rw [hd'.out] at h3
      obtain ⟨v1, rfl, hv1, hn1, hR1, hm1⟩ := h3
      obtain ⟨a1, c1, rfl⟩ := hv1.val
      try dsimp only
      have hg3 := GS.left (v := .slice a bs.length c) (vb := .slice ab bs.length cb) (Nat.ne_of_lt hne) hm1 hR1.has
      refine hK.out _ _ hg3 ?_
      clear hK K'
      have hX3 := Lib.hid (hx0.out.xt.keep hm1 (by simp; omega) (fun b hb => by have := hx0.out.rr; simp only [List.mem_singleton] at hb; omega))
      have hv1' := Lib.hid hv1
      have hn1' := Lib.hid hn1
      have hR1' := Lib.hid hR1
      have hm1' := Lib.hid hm1
      clear f0 f1 f2 hg3 hv1 hn1 hR1 hm1
      refine sched_step ?_
      repeat (go_big_quiet_step (fail))
      refine wpQuiet_nil ?_
      intro K' hK
      rw [if_pos (by rfl)]
      go_simp
      refine (xDo K N s hs'.out hX3.out hbb'.out).mono ?_
      intro e w4 h4
      unfold XDoOut at h4
      rw [hd'.out] at h4
      obtain ⟨v2, rfl, hv2, _, hX4, hm4⟩ := h4
      obtain ⟨a2, c2, rfl⟩ := hv2.val
      try dsimp only
      refine hK.out _ _ (GS.right (Nat.ne_of_lt hne) hm4 hX4.has) ?_
      clear hK K'
      have hx4 := Lib.hid (hx0.out.go hm1'.out hR1'.out hm4 hX4)
      have hv4 := Lib.hid (hv1'.out.keep hm4 (fun g hg hm => by have h1 := hn1'.out g hg; have h2 := hx0.out.xt.has.lt; simp only [List.mem_singleton] at hm; omega))
      have hv2' := Lib.hid hv2
      clear hX4 hm4 hv2
      refine sched_step ?_
      repeat (go_big_quiet_step (fail))
      refine wpQuiet_nil ?_
      intro K' hK
      rw [if_pos (by rfl)]
      go_simp
      refine (same_any hv4.out hv2'.out).mono ?_
      rintro e w5 ⟨rfl, hd5⟩
      have heq : eqI res res = true := by simp [eqI]
      rw [heq]
      try dsimp only
      refine hK.out _ _ (GS.still hd5.mod) ?_
      clear hK K' heq
      have hx5 := Lib.hid (hx4.out.still hd5.mod)
      have fx : ∀ m : Fut (GS r rx (.slice a bs.length c) (.slice ab bs.length cb) k1 st1) w5, m.v.cell? ⟨rx, 1, none⟩ = some (.int .i64 k1) := fun m => (m.of.2 ⟨hx5.out.rt.has, hx5.out.xt.has⟩).2.cell 1 rfl
      clear hd5
      refine sched_step ?_
      repeat (go_big_quiet_step (fail))
      refine wpQuiet_nil ?_
      intro K' hK
      rw [if_pos (by rfl)]
      go_simp
      refine (rdAt hx5.out.rt).mono ?_
      rintro e w6 ⟨rfl, rfl⟩
      try dsimp only
      refine hK.out _ _ (GS.refl _ _ _ _ _ _ _) ?_
      clear hK K'
      refine sched_step ?_
      repeat (go_big_quiet_step (fail))
      refine wpQuiet_nil ?_
      intro K' hK
      rw [if_pos (by rfl)]
      go_simp
      refine (rdEnd hx5.out.rt).mono ?_
      rintro e w6 ⟨rfl, hm6⟩
      try dsimp only
      refine hK.out _ _ (GS.still hm6) ?_
      clear hK K' fx
      have hx6 := Lib.hid (hx5.out.still hm6)
      clear hm6
      refine sched_step ?_
      repeat (go_big_quiet_step (fail))
      refine wpQuiet_nil ?_
      intro K' hK
      rw [if_pos (by rfl)]
      go_simp
      refine (xEnd hx6.out.xt).mono ?_
      rintro e w7 ⟨rfl, hm7⟩
      try dsimp only
      refine hK.out _ _ (GS.still hm7) ?_
      clear hK K'
      have hx7 := Lib.hid (hx6.out.still hm7)
      clear hm7
      refine sched_last ?_
      generalize hre : rEnd bs k1 st1 = re at *
      have hre' := Lib.hid hre
      clear hre
      repeat (go_big_quiet_step (fail))
      refine wpQuiet_nil ?_
      obtain ⟨q0, q1, q2⟩ := hcells'.out _ hx7.out.mod
      clear hmod
      by_cases hK0 : 0 ≤ K
      · have t1 : decide (0 ≤ K) = true := by simpa using hK0
        by_cases hK3 : K < 3
        · have t2 : decide (K < 3) = true := by simpa using hK3
          have hnd := Lib.hid (fun W => noneDo W K N s ⟨hK0, hK3⟩)
          go_wp2_with fail
          refine (hnd.out _).mono ?_
          rintro e w8 ⟨aN, cN, rfl, hmN⟩
          try dsimp only
          have hx8 := Lib.hid (hx7.out.still hmN.mod)
          have hmN' := Lib.hid hmN
          clear hmN q0 q1 q2
          go_wp2_with fail
          have hz : Rd (w8.alloc (.cells #[.int .i64 0] 3)) 1 (.slice (some ⟨w8.heap.size, 0, none⟩) 1 1) ([0] : List Int).length (vi64 [0]) := Rd.own (made_lit w8 3 [.int .i64 0] (by simp)).own
          refine (same_any (xs := [0]) (ys := [0]) ((Rd.own hmN'.out.own).still ((Mod.refl [] w8).alloc _)) hz).mono ?_
          rintro e w9 ⟨rfl, hd9⟩
          have heq : eqI [0] [0] = true := by simp [eqI]
          rw [heq]
          try dsimp only
          have hx9 := Lib.hid (hx8.out.still (((Mod.refl [] w8).alloc _).trans hd9.mod (by simp)))
          clear hz heq hd9
          go_wp2_with fail
          go_roundw
          case rel => exact ⟨i + 1, k1, st1, by omega, by go_num, hx9.out⟩
          case measure => simp [intOf]; omega
        · have t2 : decide (K < 3) = false := by simpa using hK3
          go_wp2_with fail
          go_roundw
          case rel => exact ⟨i + 1, k1, st1, by omega, by go_num, hx7.out⟩
          case measure => simp [intOf]; omega
      · have t1 : decide (0 ≤ K) = false := by simpa using hK0
        go_wp2_with fail
        go_roundw
        case rel => exact ⟨i + 1, k1, st1, by omega, by go_num, hx7.out⟩
        case measure => simp [intOf]; omega
    · have hil : ops.length = i := by omega
      have t1 : decide ((i : Int) < (ops.length : Int)) = false := by simp; omega
      have t1' : decide (i < ops.length) = false := by simpa using hlt
      have v1 := conv_rd (Rd.own hx'.out.inn)
      have v2 := conv_rd (hb'.out.still hx'.out.mod)
      generalize strOfNums bs = sb at *
      have hm := Lib.hid hx'.out.mod
      clear hlt hil
      go_wp2_with fail
      refine (haw.out _).mono ?_
      rintro e w8 ⟨rfl, hm8⟩
      try dsimp only
      have hm9 := Lib.hid (hm.out.trans hm8 (by simp))
      clear hm8 v1 v2
      go_wp2_with fail
      go_ret
      exact ⟨rfl, hm9.out⟩
set_option maxRecDepth 100000 in
set_option maxHeartbeats 4000000 in
theorem reads_far {w : World} {ab ao : Option Addr} {nb cb no co : Nat} (h : 600 < nb ∨ 100 < no) :
    Calls Try.prog 7 #[.slice ab nb cb, .slice ao no co] w fun e w' => e = .returned (.bool true) ∧ Mod [] w w' := by
  have haw := Lib.hid (fun W => awake_true W)
  have h' := Lib.hid h
  clear h
  by_cases h1 : 600 < nb
  · have g1 : decide (600 < (nb : Int)) = true := by simp; omega
    have g1' : decide (600 < nb) = true := by simpa using h1
    go_enter Try.func7, Try.ntmps7
    go_wp2_with fail
    refine (haw.out _).mono ?_
    rintro e w1 ⟨rfl, hm1⟩
    dsimp only
    have hf := Lib.hid hm1
    clear hm1
    go_wp2_with fail
    go_ret
    exact ⟨rfl, hf.out⟩
  · have g1 : decide (600 < (nb : Int)) = false := by simp; omega
    have g1' : decide (600 < nb) = false := by simpa using h1
    have h3 : 100 < no := by have := h'.out; omega
    have g3 : decide (100 < (no : Int)) = true := by simp; omega
    have g3' : decide (100 < no) = true := by simpa using h3
    go_enter Try.func7, Try.ntmps7
    go_wp2_with fail
    refine (haw.out _).mono ?_
    rintro e w1 ⟨rfl, hm1⟩
    dsimp only
    have hf := Lib.hid hm1
    clear hm1
    go_wp2_with fail
    go_ret
    exact ⟨rfl, hf.out⟩
theorem reads_all {w : World} {vb vo : Value} (bs : List Int) (ops : List OpS) (hb : Rd w 1 vb bs.length (u8s bs)) (hbb : ∀ x ∈ bs, (Lit.int .u8 x).wf = true) (ho : Rd w 3 vo ops.length (flat encOpS ops)) (hstr : ∀ o ∈ ops, o.2.2.size ≤ 9223372036854775807) :
    Calls Try.prog 7 #[vb, vo] w fun e w' => e = .returned (.bool true) ∧ Mod [] w w' := by
  by_cases h : 600 < bs.length ∨ 100 < ops.length
  · obtain ⟨ab, cb, rfl⟩ := hb.val
    obtain ⟨ao, co, rfl⟩ := ho.val
    exact reads_far h
  · exact reads_any bs ops hb (fun x hx => wf8 (hbb x hx)) ho hstr (by omega) (by omega)
end Code
end Go.Proofs.Ytmkbinbggiocaaa
