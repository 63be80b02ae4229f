/- The reference's heap: Len, First, Pop. -/
import Derived.Test.YtmkbinbggiocaaaRef12a
set_option linter.unusedVariables false
set_option linter.unusedSimpArgs false
namespace Go.Proofs.Ytmkbinbggiocaaa
open Go.RowKit Arena
namespace Ref12
open Go.Proofs.Ytmkbinbggiocaaa.Code
open Go.Proofs.Ytmkbinbggiocaaa.Hp
def cntTo (I : List Bool) (k : Nat) : Nat := (I.take k).countP id
theorem cntTo_yes {I : List Bool} {k : Nat} (h : k < I.length) (hb : I.getD k false = true) : cntTo I (k + 1) = cntTo I k + 1 := by
  unfold cntTo
  rw [List.take_add_one, List.countP_append, List.getElem?_eq_getElem h]
  have : I[k] = true := by simpa [List.getD_eq_getElem?_getD, List.getElem?_eq_getElem h] using hb
  simp [this]
theorem cntTo_no {I : List Bool} {k : Nat} (h : k < I.length) (hb : I.getD k false = false) : cntTo I (k + 1) = cntTo I k := by
  unfold cntTo
  rw [List.take_add_one, List.countP_append, List.getElem?_eq_getElem h]
  have : I[k] = false := by simpa [List.getD_eq_getElem?_getD, List.getElem?_eq_getElem h] using hb
  simp [this]
theorem cntTo_le (I : List Bool) (k : Nat) : cntTo I k ≤ I.length := by
  unfold cntTo
  have h1 := List.countP_le_length (p := id) (l := I.take k)
  rw [List.length_take] at h1
  omega
theorem cntTo_all (I : List Bool) : cntTo I I.length = I.countP id := by unfold cntTo; rw [List.take_length]
set_option maxHeartbeats 1000000 in
theorem len_x {w : World} {bx : Nat} {I : List Bool} {X : List Int} {F : List Nat} (h : XAt w bx I X F) :
    Calls Try.prog 79 #[.pointer (some ⟨bx, 0, none⟩)] w fun e w' => e = .returned (.int .i64 (I.countP id)) ∧ w' = w := by
  obtain ⟨gi, gk, hc, hF, hl⟩ := h.cells
  obtain ⟨c0, c1, ci, ck, zi, zk, bl, il, kl, n1, n2, n3⟩ := hc
  clear h ck c1 zi zk kl n1 n2 n3 hF
  have ci' := Lib.hid ci
  have hall := Lib.hid (cntTo_all I)
  obtain ⟨n, hn⟩ : ∃ n, n = I.length := ⟨_, rfl⟩
  rw [← hn] at c0 hl
  have hn' := Lib.hid hn
  have hle := Lib.hid (fun k => cntTo_le I k)
  clear ci hn
  go_enter Try.func79, Try.ntmps79
  go_wp2_with fail
  go_loopw [3, 4] (fun m i wr => ∃ k : Nat, k ≤ n ∧ i = .int .i64 k ∧ m = .int .i64 (cntTo I k) ∧ wr = w) (fun _ i _ => n - (intOf i).toNat)
  case atStart => exact ⟨0, Nat.zero_le _, rfl, rfl, rfl⟩
  case round =>
    obtain ⟨k, hk, rfl, rfl, rfl⟩ := hrel
    by_cases hlt : k < n
    · have hlt1 : (k : Int) < n := by omega
      have hki : k < I.length := by rw [← hn'.out]; exact hlt
      have hcell := ci'.out k hki
      have hcl := hle.out k
      have hnI := hn'.out
      cases hb : I.getD k false with
      | true =>
        rw [hb] at hcell
        have hy := Lib.hid (cntTo_yes hki hb)
        clear hb hki hnI
        generalize hcn : cntTo I k = cn at *
        clear hcn
        have hcl' : cn ≤ 4096 := by have := hn'.out; omega
        clear hcl
        go_wp2_with fail
        go_roundw
        case rel => exact ⟨k + 1, by omega, by go_num, by rw [hy.out]; go_num, trivial⟩
        case measure => simp [intOf]; omega
      | false =>
        rw [hb] at hcell
        have hy := Lib.hid (cntTo_no hki hb)
        clear hb hki hnI
        generalize hcn : cntTo I k = cn at *
        clear hcn hcl
        go_wp2_with fail
        go_roundw
        case rel => exact ⟨k + 1, by omega, by go_num, by rw [hy.out], trivial⟩
        case measure => simp [intOf]; omega
    · have hkn : k = n := by omega
      subst hkn
      have hfin : cntTo I k = I.countP id := by rw [hn'.out]; exact hall.out
      rw [hfin]
      clear hfin
      go_wp2_with fail
      go_ret
      exact ⟨rfl, rfl⟩
theorem XAt.all {w : World} {bx : Nat} {I : List Bool} {X : List Int} {F : List Nat} (h : XAt w bx I X F) : ∃ gi gk, (∀ wr, Mod [] w wr → Cells wr bx gi gk I.length I X) ∧ F = [bx, gi, gk] ∧ I.length ≤ 4096 := by
  obtain ⟨gi, gk, hc, hF, hl⟩ := h.cells
  refine ⟨gi, gk, fun wr m => ?_, hF, hl⟩
  obtain ⟨gi', gk', hc', hF', _⟩ := (h.still m).cells
  rw [hF] at hF'
  simp only [List.cons.injEq, and_true, true_and] at hF'
  obtain ⟨rfl, rfl⟩ := hF'
  exact hc'
theorem step_out {I : List Bool} {X : List Int} {k : Nat} (h : I.getD k false = false) : firstTo I X (k + 1) = firstTo I X k := by
  rw [firstTo]
  cases firstTo I X k with
  | none => simp only [h]; rfl
  | some p => simp only [h]; rfl
theorem step_none {I : List Bool} {X : List Int} {k : Nat} (h : I.getD k false = true) (hf : firstTo I X k = none) : firstTo I X (k + 1) = some (k, X.getD k 0) := by
  rw [firstTo, hf]
  simp only [h, if_true]
theorem step_gt {I : List Bool} {X : List Int} {k v : Nat} {x : Int} (h : I.getD k false = true) (hf : firstTo I X k = some (v, x)) (hx : x < X.getD k 0) : firstTo I X (k + 1) = some (k, X.getD k 0) := by
  rw [firstTo, hf]
  simp only [h, decide_eq_true hx, Bool.and_self, if_true]
theorem step_le {I : List Bool} {X : List Int} {k v : Nat} {x : Int} (h : I.getD k false = true) (hf : firstTo I X k = some (v, x)) (hx : ¬ x < X.getD k 0) : firstTo I X (k + 1) = some (v, x) := by
  rw [firstTo, hf]
  simp only [h, decide_eq_false hx]
  rfl
def tV (o : Option (Nat × Int)) : List Value := match o with
  | none => [.int .i64 0, .int .i64 0, .bool false]
  | some (v, x) => [.int .i64 v, .int .i64 x, .bool true]
def topVal (t : Int × Int × Bool) : Value := .agg #[.int .i64 t.1, .int .i64 t.2.1, .bool t.2.2]
set_option maxRecDepth 100000 in
set_option maxHeartbeats 2000000 in
theorem first_x {w : World} {bx : Nat} {I : List Bool} {X : List Int} {F : List Nat} (h : XAt w bx I X F) :
    Calls Try.prog 145 #[.pointer (some ⟨bx, 0, none⟩)] w fun e w' => e = .returned (topVal (topV I X)) ∧ Mod [] w w' := by
  obtain ⟨gi, gk, hc, hF, hl⟩ := h.all
  have hbl := (hc w (Mod.refl _ _)).bl
  clear h hF
  have hc' := Lib.hid hc
  clear hc
  obtain ⟨n, hn⟩ : ∃ n, n = I.length := ⟨_, rfl⟩
  rw [← hn] at hl hc'
  have hn' := Lib.hid hn
  clear hn
  have m0 : Mod [] w ((w.alloc (.cells #[.int .i64 0, .int .i64 0, .bool false] 197)).alloc (.cells #[.int .i64 0, .int .i64 0, .bool false] 197)) := ((Mod.refl [] w).alloc _).alloc _
  have k1 := (Has.new w [.int .i64 0, .int .i64 0, .bool false] 197).alloc (.cells #[.int .i64 0, .int .i64 0, .bool false] 197)
  have k2 := Has.new (w.alloc (.cells #[.int .i64 0, .int .i64 0, .bool false] 197)) [.int .i64 0, .int .i64 0, .bool false] 197
  rw [World.size_alloc] at k2
  obtain ⟨B, hB⟩ : ∃ B, w.heap.size = B := ⟨_, rfl⟩
  rw [hB] at k1 k2
  have m0' := Lib.hid m0
  have k1' := Lib.hid k1
  have k2' := Lib.hid k2
  have hB' := Lib.hid hB
  clear m0 k1 k2 hB
  go_enter Try.func145, Try.ntmps145
  go_wp2_with fail
  rw [hB'.out]
  go_loopw [4] (fun i wr => ∃ k : Nat, k ≤ n ∧ i = .int .i64 k ∧ Hid (Mod [] w wr) ∧ Hid (Has wr B (tV none) 197) ∧ Hid (Has wr (B + 1) (tV (firstTo I X k)) 197)) (fun i _ => n - (intOf i).toNat)
  case atStart => exact ⟨0, Nat.zero_le _, rfl, m0', k1', k2'⟩
  case round =>
    clear m0' k1' k2'
    obtain ⟨k, hk, rfl, hm, hs1, hs2⟩ := hrel
    obtain ⟨c0, c1, ci, ck, zi, zk, bl, il, kl, n1, n2, n3⟩ := hc'.out wr hm.out
    have hbb := hs2.out.lt
    have hB1 : bx ≠ B + 1 := by have := hB'.out; omega
    clear hbl
    by_cases hlt : k < n
    · have hlt1 : (k : Int) < n := by omega
      have hci := ci k hlt
      have hck := ck k hlt
      clear ci ck zi zk n1 n2 n3
      have s0 := Lib.hid (fun h => step_out (I := I) (X := X) (k := k) h)
      have s1 := Lib.hid (fun h hf => step_none (I := I) (X := X) (k := k) h hf)
      have s2 := Lib.hid (fun v x h hf hx => step_gt (I := I) (X := X) (k := k) (v := v) (x := x) h hf hx)
      have s3 := Lib.hid (fun v x h hf hx => step_le (I := I) (X := X) (k := k) (v := v) (x := x) h hf hx)
      generalize hfn : firstTo I X (k + 1) = tn at *
      have etn := Lib.hid hfn
      clear hfn
      generalize firstTo I X k = t at *
      generalize X.getD k 0 = u at *
      -- what the round leaves
      have keep : ∀ wr', Mod [] wr wr' → tn = t → Hid (Mod [] w wr') ∧ Hid (Has wr' B (tV none) 197) ∧ Hid (Has wr' (B + 1) (tV tn) 197) := fun wr' m e => ⟨hm.out.trans m (by simp), hs1.out.keep m (by simp), by rw [e]; exact hs2.out.keep m (by simp)⟩
      have take : ∀ wr', Mod [] wr wr' → tn = some (k, u) → Hid (Mod [] w (((wr'.setCell ⟨B + 1, 0, none⟩ (.int .i64 k)).setCell ⟨B + 1, 1, none⟩ (.int .i64 u)).setCell ⟨B + 1, 2, none⟩ (.bool true))) ∧ Hid (Has (((wr'.setCell ⟨B + 1, 0, none⟩ (.int .i64 k)).setCell ⟨B + 1, 1, none⟩ (.int .i64 u)).setCell ⟨B + 1, 2, none⟩ (.bool true)) B (tV none) 197) ∧ Hid (Has (((wr'.setCell ⟨B + 1, 0, none⟩ (.int .i64 k)).setCell ⟨B + 1, 1, none⟩ (.int .i64 u)).setCell ⟨B + 1, 2, none⟩ (.bool true)) (B + 1) (tV tn) 197) := fun wr' m e => by
        have mm : Mod [B + 1] wr' (((wr'.setCell ⟨B + 1, 0, none⟩ (.int .i64 k)).setCell ⟨B + 1, 1, none⟩ (.int .i64 u)).setCell ⟨B + 1, 2, none⟩ (.bool true)) := (((Mod.refl _ _).setCell _ _ (by simp)).setCell _ _ (by simp)).setCell _ _ (by simp)
        have hBw := hB'.out
        refine ⟨((hm.out.trans m (by simp))).trans mm (fun b hb hl => by rw [List.mem_singleton.1 hb] at hl; omega), (hs1.out.keep m (by simp)).keep mm (by simp), ?_⟩
        have h3 := (((hs2.out.keep m (by simp)).set 0 (.int .i64 k)).set 1 (.int .i64 u)).set 2 (.bool true)
        rw [e]
        cases t with
        | none => exact h3
        | some p => exact h3
      have keep' := Lib.hid keep
      have take' := Lib.hid take
      clear keep take
      cases hb : I.getD k false with
      | false =>
        rw [hb] at hci
        have hnt := Lib.hid (s0.out hb)
        clear hb hs2 hck s0 s1 s2 s3 take'
        go_wp2_with fail
        go_quiet (fail)
        go_wp2_with fail
        go_roundw
        case rel => exact ⟨k + 1, by omega, by go_num, by rw [etn.out]; exact keep'.out _ ((Mod.refl _ _).drewN _) hnt.out⟩
        case measure => simp [intOf]; omega
      | true =>
        rw [hb] at hci
        cases t with
        | none =>
          have hnt := Lib.hid (s1.out hb rfl)
          have t0 := hs2.out.cell 0 rfl
          have t1 := hs2.out.cell 1 rfl
          have t2 := hs2.out.cell 2 rfl
          have tf := hs2.out.free
          have take2 := Lib.hid (fun wr' m => take'.out wr' m hnt.out)
          clear hb hs2 s0 s1 s2 s3 keep' take' hnt
          go_wp2_with fail
          go_quiet (fail)
          go_wp2_with fail
          go_roundw
          case rel => exact ⟨k + 1, by omega, by go_num, by rw [etn.out]; exact take2.out _ ((Mod.refl _ _).drewN _)⟩
          case measure => simp [intOf]; omega
        | some p =>
          obtain ⟨v, x⟩ := p
          have t0 := hs2.out.cell 0 rfl
          have t1 := hs2.out.cell 1 rfl
          have t2 := hs2.out.cell 2 rfl
          have tf := hs2.out.free
          by_cases hx : x < u
          · have hnt := Lib.hid (s2.out v x hb rfl hx)
            have take2 := Lib.hid (fun wr' m => take'.out wr' m hnt.out)
            have hx' : decide (x < u) = true := by simpa using hx
            clear hb hs2 s0 s1 s2 s3 keep' take' hnt hx
            go_wp2_with fail
            go_quiet (fail)
            go_wp2_with fail
            go_roundw
            case rel => exact ⟨k + 1, by omega, by go_num, by rw [etn.out]; exact take2.out _ ((Mod.refl _ _).drewN _)⟩
            case measure => simp [intOf]; omega
          · have hnt := Lib.hid (s3.out v x hb rfl hx)
            have hx' : decide (x < u) = false := by simpa using hx
            have keep2 := Lib.hid (fun wr' m => keep'.out wr' m hnt.out)
            clear hb hs2 s0 s1 s2 s3 keep' take' hnt hx
            go_wp2_with fail
            go_quiet (fail)
            go_wp2_with fail
            go_roundw
            case rel => exact ⟨k + 1, by omega, by go_num, by rw [etn.out]; exact keep2.out _ ((Mod.refl _ _).drewN _)⟩
            case measure => simp [intOf]; omega
    · have hkn : k = n := by omega
      subst hkn
      have e : firstTo I X k = firstR I X := by unfold firstR; rw [hn'.out]
      rw [e] at hs2
      have hBl := hs1.out.lt
      have pf := hs1.out.free
      have p0 := hs1.out.cell 0 rfl
      have p1 := hs1.out.cell 1 rfl
      have p2 := hs1.out.cell 2 rfl
      obtain ⟨q0, hq0⟩ : ∃ q, wr.cell? ⟨B + 1, 0, none⟩ = some (.int .i64 q) ∧ q = (topV I X).1 := by
        cases hf : firstR I X with
        | none => rw [hf] at hs2; exact ⟨_, hs2.out.cell 0 rfl, by unfold topV; rw [hf]⟩
        | some p => rw [hf] at hs2; exact ⟨_, hs2.out.cell 0 rfl, by unfold topV; rw [hf]⟩
      obtain ⟨q1, hq1⟩ : ∃ q, wr.cell? ⟨B + 1, 1, none⟩ = some (.int .i64 q) ∧ q = (topV I X).2.1 := by
        cases hf : firstR I X with
        | none => rw [hf] at hs2; exact ⟨_, hs2.out.cell 1 rfl, by unfold topV; rw [hf]⟩
        | some p => rw [hf] at hs2; exact ⟨_, hs2.out.cell 1 rfl, by unfold topV; rw [hf]⟩
      obtain ⟨q2, hq2⟩ : ∃ q, wr.cell? ⟨B + 1, 2, none⟩ = some (.bool q) ∧ q = (topV I X).2.2 := by
        cases hf : firstR I X with
        | none => rw [hf] at hs2; exact ⟨_, hs2.out.cell 2 rfl, by unfold topV; rw [hf]⟩
        | some p => rw [hf] at hs2; exact ⟨_, hs2.out.cell 2 rfl, by unfold topV; rw [hf]⟩
      obtain ⟨r0, e0⟩ := hq0
      obtain ⟨r1, e1⟩ := hq1
      obtain ⟨r2, e2⟩ := hq2
      have hfin : ∀ wr', Mod [B] wr wr' → Mod [] w wr' := fun wr' m => hm.out.trans m (fun b hb hl => by rw [List.mem_singleton.1 hb] at hl; have := hB'.out; omega)
      have hfin' := Lib.hid hfin
      have hval := Lib.hid (show topVal (topV I X) = .agg #[.int .i64 q0, .int .i64 q1, .bool q2] by unfold topVal; rw [e0, e1, e2])
      have hf3 := ((hs1.out.set 0 (.int .i64 q0)).set 1 (.int .i64 q1)).set 2 (.bool q2)
      have s0 := hf3.cell 0 rfl
      have s1 := hf3.cell 1 rfl
      have s2 := hf3.cell 2 rfl
      have hm3 := Lib.hid (hfin'.out _ ((((Mod.refl _ _).setCell ⟨B, 0, none⟩ (.int .i64 q0) (by simp)).setCell ⟨B, 1, none⟩ (.int .i64 q1) (by simp)).setCell ⟨B, 2, none⟩ (.bool q2) (by simp)))
      clear hs1 hs2 e hfin e0 e1 e2 ci ck zi zk n1 n2 n3 hf3
      go_wp2_with fail
      generalize ((wr.setCell ⟨B, 0, none⟩ (.int .i64 q0)).setCell ⟨B, 1, none⟩ (.int .i64 q1)).setCell ⟨B, 2, none⟩ (.bool q2) = wf at *
      refine bodyPost_ret (v := topVal (topV I X)) ?_ rfl ⟨rfl, hm3.out⟩
      rw [hval.out]
      simp [results, Try.results145, go_sem, s0, s1, s2]
end Ref12
end Go.Proofs.Ytmkbinbggiocaaa
