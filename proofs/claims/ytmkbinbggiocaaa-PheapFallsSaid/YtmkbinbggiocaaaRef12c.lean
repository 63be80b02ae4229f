/- The reference's heap: New, Pop. -/
import Derived.Test.YtmkbinbggiocaaaRef12b
set_option linter.unusedVariables false
set_option linter.unusedSimpArgs false
namespace Go.Proofs.Ytmkbinbggiocaaa
open Go.RowKit Arena
namespace Ref12
open Go.Proofs.Ytmkbinbggiocaaa.Code
open Go.Proofs.Ytmkbinbggiocaaa.Hp
theorem pop_cases (I : List Bool) (X : List Int) : ((topV I X).2.2 = false ∧ popI I X = I ∧ popX I X = X) ∨ ((topV I X).2.2 = true ∧ popI I X = dropI I (topV I X).1 ∧ popX I X = dropX I X (topV I X).1 ∧ inR I (topV I X).1 = true) := by
  unfold topV popI popX
  cases hf : firstR I X with
  | none => exact .inl ⟨rfl, rfl, rfl⟩
  | some p =>
    obtain ⟨v, x⟩ := p
    obtain ⟨a1, a2, _⟩ := first_some hf
    have hin : inR I v = true := by unfold inR; rw [Int.toNat_natCast, a2, decide_eq_true (by omega)]; rfl
    refine .inr ⟨rfl, ?_, ?_, hin⟩
    · unfold dropI; rw [if_pos hin]; simp
    · unfold dropX; rw [if_pos hin]; simp
set_option maxRecDepth 100000 in
set_option maxHeartbeats 2000000 in
theorem pop_x {w : World} {bx : Nat} {I : List Bool} {X : List Int} {F : List Nat} (h : XAt w bx I X F) :
    Calls Try.prog 144 #[.pointer (some ⟨bx, 0, none⟩)] w fun e w' => e = .returned (topVal (topV I X)) ∧ XAt w' bx (popI I X) (popX I X) F ∧ Mod F w w' := by
  obtain ⟨wa, hwa⟩ : ∃ wa, wa = w.alloc (.cells #[.int .i64 0, .int .i64 0, .bool false] 197) := ⟨_, rfl⟩
  have m0 : Mod [] w wa := by rw [hwa]; exact (Mod.refl [] w).alloc _
  have k0 := Has.new w [.int .i64 0, .int .i64 0, .bool false] 197
  rw [show w.alloc (.cells #[.int .i64 0, .int .i64 0, .bool false] 197) = wa from hwa.symm] at k0
  have hx := h.still m0
  have hf := Lib.hid (first_x hx)
  have hne : ∀ b ∈ F, b < w.heap.size := h.lt
  have hc := pop_cases I X
  unfold topVal at hf ⊢
  generalize topV I X = t at *
  generalize popI I X = I2 at *
  generalize popX I X = X2 at *
  obtain ⟨tv, tk, tb⟩ := t
  simp only at hf hc ⊢
  have hne' := Lib.hid hne
  have hwa' := Lib.hid hwa
  have hx' := Lib.hid hx
  have m0' := Lib.hid m0
  have k0' := Lib.hid k0
  have hc' := Lib.hid hc
  clear hc hne hwa hx m0 k0 h
  obtain ⟨B, hB⟩ : ∃ B, w.heap.size = B := ⟨_, rfl⟩
  have hB' := Lib.hid hB
  rw [hB] at k0'
  clear hB
  go_enter Try.func144, Try.ntmps144
  go_wp2_with fail
  rw [← hwa'.out, hB'.out]
  refine hf.out.mono ?_
  rintro e w1 ⟨rfl, hm⟩
  try dsimp only
  have hx1 := Lib.hid (hx'.out.still hm)
  have k1 := Lib.hid (k0'.out.keep hm (by simp))
  have m1 := Lib.hid (m0'.out.trans hm (by simp))
  have hlB : B < w1.heap.size := k1.out.lt
  clear hx' k0' m0' hf hm hwa'
  have hx2 := Lib.hid (hx1.out.still ((Mod.refl [] w1).alloc (.cells #[.int .i64 tv, .int .i64 tk, .bool tb] 197)))
  have k2 := Lib.hid (k1.out.alloc (.cells #[.int .i64 tv, .int .i64 tk, .bool tb] 197))
  have m2 := Lib.hid (m1.out.alloc (.cells #[.int .i64 tv, .int .i64 tk, .bool tb] 197))
  have k3 := Lib.hid (Has.new w1 [.int .i64 tv, .int .i64 tk, .bool tb] 197)
  have hneB : ∀ b ∈ F, b ≠ B ∧ b ≠ w1.heap.size := fun b hb => by have := hne'.out b hb; have := hB'.out; omega
  have hneB' := Lib.hid hneB
  have fin : ∀ w3, XAt w3 bx I2 X2 F → Mod F w w3 → Has w3 B [.int .i64 0, .int .i64 0, .bool false] 197 → (XAt (((w3.setCell ⟨B, 0, none⟩ (.int .i64 tv)).setCell ⟨B, 1, none⟩ (.int .i64 tk)).setCell ⟨B, 2, none⟩ (.bool tb)) bx I2 X2 F ∧ Mod F w (((w3.setCell ⟨B, 0, none⟩ (.int .i64 tv)).setCell ⟨B, 1, none⟩ (.int .i64 tk)).setCell ⟨B, 2, none⟩ (.bool tb))) := fun w3 h1 h2 h3 => by
    have mm : Mod [B] w3 (((w3.setCell ⟨B, 0, none⟩ (.int .i64 tv)).setCell ⟨B, 1, none⟩ (.int .i64 tk)).setCell ⟨B, 2, none⟩ (.bool tb)) := (((Mod.refl _ _).setCell _ _ (by simp)).setCell _ _ (by simp)).setCell _ _ (by simp)
    have := hB'.out
    exact ⟨h1.keep mm (fun b hb => by simp only [List.mem_singleton]; exact (hneB b hb).1), h2.trans mm (fun b hb hl => by rw [List.mem_singleton.1 hb] at hl; omega)⟩
  have fin' := Lib.hid fin
  have q0 := k3.out.cell 0 rfl
  have q1 := k3.out.cell 1 rfl
  have q2 := k3.out.cell 2 rfl
  have z3 := k1.out.free
  have u0 := k1.out.cell 0 rfl
  have u1 := k1.out.cell 1 rfl
  have u2 := k1.out.cell 2 rfl
  have lB : B < (w1.alloc (.cells #[.int .i64 tv, .int .i64 tk, .bool tb] 197)).heap.size := k2.out.lt
  cases tb with
  | false =>
    rcases hc'.out with ⟨_, e1, e2⟩ | ⟨e, _⟩
    case inr => cases e
    subst e1 e2
    have mm : Mod [B] w1 (((w1.setCell ⟨B, 0, none⟩ (.int .i64 tv)).setCell ⟨B, 1, none⟩ (.int .i64 tk)).setCell ⟨B, 2, none⟩ (.bool false)) := (((Mod.refl _ _).setCell _ _ (by simp)).setCell _ _ (by simp)).setCell _ _ (by simp)
    have mm2 := (Mod.refl [] (((w1.setCell ⟨B, 0, none⟩ (.int .i64 tv)).setCell ⟨B, 1, none⟩ (.int .i64 tk)).setCell ⟨B, 2, none⟩ (.bool false))).alloc (.cells #[.int .i64 tv, .int .i64 tk, .bool false] 197)
    have hfin := Lib.hid (And.intro ((hx1.out.keep mm (fun b hb => by simp only [List.mem_singleton]; exact (hneB b hb).1)).still mm2) ((m1.out.of0 (F := F)).trans (mm.trans mm2 (by simp)) (fun b hb hl => by rw [List.mem_singleton.1 hb] at hl; have := hB'.out; omega)))
    have hf3 := (((k1.out.set 0 (.int .i64 tv)).set 1 (.int .i64 tk)).set 2 (.bool false)).alloc (.cells #[.int .i64 tv, .int .i64 tk, .bool false] 197)
    have s0 := hf3.cell 0 rfl
    have s1 := hf3.cell 1 rfl
    have s2 := hf3.cell 2 rfl
    clear hf3 mm mm2
    clear hneB fin hneB'
    go_wp2_with fail
    generalize ((((w1.setCell ⟨B, 0, none⟩ (.int .i64 tv)).setCell ⟨B, 1, none⟩ (.int .i64 tk)).setCell ⟨B, 2, none⟩ (.bool false)).alloc (.cells #[.int .i64 tv, .int .i64 tk, .bool false] 197)) = wf at *
    refine bodyPost_ret (v := .agg #[.int .i64 tv, .int .i64 tk, .bool false]) ?_ rfl ⟨rfl, hfin.out⟩
    simp [results, Try.results144, go_sem, s0, s1, s2]
  | true =>
    rcases hc'.out with ⟨e, _⟩ | ⟨_, e1, e2, hin⟩
    case inl => cases e
    have hd := Lib.hid (drop_x hx2.out tv)
    rw [hin, ← e1, ← e2] at hd
    clear hneB fin e1 e2 hin hc'
    go_wp2_with fail
    refine hd.out.mono ?_
    rintro e w3 ⟨rfl, hx3, hm3⟩
    try dsimp only
    have hne3 : w1.heap.size ∉ F := fun hm => (hneB'.out _ hm).2 rfl
    have hneb : B ∉ F := fun hm => (hneB'.out _ hm).1 rfl
    have k4 := k3.out.keep hm3 hne3
    have k5 := k2.out.keep hm3 hneb
    have q0 := k4.cell 0 rfl
    have q1 := k4.cell 1 rfl
    have q2 := k4.cell 2 rfl
    have z3 := k5.free
    have u0 := k5.cell 0 rfl
    have u1 := k5.cell 1 rfl
    have u2 := k5.cell 2 rfl
    have lB := k5.lt
    have hfin := Lib.hid (fin'.out _ hx3 (m2.out.of0.trans hm3 (fun b hb _ => hb)) k5)
    have hf3 := ((k5.set 0 (.int .i64 tv)).set 1 (.int .i64 tk)).set 2 (.bool true)
    have s0 := hf3.cell 0 rfl
    have s1 := hf3.cell 1 rfl
    have s2 := hf3.cell 2 rfl
    clear hf3
    clear hx3 hm3 hne3 hneb k4 k5 hd fin'
    go_wp2_with fail
    generalize ((w3.setCell ⟨B, 0, none⟩ (.int .i64 tv)).setCell ⟨B, 1, none⟩ (.int .i64 tk)).setCell ⟨B, 2, none⟩ (.bool true) = wf at *
    refine bodyPost_ret (v := .agg #[.int .i64 tv, .int .i64 tk, .bool true]) ?_ rfl ⟨rfl, hfin.out⟩
    simp [results, Try.results144, go_sem, s0, s1, s2]
theorem infoL : (Try.prog.info? 2).map (fun i => (i.zero, i.size, i.bytes)) = some (some (.int .i64 0), 1, 8) := by kernel_rfl
theorem infoB : (Try.prog.info? 4).map (fun i => (i.zero, i.size, i.bytes)) = some (some (.bool false), 1, 1) := by kernel_rfl
theorem ret_i64 {a b : Int} (h : a = b) : Ending.returned (.int .i64 a) = .returned (.int .i64 b) := by rw [h]
theorem room09 (n : Int) (w : World) : Calls Try.prog 140 #[.int .i64 n] w fun e w' => e = .returned (.int .i64 ((min (max n 0) 4096).toNat : Nat)) ∧ w' = w := by
  go_enter Try.func140, Try.ntmps140
  go_wp2_with fail
  all_goals
    go_ret
    exact ⟨ret_i64 (by omega), rfl⟩
/-- What New makes. -/
structure NewX (w w' : World) (bx r : Nat) : Prop where
  ex : ∃ F, XAt w' bx (List.replicate r false) (List.replicate r 0) F ∧ Mod [] w w' ∧ ∀ b ∈ F, w.heap.size ≤ b
theorem x_of {w w' : World} {gi gk bx r : Nat} (hI : Has w' gi (madeCells #[.bool false] r).toList 4) (hK : Has w' gk (madeCells #[.int .i64 0] r).toList 2) (hB : Has w' bx [.slice (some ⟨gi, 0, none⟩) r r, .slice (some ⟨gk, 0, none⟩) r r] 115)
    (n1 : bx ≠ gi) (n2 : bx ≠ gk) (n3 : gi ≠ gk) (hr : r ≤ 4096) (m : Mod [] w w') (l1 : w.heap.size ≤ gi) (l2 : w.heap.size ≤ gk) (l3 : w.heap.size ≤ bx) : NewX w w' bx r := by
  refine ⟨[bx, gi, gk], ⟨gi, gk, by simpa using hB, ?_, ?_, n1, n2, n3, rfl, by simp, by simpa using hr⟩, m, by simp; omega⟩
  · rw [made_eq] at hI
    simpa [vbools] using hI
  · rw [made_eq] at hK
    simpa [vi64] using hK
theorem NewX.drew {w w' : World} {bx r : Nat} (h : NewX w w' bx r) : NewX w w'.drew bx r := by
  obtain ⟨F, h1, h2, h3⟩ := h.ex
  exact ⟨F, h1.still (Mod.refl [] w').drew, h2.drew, h3⟩
set_option maxRecDepth 100000 in
set_option maxHeartbeats 2000000 in
theorem new_x (n : Int) (w : World) : Calls Try.prog 76 #[.int .i64 n] w fun e w' => ∃ bx, e = .returned (.pointer (some ⟨bx, 0, none⟩)) ∧ NewX w w' bx (min (max n 0) 4096).toNat := by
  have hro := fun w => room09 n w
  generalize hr : (min (max n 0) 4096).toNat = r at *
  have hr2 : r ≤ 4096 := by omega
  have hmk := make_run (P := Try.prog) 46 2 (.int .i64 0) 8 Try.underlying46 Ref12.infoL rfl (by omega) r (by omega)
  have hmb := make_run (P := Try.prog) 39 4 (.bool false) 1 Try.underlying39 Ref12.infoB rfl (by omega) r (by omega)
  have hro' := Lib.hid hro
  have f1 : NewX w (((w.alloc (.cells (madeCells #[.bool false] r) 4)).alloc (.cells (madeCells #[.int .i64 0] r) 2)).alloc (.cells #[.slice (some ⟨w.heap.size, 0, none⟩) r r, .slice (some ⟨w.heap.size + 1, 0, none⟩) r r] 115)) (w.heap.size + 1 + 1) r := by
    have k1 := Has.new w (madeCells #[.bool false] r).toList 4
    have k2 := Has.new (w.alloc (.cells (madeCells #[.bool false] r) 4)) (madeCells #[.int .i64 0] r).toList 2
    have k3 := Has.new ((w.alloc (.cells (madeCells #[.bool false] r) 4)).alloc (.cells (madeCells #[.int .i64 0] r) 2)) [.slice (some ⟨w.heap.size, 0, none⟩) r r, .slice (some ⟨w.heap.size + 1, 0, none⟩) r r] 115
    simp only [Array.toArray_toList, World.size_alloc] at k1 k2 k3
    exact x_of ((k1.alloc _).alloc _) (k2.alloc _) k3 (by omega) (by omega) (by omega) hr2 ((((Mod.refl _ _).alloc _).alloc _).alloc _) (by omega) (by omega) (by omega)
  have f2 : NewX w (((w.alloc (.cells (madeCells #[.int .i64 0] r) 2)).alloc (.cells (madeCells #[.bool false] r) 4)).alloc (.cells #[.slice (some ⟨w.heap.size + 1, 0, none⟩) r r, .slice (some ⟨w.heap.size, 0, none⟩) r r] 115)) (w.heap.size + 1 + 1) r := by
    have k1 := Has.new w (madeCells #[.int .i64 0] r).toList 2
    have k2 := Has.new (w.alloc (.cells (madeCells #[.int .i64 0] r) 2)) (madeCells #[.bool false] r).toList 4
    have k3 := Has.new ((w.alloc (.cells (madeCells #[.int .i64 0] r) 2)).alloc (.cells (madeCells #[.bool false] r) 4)) [.slice (some ⟨w.heap.size + 1, 0, none⟩) r r, .slice (some ⟨w.heap.size, 0, none⟩) r r] 115
    simp only [Array.toArray_toList, World.size_alloc] at k1 k2 k3
    exact x_of (k2.alloc _) ((k1.alloc _).alloc _) k3 (by omega) (by omega) (by omega) hr2 ((((Mod.refl _ _).alloc _).alloc _).alloc _) (by omega) (by omega) (by omega)
  have f1' := Lib.hid f1.drew
  have f2' := Lib.hid f2.drew
  clear hr hro f1 f2
  go_enter Try.func76, Try.ntmps76
  go_upto_region 1 with fail
  go_region_law (first
    | (rw [if_pos (by rfl)]; go_simp; go_at_call 140; refine (hro'.out _).mono ?_; rintro e wA ⟨rfl, rfl⟩; dsimp only))
  all_goals
    go_wp2_with fail
    go_ret
    first
    | exact ⟨_, rfl, f1'.out⟩
    | exact ⟨_, rfl, f2'.out⟩
end Ref12
end Go.Proofs.Ytmkbinbggiocaaa
