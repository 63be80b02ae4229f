/- The reference's edges: Add, Normal, Check, Checks. -/
import Derived.Test.YtjpfmkfikidgkaaGreatEdRow
import Derived.Laws.EntriesVeiled
set_option linter.unusedVariables false
set_option linter.unusedSimpArgs false
namespace Go.Proofs.YtjpfmkfikidgkaaGreat
open Go.RowKit
namespace Edge
set_option maxRecDepth 100000 in
set_option maxHeartbeats 1000000 in
theorem radd_any {a b : Int} (ha : 0 ≤ a) (hb : 0 ≤ b) (hab : a + b ≤ 4611686018427387904) (w : World) : Calls Tryz.prog 235 #[.int .i64 a, .int .i64 b] w fun en w' => en = .returned (.agg #[.int .i64 (a + b), .bool true]) ∧ Mod [] w w' := by
  have t1 : ¬ (a + b < a) := by omega
  have t2 : ¬ (b < 0) := by omega
  go_enter Tryz.func235, Tryz.ntmps235
  go_wp2_with fail
  exact bodyPost_ret (v := .agg #[.int .i64 (a + b), .bool true]) (by simp [results, Tryz.results235, go_sem]) rfl ⟨rfl, (Mod.refl [] w).alloc _⟩
set_option maxRecDepth 100000 in
set_option maxHeartbeats 1000000 in
theorem rnormal_any (e : Ed) (w : World) : Calls Tryz.prog 180 #[edV e] w fun en w' => en = .returned (edV (norm e)) ∧ Mod [] w w' := by
  obtain ⟨u, v, c⟩ := e
  unfold edV norm
  simp only
  by_cases h : v < u
  · rw [if_pos h]
    go_enter Tryz.func180, Tryz.ntmps180
    go_wp2_with fail
    exact bodyPost_ret (v := .agg #[.int .i64 v, .int .i64 u, .int .i64 c]) (by simp [results, Tryz.results180, go_sem]) rfl ⟨rfl, ((Mod.refl [] w).alloc _).alloc _⟩
  · rw [if_neg h]
    go_enter Tryz.func180, Tryz.ntmps180
    go_wp2_with fail
    exact bodyPost_ret (v := .agg #[.int .i64 u, .int .i64 v, .int .i64 c]) (by simp [results, Tryz.results180, go_sem]) rfl ⟨rfl, ((Mod.refl [] w).alloc _).alloc _⟩
set_option maxRecDepth 100000 in
set_option maxHeartbeats 2000000 in
theorem rcheck_any (n : Int) (e : Ed) (w : World) : Calls Tryz.prog 178 #[.int .i64 n, edV e] w fun en w' => en = .returned (.int .i64 (checkE n e)) ∧ Mod [] w w' := by
  obtain ⟨u, v, c⟩ := e
  have hm := Lib.hid ((Mod.refl [] w).alloc (.cells #[.int .i64 u, .int .i64 v, .int .i64 c] 146))
  unfold edV checkE
  simp only
  by_cases hu : u < 0
  · rw [if_pos (.inl hu)]
    go_enter Tryz.func178, Tryz.ntmps178
    go_wp2_with fail
    go_ret
    exact ⟨rfl, hm.out⟩
  by_cases hu2 : n ≤ u
  · rw [if_pos (.inr (.inl hu2))]
    go_enter Tryz.func178, Tryz.ntmps178
    go_wp2_with fail
    go_ret
    exact ⟨rfl, hm.out⟩
  by_cases hv : v < 0
  · rw [if_pos (.inr (.inr (.inl hv)))]
    go_enter Tryz.func178, Tryz.ntmps178
    go_wp2_with fail
    go_ret
    exact ⟨rfl, hm.out⟩
  by_cases hv2 : n ≤ v
  · rw [if_pos (.inr (.inr (.inr hv2)))]
    go_enter Tryz.func178, Tryz.ntmps178
    go_wp2_with fail
    go_ret
    exact ⟨rfl, hm.out⟩
  rw [if_neg (by omega)]
  by_cases hc : c < 0
  · rw [if_pos (.inl hc)]
    go_enter Tryz.func178, Tryz.ntmps178
    go_wp2_with fail
    go_ret
    exact ⟨rfl, hm.out⟩
  by_cases hc2 : 2147483648 < c
  · rw [if_pos (.inr hc2)]
    go_enter Tryz.func178, Tryz.ntmps178
    go_wp2_with fail
    go_ret
    exact ⟨rfl, hm.out⟩
  rw [if_neg (by omega)]
  go_enter Tryz.func178, Tryz.ntmps178
  go_wp2_with fail
  go_ret
  exact ⟨rfl, hm.out⟩
theorem told_set {w0 wr : World} {x y : Int} {t : TypeId} (hm : Mod [] (w0.alloc (.cells #[.int .i64 0, .int .i64 0] t)) wr) :
    Has ((wr.setCell ⟨w0.heap.size, 0, none⟩ (.int .i64 x)).setCell ⟨w0.heap.size, 1, none⟩ (.int .i64 y)) w0.heap.size [.int .i64 x, .int .i64 y] t ∧ Mod [] w0 ((wr.setCell ⟨w0.heap.size, 0, none⟩ (.int .i64 x)).setCell ⟨w0.heap.size, 1, none⟩ (.int .i64 y)) := by
  have h := (Has.new w0 [.int .i64 0, .int .i64 0] t).keep hm (by simp)
  refine ⟨(h.set 0 _).set 1 _, ?_⟩
  have m1 := ((Mod.refl [] w0).alloc (.cells #[.int .i64 0, .int .i64 0] t)).trans hm (by simp)
  exact (m1.setCell _ _ (fun h => absurd h (by simp))).setCell _ _ (fun h => absurd h (by simp))
set_option maxRecDepth 100000 in
set_option maxHeartbeats 2000000 in
theorem rchecks_any (n : Int) {l : List Ed} {v : Value} {w : World} (h : Rd w 3 v l.length (flat encEd l)) :
    Calls Tryz.prog 107 #[.int .i64 n, v] w fun en w' => en = .returned (.agg #[.int .i64 (checksE n 0 l).1, .int .i64 (checksE n 0 l).2]) ∧ Mod [] w w' := by
  obtain ⟨a, c, rfl⟩ := h.val
  have hle := h.le
  have h' := Lib.hid (h.still ((Mod.refl [] w).alloc (.cells #[.int .i64 0, .int .i64 0] 176)))
  obtain ⟨r1, r2, hr⟩ : ∃ r1 r2, checksE n 0 l = (r1, r2) := ⟨_, _, rfl⟩
  rw [hr]
  have hr' := Lib.hid hr
  obtain ⟨m, hm⟩ : ∃ m, l.length = m := ⟨_, rfl⟩
  rw [hm]
  have hm' := Lib.hid hm
  rw [hm] at hle
  clear h hr hm
  go_enter Tryz.func107, Tryz.ntmps107
  go_wp2_with fail
  go_loopw [5] (fun i wr => ∃ k : Nat, k ≤ m ∧ i = .int .i64 k ∧ Hid (checksE n k (l.drop k) = (r1, r2)) ∧ Hid (Mod [] (w.alloc (.cells #[.int .i64 0, .int .i64 0] 176)) wr)) (fun i _ => m - (intOf i).toNat)
  case atStart => exact ⟨0, Nat.zero_le _, rfl, hr', Lib.hid (Mod.refl _ _)⟩
  case round =>
    clear hr'
    obtain ⟨k, hk, rfl, hc, hmod⟩ := hrel
    have hT := (Has.new w [.int .i64 0, .int .i64 0] 176).keep hmod.out (by simp)
    by_cases hlt : k < m
    · have hlt1 : (k : Int) < m := by omega
      have hkl : k < l.length := by rw [hm'.out]; exact hlt
      obtain ⟨g, o, rfl, hg, hcell⟩ := ed_cells h'.out hkl
      obtain ⟨q0, q1, q2⟩ := hcell _ hmod.out
      have hgl : g < wr.heap.size := Nat.lt_of_lt_of_le hg hmod.out.size
      have hd : l.drop k = l[k] :: l.drop (k + 1) := List.drop_eq_getElem_cons hkl
      rw [hd] at hc
      have hck := Lib.hid (fun W => rcheck_any n l[k] W)
      generalize l[k] = e at *
      obtain ⟨eu, ev, ec⟩ := e
      simp only at q0 q1 q2
      unfold edV at hck
      simp only at hck
      have hc2 : Hid ((checkE n (eu, ev, ec) = 0 ∧ checksE n (k + 1) (l.drop (k + 1)) = (r1, r2)) ∨ (checkE n (eu, ev, ec) ≠ 0 ∧ r1 = checkE n (eu, ev, ec) ∧ r2 = k)) := by
        have := hc.out
        unfold checksE at this
        by_cases h0 : checkE n (eu, ev, ec) = 0
        · rw [if_pos h0] at this; exact Lib.hid (.inl ⟨h0, this⟩)
        · rw [if_neg h0] at this
          simp only [Prod.mk.injEq] at this
          exact Lib.hid (.inr ⟨h0, this.1.symm, this.2.symm⟩)
      generalize checkE n (eu, ev, ec) = ce at *
      clear hc hd hcell hkl hT
      rcases hc2.out with ⟨rfl, hc3⟩ | ⟨hne, rfl, rfl⟩
      · have hc3' := Lib.hid hc3
        clear hc2 hc3
        go_wp2_with fail
        refine (hck.out _).mono ?_
        rintro e w1 ⟨rfl, hm1⟩
        try dsimp only
        have hm2 := Lib.hid (hmod.out.trans hm1 (by simp))
        clear hm1
        go_wp2_with fail
        go_roundw
        case rel => exact ⟨k + 1, by omega, by go_num, hc3', hm2⟩
        case measure => simp [intOf]; omega
      · have hne1 : (r1 == 0) = false := by simpa using hne
        clear hc2 hne
        go_wp2_with fail
        refine (hck.out _).mono ?_
        rintro e w1 ⟨rfl, hm1⟩
        try dsimp only
        have hm2 := Lib.hid (hmod.out.trans hm1 (by simp))
        have hT := (Has.new w [.int .i64 0, .int .i64 0] 176).keep hm2.out (by simp)
        have t0 := hT.cell 0 rfl
        have t1 := hT.cell 1 rfl
        have tf := hT.free
        have tl := hT.lt
        obtain ⟨hF, hM⟩ := told_set (x := r1) (y := (k : Int)) hm2.out
        have s0 := hF.cell 0 rfl
        have s1 := hF.cell 1 rfl
        have hM' := Lib.hid hM
        clear hm1 hM hF hT
        go_wp2_with fail
        generalize (w1.setCell ⟨w.heap.size, 0, none⟩ (.int .i64 r1)).setCell ⟨w.heap.size, 1, none⟩ (.int .i64 (k : Int)) = wf at *
        refine bodyPost_ret (v := .agg #[.int .i64 r1, .int .i64 k]) ?_ rfl ⟨rfl, hM'.out⟩
        simp [results, Tryz.results107, go_sem, s0, s1]
    · have hkm : k = m := by omega
      subst hkm
      have hd : l.drop k = [] := by rw [← hm'.out]; exact List.drop_length
      rw [hd] at hc
      have hc2 := hc.out
      unfold checksE at hc2
      simp only [Prod.mk.injEq] at hc2
      obtain ⟨rfl, rfl⟩ := hc2
      have t0 := hT.cell 0 rfl
      have t1 := hT.cell 1 rfl
      have tf := hT.free
      have tl := hT.lt
      obtain ⟨hF, hM⟩ := told_set (x := 0) (y := 0) hmod.out
      have s0 := hF.cell 0 rfl
      have s1 := hF.cell 1 rfl
      have hM' := Lib.hid hM
      clear hd hc hF hM hT
      go_wp2_with fail
      generalize (wr.setCell ⟨w.heap.size, 0, none⟩ (.int .i64 0)).setCell ⟨w.heap.size, 1, none⟩ (.int .i64 0) = wf at *
      refine bodyPost_ret (v := .agg #[.int .i64 0, .int .i64 0]) ?_ rfl ⟨rfl, hM'.out⟩
      simp [results, Tryz.results107, go_sem, s0, s1]
end Edge
end Go.Proofs.YtjpfmkfikidgkaaGreat
