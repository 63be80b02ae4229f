/- The reference's graph: New. -/
import Derived.Test.YtjpfmkfikidgkaaGreatRefE3
set_option linter.unusedVariables false
set_option linter.unusedSimpArgs false
namespace Go.Proofs.YtjpfmkfikidgkaaGreat
open Go.RowKit
namespace Edge
/-- What the reference's New answers. -/
structure RNewOut (n : Int) (l : List Ed) (w : World) (e : Ending) (w' : World) : Prop where
  mk ::
  out : (newE n l ≠ (0, 0) ∧ e = .returned (.agg #[.int .i64 0, .slice none 0 0, .int .i64 (newE n l).1, .int .i64 (newE n l).2]) ∧ Mod [] w w') ∨
    (newE n l = (0, 0) ∧ ∃ a c, e = .returned (.agg #[.int .i64 n, .slice a (merged l).length c, .int .i64 0, .int .i64 0]) ∧ Made w w' 146 3 a (merged l).length c (flat encEd (merged l)))
theorem four_set {w0 wr : World} {x0 x1 x2 x3 y0 y1 y2 y3 : Value} {t : TypeId} (hm : Mod [] (w0.alloc (.cells #[x0, x1, x2, x3] t)) wr) :
    Has ((((wr.setCell ⟨w0.heap.size, 0, none⟩ y0).setCell ⟨w0.heap.size, 1, none⟩ y1).setCell ⟨w0.heap.size, 2, none⟩ y2).setCell ⟨w0.heap.size, 3, none⟩ y3) w0.heap.size [y0, y1, y2, y3] t ∧ Mod [w0.heap.size] wr ((((wr.setCell ⟨w0.heap.size, 0, none⟩ y0).setCell ⟨w0.heap.size, 1, none⟩ y1).setCell ⟨w0.heap.size, 2, none⟩ y2).setCell ⟨w0.heap.size, 3, none⟩ y3) := by
  have h := (Has.new w0 [x0, x1, x2, x3] t).keep hm (by simp)
  exact ⟨(((h.set 0 _).set 1 _).set 2 _).set 3 _, ((((Mod.refl _ _).setCell _ _ (by simp)).setCell _ _ (by simp)).setCell _ _ (by simp)).setCell _ _ (by simp)⟩
theorem newE_small {n : Int} {l : List Ed} (h1 : ¬ n < 0) (h2 : ¬ (4096 < n ∨ 1048576 < l.length)) : newE n l = checksE n 0 l := by unfold newE; rw [if_neg h1, if_neg h2]
set_option maxRecDepth 100000 in
set_option maxHeartbeats 4000000 in
theorem rnew_any (n : Int) {l : List Ed} {v : Value} {w : World} (h : Rd w 3 v l.length (flat encEd l)) :
    Calls Tryz.prog 18 #[.int .i64 n, v] w (RNewOut n l w) := by
  obtain ⟨a0, c0, rfl⟩ := h.val
  have hle := h.le
  by_cases h1 : n < 0
  · have he := Lib.hid (show newE n l = (1, 0) by unfold newE; rw [if_pos h1])
    clear h
    go_enter Tryz.func18, Tryz.ntmps18
    go_wp2_with fail
    exact bodyPost_ret (v := .agg #[.int .i64 0, .slice none 0 0, .int .i64 1, .int .i64 0]) (by simp [results, Tryz.results18, go_sem]) rfl ⟨.inl ⟨by rw [he.out]; simp, by rw [he.out], (Mod.refl _ _).alloc _⟩⟩
  by_cases h2 : 4096 < n
  · have he := Lib.hid (show newE n l = (3, 0) by unfold newE; rw [if_neg h1, if_pos (.inl h2)])
    clear h
    go_enter Tryz.func18, Tryz.ntmps18
    go_wp2_with fail
    exact bodyPost_ret (v := .agg #[.int .i64 0, .slice none 0 0, .int .i64 3, .int .i64 0]) (by simp [results, Tryz.results18, go_sem]) rfl ⟨.inl ⟨by rw [he.out]; simp, by rw [he.out], (Mod.refl _ _).alloc _⟩⟩
  by_cases h3 : 1048576 < l.length
  · have he := Lib.hid (show newE n l = (3, 0) by unfold newE; rw [if_neg h1, if_pos (.inr h3)])
    have h3' : (1048576 : Int) < l.length := by omega
    clear h
    go_enter Tryz.func18, Tryz.ntmps18
    go_wp2_with fail
    exact bodyPost_ret (v := .agg #[.int .i64 0, .slice none 0 0, .int .i64 3, .int .i64 0]) (by simp [results, Tryz.results18, go_sem]) rfl ⟨.inl ⟨by rw [he.out]; simp, by rw [he.out], (Mod.refl _ _).alloc _⟩⟩
  have h3' : ¬ (1048576 : Int) < l.length := by omega
  have hen := newE_small h1 (l := l) (by omega)
  have hck := Lib.hid (rchecks_any n (h.still ((Mod.refl [] w).alloc (.cells #[.int .i64 0, .slice none 0 0, .int .i64 0, .int .i64 0] 38))))
  by_cases h4 : (checksE n 0 l).1 = 0
  · have hat := checksE_at h4
    have hen' := Lib.hid (hen.trans hat)
    have hwts : ∀ e ∈ l, 0 ≤ e.2.2 ∧ e.2.2 ≤ 2147483648 := fun e he => by have := checkE_ok.1 ((checksE_ok.1 h4) e he); omega
    have hmg := Lib.hid (fun W (m : Mod [] (w.alloc (.cells #[.int .i64 0, .slice none 0 0, .int .i64 0, .int .i64 0] 38)) W) => rmerge_any ((h.still ((Mod.refl [] w).alloc _)).still m) (by omega) hwts)
    rw [hat] at hck
    clear h4 hat hen h hwts
    go_enter Tryz.func18, Tryz.ntmps18
    go_wp2_with fail
    refine hck.out.mono ?_
    rintro e w1 ⟨rfl, hm1⟩
    try dsimp only
    have hm2 := Lib.hid (hm1.alloc (.cells #[.int .i64 0, .int .i64 0] 176))
    clear hm1
    go_wp2_with fail
    refine (hmg.out _ hm2.out).mono ?_
    rintro e w3 hM
    obtain ⟨a3, c3, rfl, hm3⟩ := hM.out
    obtain ⟨M, hMl⟩ : ∃ M, (merged l).length = M := ⟨_, rfl⟩
    rw [hMl] at hm3
    rw [hMl]
    have hMl' := Lib.hid hMl
    try dsimp only
    have hmm := hm2.out.trans hm3.mod (by simp)
    have hT := (Has.new w [.int .i64 0, .slice none 0 0, .int .i64 0, .int .i64 0] 38).keep hmm (by simp)
    have z0 := hT.cell 0 rfl
    have z1 := hT.cell 1 rfl
    have z2 := hT.cell 2 rfl
    have z3 := hT.cell 3 rfl
    have zf := hT.free
    have zl := hT.lt
    obtain ⟨hF, hMd⟩ := four_set (y0 := .int .i64 n) (y1 := .slice a3 M c3) (y2 := .int .i64 0) (y3 := .int .i64 0) hmm
    have s0 := hF.cell 0 rfl
    have s1 := hF.cell 1 rfl
    have s2 := hF.cell 2 rfl
    have s3 := hF.cell 3 rfl
    have hown := own_keep hm3.own hMd (by
      intro g hg hmem
      rw [List.mem_singleton] at hmem
      have h1 := hm3.new g hg
      have h2 := hm2.out.size
      have h3 : w.heap.size < (w.alloc (.cells #[.int .i64 0, .slice none 0 0, .int .i64 0, .int .i64 0] 38)).heap.size := by rw [World.size_alloc]; omega
      omega)
    have hmod : Mod [] w ((((w3.setCell ⟨w.heap.size, 0, none⟩ (.int .i64 n)).setCell ⟨w.heap.size, 1, none⟩ (.slice a3 M c3)).setCell ⟨w.heap.size, 2, none⟩ (.int .i64 0)).setCell ⟨w.heap.size, 3, none⟩ (.int .i64 0)) := by
      refine (((Mod.refl [] w).alloc _).trans hmm (by simp)).trans hMd (fun b hb hlt => ?_)
      rw [List.mem_singleton] at hb
      omega
    have hnew : ∀ b, (Value.slice a3 M c3).ownBlock = some b → w.heap.size ≤ b := fun b hb => by
      have h1 := hm3.new b hb
      have h2 := hm2.out.size
      rw [World.size_alloc] at h2
      omega
    have hfin := Lib.hid (RNewOut.mk (n := n) (l := l) (w := w) (e := .returned (.agg #[.int .i64 n, .slice a3 M c3, .int .i64 0, .int .i64 0])) (.inr ⟨hen'.out, a3, c3, by rw [hMl], by rw [hMl]; exact ⟨hown, hmod, hnew⟩⟩))
    clear hM hm3 hmm hT hF hMd hown hmod hnew hm2 hmg hMl
    go_wp2_with fail
    generalize (((w3.setCell ⟨w.heap.size, 0, none⟩ (.int .i64 n)).setCell ⟨w.heap.size, 1, none⟩ (.slice a3 M c3)).setCell ⟨w.heap.size, 2, none⟩ (.int .i64 0)).setCell ⟨w.heap.size, 3, none⟩ (.int .i64 0) = wf at *
    refine bodyPost_ret (v := .agg #[.int .i64 n, .slice a3 M c3, .int .i64 0, .int .i64 0]) ?_ rfl hfin.out
    simp [results, Tryz.results18, go_sem, s0, s1, s2, s3]
  · obtain ⟨r1, r2, hr⟩ : ∃ r1 r2, checksE n 0 l = (r1, r2) := ⟨_, _, rfl⟩
    rw [hr] at hck h4 hen
    have hen' := Lib.hid hen
    have t1 : (r1 == 0) = false := by simpa using h4
    have h4' : ¬ r1 = 0 := h4
    have h4h := Lib.hid h4'
    clear hr hen h h4 h4'
    go_enter Tryz.func18, Tryz.ntmps18
    go_wp2_with fail
    refine hck.out.mono ?_
    rintro e w1 ⟨rfl, hmm⟩
    try dsimp only
    have hT := (Has.new w [.int .i64 0, .slice none 0 0, .int .i64 0, .int .i64 0] 38).keep hmm (by simp)
    have z0 := hT.cell 0 rfl
    have z1 := hT.cell 1 rfl
    have z2 := hT.cell 2 rfl
    have z3 := hT.cell 3 rfl
    have zf := hT.free
    have zl := hT.lt
    obtain ⟨hF0, hMd⟩ := four_set (y0 := .int .i64 0) (y1 := .slice none 0 0) (y2 := .int .i64 r1) (y3 := .int .i64 r2) hmm
    have hF := hF0.alloc (.cells #[.int .i64 r1, .int .i64 r2] 176)
    have s0 := hF.cell 0 rfl
    have s1 := hF.cell 1 rfl
    have s2 := hF.cell 2 rfl
    have s3 := hF.cell 3 rfl
    have hmod : Mod [] w (((((w1.setCell ⟨w.heap.size, 0, none⟩ (.int .i64 0)).setCell ⟨w.heap.size, 1, none⟩ (.slice none 0 0)).setCell ⟨w.heap.size, 2, none⟩ (.int .i64 r1)).setCell ⟨w.heap.size, 3, none⟩ (.int .i64 r2)).alloc (.cells #[.int .i64 r1, .int .i64 r2] 176)) := by
      refine ((((Mod.refl [] w).alloc _).trans hmm (by simp)).trans hMd (fun b hb hlt => ?_)).alloc _
      rw [List.mem_singleton] at hb
      omega
    have hfin := Lib.hid (RNewOut.mk (n := n) (l := l) (w := w) (e := .returned (.agg #[.int .i64 0, .slice none 0 0, .int .i64 r1, .int .i64 r2])) (.inl ⟨by rw [hen'.out]; simp; intro h; exact absurd h h4h.out, by rw [hen'.out], hmod⟩))
    clear hmm hT hF hF0 hMd hmod
    go_wp2_with fail
    generalize ((((w1.setCell ⟨w.heap.size, 0, none⟩ (.int .i64 0)).setCell ⟨w.heap.size, 1, none⟩ (.slice none 0 0)).setCell ⟨w.heap.size, 2, none⟩ (.int .i64 r1)).setCell ⟨w.heap.size, 3, none⟩ (.int .i64 r2)).alloc (.cells #[.int .i64 r1, .int .i64 r2] 176) = wf at *
    refine bodyPost_ret (v := .agg #[.int .i64 0, .slice none 0 0, .int .i64 r1, .int .i64 r2]) ?_ rfl hfin.out
    simp [results, Tryz.results18, go_sem, s0, s1, s2, s3]
end Edge
end Go.Proofs.YtjpfmkfikidgkaaGreat
