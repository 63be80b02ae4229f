/- ratio.Of, whole. -/
import Derived.Test.YtmkbinbggiocaaaOf44
set_option linter.unusedVariables false
set_option linter.unusedSimpArgs false
namespace Go.Proofs.Ytmkbinbggiocaaa
open Go.RowKit
namespace Ratio
open Go.Proofs.Ytmkbinbggiocaaa.Code Go.Proofs.Ytmkbinbggiocaaa.Fl
attribute [local go_sem] run_store_float
set_option maxRecDepth 100000 in
set_option maxHeartbeats 2000000 in
theorem of_yes {w : World} {v : Value} {n W : Int} {l : List Int} (h : Rd w 1 v l.length (vi64 l)) (hy : may n W l) (hW : W ≤ 9223372036854775807) :
    Calls Try.prog 64 #[.int .i64 n, .agg #[.int .i64 W, v]] w fun e w' => ∃ q, e = .returned (.float .f64 q) ∧ fl q = fquo (some (cv W)) (some (cv (byN n l))) ∧ Mod [] w w' := by
  have hmf : ∀ (fn : Fn) (first cap : Array Value) (w : World), (Instr.makeFunc fn first cap).run Try.prog w = .ok (.func fn first cap) w := fun _ _ _ _ => rfl
  obtain ⟨a1, c1, rfl⟩ := h.val
  have h' := Lib.hid h
  have hy' := Lib.hid hy
  clear h hy
  go_enter Try.func64, Try.ntmps64
  go_wp2_with fail
  refine (nan_math _).mono ?_
  rintro e w1 ⟨rfl, rfl⟩
  try dsimp only
  go_wp2_with fail
  obtain ⟨wc, hwc⟩ : ∃ wc, wc = ((w.alloc (.cells #[.int .i64 n] 3)).alloc (.cells #[.int .i64 W, .slice a1 l.length c1] 95)).alloc (.cells #[.float .f64 9221120237041090561] 81) := ⟨_, rfl⟩
  obtain ⟨B, hB⟩ : ∃ B, B = w.heap.size := ⟨_, rfl⟩
  have m0 : Mod [] w wc := by rw [hwc]; exact (((Mod.refl [] w).alloc _).alloc _).alloc _
  have hs : wc.heap.size = B + 3 := by rw [hwc, hB]; simp
  have k1 : Has wc B [.int .i64 n] 3 := by rw [hwc, hB]; exact ((Has.new w _ _).alloc _).alloc _
  have k2 : Has wc (B + 1) [.int .i64 W, .slice a1 l.length c1] 95 := by
    have := Has.new (w.alloc (.cells #[.int .i64 n] 3)) [.int .i64 W, .slice a1 l.length c1] 95
    rw [World.size_alloc] at this
    rw [hwc, hB]; exact this.alloc _
  have k3 : Has wc (B + 1 + 1) [.float .f64 9221120237041090561] 81 := by
    have := Has.new ((w.alloc (.cells #[.int .i64 n] 3)).alloc (.cells #[.int .i64 W, .slice a1 l.length c1] 95)) [.float .f64 9221120237041090561] 81
    rw [World.size_alloc, World.size_alloc] at this
    rw [hwc, hB]; exact this
  have hf : ∀ w : World, (callFunc 120 #[.pointer (some ⟨B, 0, none⟩), .pointer (some ⟨B + 1, 0, none⟩), .pointer (some ⟨B + 1 + 1, 0, none⟩)]).run Try.prog w = .ok (.enter 120 #[.pointer (some ⟨B, 0, none⟩), .pointer (some ⟨B + 1, 0, none⟩), .pointer (some ⟨B + 1 + 1, 0, none⟩)]) w := fun w => by simp [go_sem]
  have hdo := do_of_yes ((h'.out.still m0).still ((Mod.refl [] wc).alloc (.cells #[.bool false] 4))) hy'.out hW (k1.alloc _) (k2.alloc _) (k3.alloc _)
  have ht := Lib.hid (tried_yes hf hdo (fun w' ⟨q, _, _, m⟩ => ⟨_, (Has.new wc [.bool false] 4).keep m (by rw [hs]; simp)⟩))
  have hm0 := Lib.hid m0
  have hs' := Lib.hid hs
  rw [← hB, ← hwc]
  have hsz : w.heap.size = B := hB.symm
  have hsz' := Lib.hid hsz
  clear hwc k1 k2 k3 m0 hdo hf h' hy' hs hsz hB
  refine ht.out.mono ?_
  rintro e w2 ⟨rfl, w1, ⟨q, hq, hh, hm⟩, rfl⟩
  try dsimp only
  have hm1 : Mod [B + 1 + 1] wc w1 := ((Mod.refl _ wc).alloc _).trans hm (fun b hb _ => hb)
  have hh2 := hh.other ⟨wc.heap.size, 0, none⟩ (.bool true) (by rw [hs'.out]; simp)
  have e0 := hh2.cell 0 rfl
  have el := hh2.lt
  have hfin : Mod [] w (w1.setCell ⟨wc.heap.size, 0, none⟩ (.bool true)) := by
    refine (hm0.out.trans hm1 (fun b hb hlt => ?_)).setCell _ _ (fun hlt => ?_)
    · have := hsz'.out
      simp only [List.mem_singleton] at hb
      omega
    · have := hsz'.out
      have := hs'.out
      simp only at hlt
      omega
  have hfin' := Lib.hid (show ∃ q', fl q' = fquo (some (cv W)) (some (cv (byN n l))) ∧ q' = q from ⟨q, hq, rfl⟩)
  have hmf' := Lib.hid hfin
  generalize hw3 : w1.setCell ⟨wc.heap.size, 0, none⟩ (.bool true) = w3 at *
  clear hw3 hm1 hh hm hq hh2 hfin ht
  go_wp2_with fail
  go_ret
  obtain ⟨q', hq', rfl⟩ := hfin'.out
  exact ⟨q', rfl, hq', hmf'.out⟩
set_option maxRecDepth 100000 in
set_option maxHeartbeats 2000000 in
theorem of_no {w : World} {v : Value} {n W : Int} {l : List Int} (h : Rd w 1 v l.length (vi64 l)) (hy : ¬ may n W l) :
    Calls Try.prog 64 #[.int .i64 n, .agg #[.int .i64 W, v]] w fun e w' => ∃ q, e = .returned (.float .f64 q) ∧ fl q = none ∧ Mod [] w w' := by
  have hmf : ∀ (fn : Fn) (first cap : Array Value) (w : World), (Instr.makeFunc fn first cap).run Try.prog w = .ok (.func fn first cap) w := fun _ _ _ _ => rfl
  obtain ⟨a1, c1, rfl⟩ := h.val
  have h' := Lib.hid h
  have hy' := Lib.hid hy
  clear h hy
  go_enter Try.func64, Try.ntmps64
  go_wp2_with fail
  refine (nan_math _).mono ?_
  rintro e w1 ⟨rfl, rfl⟩
  try dsimp only
  go_wp2_with fail
  obtain ⟨wc, hwc⟩ : ∃ wc, wc = ((w.alloc (.cells #[.int .i64 n] 3)).alloc (.cells #[.int .i64 W, .slice a1 l.length c1] 95)).alloc (.cells #[.float .f64 9221120237041090561] 81) := ⟨_, rfl⟩
  obtain ⟨B, hB⟩ : ∃ B, B = w.heap.size := ⟨_, rfl⟩
  have m0 : Mod [] w wc := by rw [hwc]; exact (((Mod.refl [] w).alloc _).alloc _).alloc _
  have hs : wc.heap.size = B + 3 := by rw [hwc, hB]; simp
  have k1 : Has wc B [.int .i64 n] 3 := by rw [hwc, hB]; exact ((Has.new w _ _).alloc _).alloc _
  have k2 : Has wc (B + 1) [.int .i64 W, .slice a1 l.length c1] 95 := by
    have := Has.new (w.alloc (.cells #[.int .i64 n] 3)) [.int .i64 W, .slice a1 l.length c1] 95
    rw [World.size_alloc] at this
    rw [hwc, hB]; exact this.alloc _
  have k3 : Has wc (B + 1 + 1) [.float .f64 9221120237041090561] 81 := by
    have := Has.new ((w.alloc (.cells #[.int .i64 n] 3)).alloc (.cells #[.int .i64 W, .slice a1 l.length c1] 95)) [.float .f64 9221120237041090561] 81
    rw [World.size_alloc, World.size_alloc] at this
    rw [hwc, hB]; exact this
  have hf : ∀ w : World, (callFunc 120 #[.pointer (some ⟨B, 0, none⟩), .pointer (some ⟨B + 1, 0, none⟩), .pointer (some ⟨B + 1 + 1, 0, none⟩)]).run Try.prog w = .ok (.enter 120 #[.pointer (some ⟨B, 0, none⟩), .pointer (some ⟨B + 1, 0, none⟩), .pointer (some ⟨B + 1 + 1, 0, none⟩)]) w := fun w => by simp [go_sem]
  have hdo := do_of_no (Bo := B + 1 + 1) ((h'.out.still m0).still ((Mod.refl [] wc).alloc (.cells #[.bool false] 4))) hy'.out (k1.alloc _) (k2.alloc _)
  have ht := Lib.hid (tried_no hf hdo (fun w' m => ⟨_, (Has.new wc [.bool false] 4).keep m (by simp)⟩))
  have hm0 := Lib.hid m0
  have hs' := Lib.hid hs
  rw [← hB, ← hwc]
  have hsz : w.heap.size = B := hB.symm
  have hsz' := Lib.hid hsz
  have k3' := Lib.hid k3
  clear hwc k1 k2 k3 m0 hdo hf h' hy' hs hsz hB
  refine ht.out.mono ?_
  rintro e w2 ⟨rfl, w1, o, hm, rfl⟩
  try dsimp only
  have hm1 : Mod [] wc w1 := ((Mod.refl _ wc).alloc _).trans hm (by simp)
  have hh2 := ((k3'.out.keep hm1 (by simp)).other ⟨wc.heap.size, 0, none⟩ (.bool false) (by rw [hs'.out]; simp)).alloc o
  have e0 := hh2.cell 0 rfl
  have el := hh2.lt
  have hfin : Mod [] w ((w1.setCell ⟨wc.heap.size, 0, none⟩ (.bool false)).alloc o) := by
    refine ((hm0.out.trans hm1 (by simp)).setCell _ _ (fun hlt => ?_)).alloc o
    have := hsz'.out
    have := hs'.out
    simp only at hlt
    omega
  have hmf' := Lib.hid hfin
  generalize hw3 : (w1.setCell ⟨wc.heap.size, 0, none⟩ (.bool false)).alloc o = w3 at *
  clear hw3 hm1 hm hh2 hfin ht
  go_wp2_with fail
  go_ret
  exact ⟨_, rfl, by decide +kernel, hmf'.out⟩
end Ratio
end Go.Proofs.Ytmkbinbggiocaaa
