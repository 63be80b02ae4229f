/- ratio.Cmp's closure: 0 if a cut may be (its parts lie in two arrays then), 1 else. -/
import Derived.Test.YtmkbinbggiocaaaCmpDo
set_option linter.unusedVariables false
set_option linter.unusedSimpArgs false
namespace Go.Proofs.Ytmkbinbggiocaaa
open Go.RowKit
namespace Ratio
open Go.Proofs.Ytmkbinbggiocaaa.Code
set_option maxRecDepth 100000 in
set_option maxHeartbeats 4000000 in
theorem rank_yes {w : World} {v x0 x1 y0 y1 : Value} {n W : Int} {l : List Int} {Bn Aw Ab i : Nat} {t : TypeId} (hi : i = 0 ∨ i = 1) (h : Rd w 1 v l.length (vi64 l)) (hy : may n W l) (hW : W ≤ 9223372036854775807)
    (h1 : Has w Bn [.int .i64 n] 3) (h4 : Has w Aw [x0, x1] t) (h5 : Has w Ab [y0, y1] t)
    (n1 : Bn ≠ Aw) (n2 : Bn ≠ Ab) (n7 : Aw ≠ Ab) :
    Calls Try.prog 122 #[.int .i64 i, .agg #[.int .i64 W, v], .pointer (some ⟨Bn, 0, none⟩), .pointer (some ⟨Aw, 0, none⟩), .pointer (some ⟨Ab, 0, none⟩)] w
      fun e w' => e = .returned (.int .i64 0) ∧ Has w' Aw ([x0, x1].set i (.int .u64 W)) t ∧ Has w' Ab ([y0, y1].set i (.int .u64 (byN n l))) t ∧ Mod [Aw, Ab] w w' := by
  have hmf : ∀ (fn : Fn) (first cap : Array Value) (w : World), (Instr.makeFunc fn first cap).run Try.prog w = .ok (.func fn first cap) w := fun _ _ _ _ => rfl
  obtain ⟨a1, c1, rfl⟩ := h.val
  have h' := Lib.hid h
  have hy' := Lib.hid hy
  have h1' := Lib.hid h1
  have h4' := Lib.hid h4
  have h5' := Lib.hid h5
  have m1 := Lib.hid n1
  have m2 := Lib.hid n2
  have m7 := Lib.hid n7
  have hi' := Lib.hid hi
  clear h hy h1 h4 h5 n1 n2 n7 hi
  go_enter Try.func122, Try.ntmps122
  go_wp2_with fail
  obtain ⟨wc, hwc⟩ : ∃ wc, wc = (w.alloc (.cells #[.int .i64 i] 3)).alloc (.cells #[.int .i64 W, .slice a1 l.length c1] 95) := ⟨_, rfl⟩
  obtain ⟨B, hB⟩ : ∃ B, B = w.heap.size := ⟨_, rfl⟩
  have m0 : Mod [] w wc := by rw [hwc]; exact ((Mod.refl [] w).alloc _).alloc _
  have hs : wc.heap.size = B + 2 := by rw [hwc, hB]; simp
  have k1 : Has wc B [.int .i64 i] 3 := by rw [hwc, hB]; exact (Has.new w _ _).alloc _
  have k2 : Has wc (B + 1) [.int .i64 W, .slice a1 l.length c1] 95 := by
    have := Has.new (w.alloc (.cells #[.int .i64 i] 3)) [.int .i64 W, .slice a1 l.length c1] 95
    rw [World.size_alloc] at this
    rw [hwc, hB]; exact this
  have b1 := h1'.out.lt
  have b4 := h4'.out.lt
  have b5 := h5'.out.lt
  rw [← hB] at b1 b4 b5
  have hf : ∀ w : World, (callFunc 123 #[.pointer (some ⟨Bn, 0, none⟩), .pointer (some ⟨B + 1, 0, none⟩), .pointer (some ⟨Aw, 0, none⟩), .pointer (some ⟨B, 0, none⟩), .pointer (some ⟨Ab, 0, none⟩)]).run Try.prog w = .ok (.enter 123 #[.pointer (some ⟨Bn, 0, none⟩), .pointer (some ⟨B + 1, 0, none⟩), .pointer (some ⟨Aw, 0, none⟩), .pointer (some ⟨B, 0, none⟩), .pointer (some ⟨Ab, 0, none⟩)]) w := fun w => by simp [go_sem]
  have hdo := do_cmp_yes hi'.out ((h'.out.still m0).still ((Mod.refl [] wc).alloc (.cells #[.bool false] 4))) hy'.out hW ((h1'.out.keep m0 (by simp)).alloc (.cells #[.bool false] 4)) (k2.alloc _) (k1.alloc _) ((h4'.out.keep m0 (by simp)).alloc _) ((h5'.out.keep m0 (by simp)).alloc _) m1.out m2.out (by omega) (by omega) (by omega) (by omega) m7.out
  have ht := Lib.hid (tried_yes hf hdo (fun w' ⟨_, _, m⟩ => ⟨_, (Has.new wc [.bool false] 4).keep m (by rw [hs]; simp; omega)⟩))
  have hm0 := Lib.hid m0
  have hs' := Lib.hid hs
  rw [← hB, ← hwc]
  have hsz' := Lib.hid hB
  have c4 := Lib.hid b4
  have c5 := Lib.hid b5
  clear hwc k1 k2 m0 hdo hf h' hy' hs b1 b4 b5 hB hi' h1' h4' h5' m1 m2 m7
  refine ht.out.mono ?_
  rintro e w2 ⟨rfl, w1, ⟨q4, q5, hm⟩, rfl⟩
  try dsimp only
  have hm1 : Mod [Aw, Ab] wc w1 := ((Mod.refl _ wc).alloc _).trans hm (fun b hb _ => hb)
  have hfin := Lib.hid (show _ ∧ _ ∧ _ from ⟨q4.other ⟨wc.heap.size, 0, none⟩ (.bool true) (by have := c4.out; rw [hs'.out]; simp only; omega), q5.other ⟨wc.heap.size, 0, none⟩ (.bool true) (by have := c5.out; rw [hs'.out]; simp only; omega),
    (hm0.out.of0.trans hm1 (fun b hb _ => hb)).setCell ⟨wc.heap.size, 0, none⟩ (.bool true) (fun hlt => by
      have := hsz'.out
      have := hs'.out
      simp only at hlt
      omega)⟩)
  generalize hw3 : w1.setCell ⟨wc.heap.size, 0, none⟩ (.bool true) = w3 at *
  clear hw3 hm1 hm q4 q5 ht
  go_wp2_with fail
  go_ret
  exact ⟨rfl, hfin.out⟩
set_option maxRecDepth 100000 in
set_option maxHeartbeats 4000000 in
theorem rank_no {w : World} {v : Value} {n W : Int} {l : List Int} {Bn Aw Ab : Nat} {i : Int} (h : Rd w 1 v l.length (vi64 l)) (hy : ¬ may n W l)
    (h1 : Has w Bn [.int .i64 n] 3) :
    Calls Try.prog 122 #[.int .i64 i, .agg #[.int .i64 W, v], .pointer (some ⟨Bn, 0, none⟩), .pointer (some ⟨Aw, 0, none⟩), .pointer (some ⟨Ab, 0, none⟩)] w
      fun e w' => e = .returned (.int .i64 1) ∧ Mod [] w w' := by
  have hmf : ∀ (fn : Fn) (first cap : Array Value) (w : World), (Instr.makeFunc fn first cap).run Try.prog w = .ok (.func fn first cap) w := fun _ _ _ _ => rfl
  obtain ⟨a1, c1, rfl⟩ := h.val
  have h' := Lib.hid h
  have hy' := Lib.hid hy
  have h1' := Lib.hid h1
  clear h hy h1
  go_enter Try.func122, Try.ntmps122
  go_wp2_with fail
  obtain ⟨wc, hwc⟩ : ∃ wc, wc = (w.alloc (.cells #[.int .i64 i] 3)).alloc (.cells #[.int .i64 W, .slice a1 l.length c1] 95) := ⟨_, rfl⟩
  obtain ⟨B, hB⟩ : ∃ B, B = w.heap.size := ⟨_, rfl⟩
  have m0 : Mod [] w wc := by rw [hwc]; exact ((Mod.refl [] w).alloc _).alloc _
  have hs : wc.heap.size = B + 2 := by rw [hwc, hB]; simp
  have k1 : Has wc B [.int .i64 i] 3 := by rw [hwc, hB]; exact (Has.new w _ _).alloc _
  have k2 : Has wc (B + 1) [.int .i64 W, .slice a1 l.length c1] 95 := by
    have := Has.new (w.alloc (.cells #[.int .i64 i] 3)) [.int .i64 W, .slice a1 l.length c1] 95
    rw [World.size_alloc] at this
    rw [hwc, hB]; exact this
  have hf : ∀ w : World, (callFunc 123 #[.pointer (some ⟨Bn, 0, none⟩), .pointer (some ⟨B + 1, 0, none⟩), .pointer (some ⟨Aw, 0, none⟩), .pointer (some ⟨B, 0, none⟩), .pointer (some ⟨Ab, 0, none⟩)]).run Try.prog w = .ok (.enter 123 #[.pointer (some ⟨Bn, 0, none⟩), .pointer (some ⟨B + 1, 0, none⟩), .pointer (some ⟨Aw, 0, none⟩), .pointer (some ⟨B, 0, none⟩), .pointer (some ⟨Ab, 0, none⟩)]) w := fun w => by simp [go_sem]
  have hdo := do_cmp_no (Aw := Aw) (Ab := Ab) ((h'.out.still m0).still ((Mod.refl [] wc).alloc (.cells #[.bool false] 4))) hy'.out ((h1'.out.keep m0 (by simp)).alloc (.cells #[.bool false] 4)) (k2.alloc _) (k1.alloc _)
  have ht := Lib.hid (tried_no hf hdo (fun w' m => ⟨_, (Has.new wc [.bool false] 4).keep m (by simp)⟩))
  have hm0 := Lib.hid m0
  have hs' := Lib.hid hs
  rw [← hB, ← hwc]
  have hsz' := Lib.hid hB
  clear hwc k1 k2 m0 hdo hf h' hy' hs hB h1'
  refine ht.out.mono ?_
  rintro e w2 ⟨rfl, w1, o, hm, rfl⟩
  try dsimp only
  have hm1 : Mod [] wc w1 := ((Mod.refl _ wc).alloc _).trans hm (by simp)
  have hfin := Lib.hid (show Mod [] w ((w1.setCell ⟨wc.heap.size, 0, none⟩ (.bool false)).alloc o) from
    (((hm0.out.trans hm1 (by simp)).setCell ⟨wc.heap.size, 0, none⟩ (.bool false) (fun hlt => by
      have := hsz'.out
      have := hs'.out
      simp only at hlt
      omega))).alloc o)
  generalize hw3 : (w1.setCell ⟨wc.heap.size, 0, none⟩ (.bool false)).alloc o = w3 at *
  clear hw3 hm1 hm ht
  go_wp2_with fail
  go_ret
  exact ⟨rfl, hfin.out⟩
def mayB (n W : Int) (l : List Int) : Bool := decide (n ≤ 4096) && (checkC n l == 0) && decide (0 ≤ W)
theorem mayB_iff (n W : Int) (l : List Int) : mayB n W l = true ↔ may n W l := by
  unfold mayB may
  simp only [Bool.and_eq_true, decide_eq_true_eq, beq_iff_eq]
  exact ⟨fun h => ⟨h.1.1, h.1.2, h.2⟩, fun h => ⟨⟨h.1, h.2.1⟩, h.2.2⟩⟩
def rk (b : Bool) : Int := if b then 0 else 1
def pk (b : Bool) (u x : Value) : Value := if b then u else x
def setIf (b : Bool) (i : Nat) (u : Value) (xs : List Value) : List Value := if b then xs.set i u else xs
theorem rank_any {w : World} {v x0 x1 y0 y1 : Value} {n W : Int} {l : List Int} {Bn Aw Ab i : Nat} {t : TypeId} (hi : i = 0 ∨ i = 1) (h : Rd w 1 v l.length (vi64 l)) (hW : W ≤ 9223372036854775807)
    (h1 : Has w Bn [.int .i64 n] 3) (h4 : Has w Aw [x0, x1] t) (h5 : Has w Ab [y0, y1] t)
    (n1 : Bn ≠ Aw) (n2 : Bn ≠ Ab) (n7 : Aw ≠ Ab) :
    Calls Try.prog 122 #[.int .i64 i, .agg #[.int .i64 W, v], .pointer (some ⟨Bn, 0, none⟩), .pointer (some ⟨Aw, 0, none⟩), .pointer (some ⟨Ab, 0, none⟩)] w
      fun e w' => e = .returned (.int .i64 (rk (mayB n W l))) ∧ Has w' Aw (setIf (mayB n W l) i (.int .u64 W) [x0, x1]) t ∧ Has w' Ab (setIf (mayB n W l) i (.int .u64 (byN n l)) [y0, y1]) t ∧ Mod [Aw, Ab] w w' := by
  cases hb : mayB n W l with
  | true =>
    exact rank_yes hi h ((mayB_iff _ _ _).1 hb) hW h1 h4 h5 n1 n2 n7
  | false =>
    refine (rank_no h (fun hy => by rw [(mayB_iff _ _ _).2 hy] at hb; cases hb) h1).mono ?_
    rintro e w' ⟨rfl, m⟩
    exact ⟨rfl, h4.keep m (by simp), h5.keep m (by simp), m.of0⟩
theorem setIf_0 (b : Bool) (u x y : Value) : setIf b 0 u [x, y] = [pk b u x, y] := by cases b <;> rfl
theorem setIf_1 (b : Bool) (u x y : Value) : setIf b 1 u [x, y] = [x, pk b u y] := by cases b <;> rfl
end Ratio
end Go.Proofs.Ytmkbinbggiocaaa
