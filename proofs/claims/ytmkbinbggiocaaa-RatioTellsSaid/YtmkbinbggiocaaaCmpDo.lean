/- ratio.Cmp's inner closure: the parts of a cut go into two arrays. -/
import Derived.Test.YtmkbinbggiocaaaOr44
import Derived.Test.YtmkbinbggiocaaaSched
set_option linter.unusedVariables false
set_option linter.unusedSimpArgs false
namespace Go.Proofs.Ytmkbinbggiocaaa
open Go.RowKit
namespace Ratio
open Go.Proofs.Ytmkbinbggiocaaa.Code
section
variable {P : Program} {Q : Exit → Act → World → Prop} {G : World → World → Prop}
theorem region_schedP {id : Nat} {a : Act} {w : World} {l : List Oper} (ps : List (List Nat × Nat)) (last : List Nat) (hQ : ∀ c a d v w, Q (.panic c) (Act.put a d v) w → Q (.panic c) a w) (hm : P.follows .mixedOrders = true) (hs : Region.noSelect l.toArray = true) (hB : schedB .any l.toArray ps last (Array.replicate l.length false) = true) (hc : countS ps + last.length = l.length)
    (hG : ∀ w, G w w) (hT : ∀ w1 w2 w3, G w1 w2 → G w2 w3 → G w1 w3)
    (h : wpSched P l.toArray G Q (stages l ps) (pickO l last) a w.drew) : (Code.region id l.toArray true).wp P Q a w := by
  refine wp_region_held (S := G w.drew) hm ?_
  rw [stages_eq, pickO_eq] at h
  have := sched_held hs hQ hG hT last ps _ a w.drew hB h
  rw [hc] at this
  simpa using this
end
theorem trM2 (F : List Nat) (w1 w2 w3 : World) (h1 : Mod F w1 w2) (h2 : Mod F w2 w3) : Mod F w1 w3 := h1.trans h2 (fun b hb _ => hb)
/-- An array of two numbers of which one is set. -/
def put2 (i : Nat) (u : Value) (xs : List Value) : List Value := xs.set i u
set_option maxRecDepth 100000 in
set_option maxHeartbeats 4000000 in
theorem do_cmp_yes {w : World} {v x0 x1 y0 y1 : Value} {n W : Int} {l : List Int} {Bn Bc Bi Aw Ab i : Nat} {t : TypeId} (hi : i = 0 ∨ i = 1) (h : Rd w 1 v l.length (vi64 l)) (hy : may n W l) (hW : W ≤ 9223372036854775807)
    (h1 : Has w Bn [.int .i64 n] 3) (h2 : Has w Bc [.int .i64 W, v] 95) (h3 : Has w Bi [.int .i64 i] 3) (h4 : Has w Aw [x0, x1] t) (h5 : Has w Ab [y0, y1] t)
    (n1 : Bn ≠ Aw) (n2 : Bn ≠ Ab) (n3 : Bc ≠ Aw) (n4 : Bc ≠ Ab) (n5 : Bi ≠ Aw) (n6 : Bi ≠ Ab) (n7 : Aw ≠ Ab) :
    Calls Try.prog 123 #[.pointer (some ⟨Bn, 0, none⟩), .pointer (some ⟨Bc, 0, none⟩), .pointer (some ⟨Aw, 0, none⟩), .pointer (some ⟨Bi, 0, none⟩), .pointer (some ⟨Ab, 0, none⟩)] w
      (DoOut true fun w' => Has w' Aw ([x0, x1].set i (.int .u64 W)) t ∧ Has w' Ab ([y0, y1].set i (.int .u64 (byN n l))) t ∧ Mod [Aw, Ab] w w') := by
  obtain ⟨a1, c1, rfl⟩ := h.val
  have fn0 : ∀ m : Fut (Mod [Aw, Ab]) w.drew, m.v.cell? ⟨Bn, 0, none⟩ = some (.int .i64 n) := fun m => ((h1.drew).keep m.of (by simp [n1, n2])).cell 0 rfl
  have fc0 : ∀ m : Fut (Mod [Aw, Ab]) w.drew, m.v.cell? ⟨Bc, 0, none⟩ = some (.int .i64 W) := fun m => ((h2.drew).keep m.of (by simp [n3, n4])).cell 0 rfl
  have fc1 : ∀ m : Fut (Mod [Aw, Ab]) w.drew, m.v.cell? ⟨Bc, 1, none⟩ = some (.slice a1 l.length c1) := fun m => ((h2.drew).keep m.of (by simp [n3, n4])).cell 1 rfl
  have fi0 : ∀ m : Fut (Mod [Aw, Ab]) w.drew, m.v.cell? ⟨Bi, 0, none⟩ = some (.int .i64 i) := fun m => ((h3.drew).keep m.of (by simp [n5, n6])).cell 0 rfl
  have hp := Lib.hid (parts_ok (h.still (Mod.refl [] w).drew) hy hW)
  have h4' := Lib.hid h4
  have h5' := Lib.hid h5
  have hn7 := Lib.hid n7
  clear h h1 h2 h3 h4 h5 hy n1 n2 n3 n4 n5 n6 n7
  go_enter Try.func123, Try.ntmps123
  go_wp2_with fail
  refine region_sched (G := Mod [Aw, Ab]) [([0,1,2,3],4), ([5,6,7,8],9), ([10],11)] [] (by kernel_rfl) (by kernel_rfl) (by kernel_rfl) rfl (Mod.refl _) (trM2 _) ?_
  simp only [stages, pickO, nthO, headO, List.cons_append, List.nil_append]
  refine sched_step ?_
  repeat (go_big_quiet_step (fail))
  refine wpQuiet_nil ?_
  intro K hK
  rw [if_pos (by rfl)]
  go_simp
  refine hp.out.mono ?_
  rintro e w1 ⟨rfl, hm⟩
  try dsimp only
  have k4 := h4'.out.drew.keep hm (by simp)
  have k5 := h5'.out.drew.keep hm (by simp)
  have km := Lib.hid (show Mod [] w w1 from (Mod.refl [] w).drew.trans hm (by simp))
  refine hK.out _ _ hm.of0 ?_
  clear hK K hm hp fn0 fc0 fc1 fi0
  have k4' := Lib.hid k4
  have k5' := Lib.hid k5
  have e0 := k4.cell 0 rfl
  have e1 := k4.cell 1 rfl
  have ez0 := k4.free 0
  have ez1 := k4.free 1
  have el := k4.lt
  clear k4 k5 h4' h5'
  rcases hi with rfl | rfl
  all_goals
    refine sched_step ?_
    repeat (go_big_quiet_step (fail))
    refine wpQuiet_nil ?_
    intro K hK
    rw [if_pos (by rfl)]
    go_simp
  · have hout := k4'.out.set 0 (.int .u64 W)
    have hout5 := k5'.out.other ⟨Aw, 0, none⟩ (.int .u64 W) (Ne.symm hn7.out)
    have hm2 : Mod [Aw, Ab] w1 (w1.setCell ⟨Aw, 0, none⟩ (.int .u64 W)) := (Mod.refl _ w1).setCell _ _ (by simp)
    have km2 := Lib.hid (km.out.of0.trans hm2 (fun b hb _ => hb))
    have ho4 := Lib.hid hout
    have ho5 := Lib.hid hout5
    refine hK.out _ _ hm2 ?_
    clear hK K e0 e1 ez0 ez1 el hm2 km hout
    have g0 := hout5.cell 0 rfl
    have g1 := hout5.cell 1 rfl
    have gz0 := hout5.free 0
    have gz1 := hout5.free 1
    have gl := hout5.lt
    clear hout5
    refine sched_step ?_
    repeat (go_big_quiet_step (fail))
    refine wpQuiet_nil ?_
    intro K hK
    rw [if_pos (by rfl)]
    go_simp
    have hm3 : Mod [Aw, Ab] (w1.setCell ⟨Aw, 0, none⟩ (.int .u64 W)) ((w1.setCell ⟨Aw, 0, none⟩ (.int .u64 W)).setCell ⟨Ab, 0, none⟩ (.int .u64 (byN n l))) := (Mod.refl _ _).setCell _ _ (by simp)
    have hf := Lib.hid (show _ ∧ _ ∧ _ from ⟨ho4.out.other ⟨Ab, 0, none⟩ (.int .u64 (byN n l)) hn7.out, ho5.out.set 0 (.int .u64 (byN n l)), km2.out.trans hm3 (fun b hb _ => hb)⟩)
    refine hK.out _ _ hm3 ?_
    clear hK K g0 g1 gz0 gz1 gl hm3 km2 ho4 ho5 k4' k5'
    refine sched_last ?_
    refine wpQuiet_nil ?_
    go_wp2_with fail
    exact bodyPost_end (v := .tuple #[]) (by simp [results, Try.results123, go_sem]) rfl ⟨rfl, hf.out⟩
  · have hout := k4'.out.set 1 (.int .u64 W)
    have hout5 := k5'.out.other ⟨Aw, 1, none⟩ (.int .u64 W) (Ne.symm hn7.out)
    have hm2 : Mod [Aw, Ab] w1 (w1.setCell ⟨Aw, 1, none⟩ (.int .u64 W)) := (Mod.refl _ w1).setCell _ _ (by simp)
    have km2 := Lib.hid (km.out.of0.trans hm2 (fun b hb _ => hb))
    have ho4 := Lib.hid hout
    have ho5 := Lib.hid hout5
    refine hK.out _ _ hm2 ?_
    clear hK K e0 e1 ez0 ez1 el hm2 km hout
    have g0 := hout5.cell 0 rfl
    have g1 := hout5.cell 1 rfl
    have gz0 := hout5.free 0
    have gz1 := hout5.free 1
    have gl := hout5.lt
    clear hout5
    refine sched_step ?_
    repeat (go_big_quiet_step (fail))
    refine wpQuiet_nil ?_
    intro K hK
    rw [if_pos (by rfl)]
    go_simp
    have hm3 : Mod [Aw, Ab] (w1.setCell ⟨Aw, 1, none⟩ (.int .u64 W)) ((w1.setCell ⟨Aw, 1, none⟩ (.int .u64 W)).setCell ⟨Ab, 1, none⟩ (.int .u64 (byN n l))) := (Mod.refl _ _).setCell _ _ (by simp)
    have hf := Lib.hid (show _ ∧ _ ∧ _ from ⟨ho4.out.other ⟨Ab, 1, none⟩ (.int .u64 (byN n l)) hn7.out, ho5.out.set 1 (.int .u64 (byN n l)), km2.out.trans hm3 (fun b hb _ => hb)⟩)
    refine hK.out _ _ hm3 ?_
    clear hK K g0 g1 gz0 gz1 gl hm3 km2 ho4 ho5 k4' k5'
    refine sched_last ?_
    refine wpQuiet_nil ?_
    go_wp2_with fail
    exact bodyPost_end (v := .tuple #[]) (by simp [results, Try.results123, go_sem]) rfl ⟨rfl, hf.out⟩
set_option maxRecDepth 100000 in
set_option maxHeartbeats 4000000 in
theorem do_cmp_no {w : World} {v : Value} {n W : Int} {l : List Int} {Bn Bc Bi Aw Ab : Nat} {i : Int} (h : Rd w 1 v l.length (vi64 l)) (hy : ¬ may n W l)
    (h1 : Has w Bn [.int .i64 n] 3) (h2 : Has w Bc [.int .i64 W, v] 95) (h3 : Has w Bi [.int .i64 i] 3) :
    Calls Try.prog 123 #[.pointer (some ⟨Bn, 0, none⟩), .pointer (some ⟨Bc, 0, none⟩), .pointer (some ⟨Aw, 0, none⟩), .pointer (some ⟨Bi, 0, none⟩), .pointer (some ⟨Ab, 0, none⟩)] w
      (DoOut false fun w' => Mod [] w w') := by
  obtain ⟨a1, c1, rfl⟩ := h.val
  have fn0 : ∀ m : Fut (Mod []) w.drew, m.v.cell? ⟨Bn, 0, none⟩ = some (.int .i64 n) := fun m => ((h1.drew).keep m.of (by simp)).cell 0 rfl
  have fc0 : ∀ m : Fut (Mod []) w.drew, m.v.cell? ⟨Bc, 0, none⟩ = some (.int .i64 W) := fun m => ((h2.drew).keep m.of (by simp)).cell 0 rfl
  have fc1 : ∀ m : Fut (Mod []) w.drew, m.v.cell? ⟨Bc, 1, none⟩ = some (.slice a1 l.length c1) := fun m => ((h2.drew).keep m.of (by simp)).cell 1 rfl
  have fi0 : ∀ m : Fut (Mod []) w.drew, m.v.cell? ⟨Bi, 0, none⟩ = some (.int .i64 i) := fun m => ((h3.drew).keep m.of (by simp)).cell 0 rfl
  have hp := Lib.hid (parts_no (h.still (Mod.refl [] w).drew) hy)
  clear h h1 h2 h3 hy
  go_enter Try.func123, Try.ntmps123
  go_wp2_with fail
  refine region_schedP (G := Mod []) [([0,1,2,3],4), ([5,6,7,8],9), ([10],11)] [] (fun c a d v w h => by cases d <;> exact h) (by kernel_rfl) (by kernel_rfl) (by kernel_rfl) rfl (Mod.refl _) (fun _ _ _ h1 h2 => h1.trans h2 (by simp)) ?_
  simp only [stages, pickO, nthO, headO, List.cons_append, List.nil_append]
  refine sched_step ?_
  repeat (go_big_quiet_step (fail))
  refine wpQuiet_nil ?_
  intro K hK
  rw [if_pos (by rfl)]
  go_simp
  refine hp.out.mono ?_
  rintro e w1 ⟨rfl, hm⟩
  try dsimp only
  exact (show bodyPost _ _ _ (Exit.panic [wrongP]) _ _ from ⟨rfl, rfl, (Mod.refl [] w).drew.trans hm (by simp)⟩)
end Ratio
end Go.Proofs.Ytmkbinbggiocaaa
