/- The order of floats: numbers above nought, and none. -/
import Derived.Test.YtmkbinbggiocaaaCuts44
set_option linter.unusedVariables false
set_option linter.unusedSimpArgs false
namespace Go.Proofs.Ytmkbinbggiocaaa
open Go.RowKit
namespace Ratio
open Go.Proofs.Ytmkbinbggiocaaa.Code Go.Proofs.Ytmkbinbggiocaaa.Fl
/-- A float's place. -/
def pl (x : Option Nat) : Int := match x with
  | none => 9223372036854775807
  | some b => b
def plain63 (x : Option Nat) : Prop := ∀ b, x = some b → b < 9218868437227405312
theorem at_any (w : World) (b : Nat) (h : plain63 (fl b)) : Calls Try.prog 129 #[.float .f64 b] w fun e w' => e = .returned (.int .i64 (pl (fl b))) ∧ w' = w := by
  have hs := self_ne b
  cases hb : fl b with
  | none =>
    rw [hb] at hs
    simp only [Option.isNone_none] at hs
    clear hb h
    go_enter Try.func129, Try.ntmps129
    go_wp2_with fail
    go_ret
    exact ⟨rfl, rfl⟩
  | some c =>
    have hc : c = b := (fl_some hb).1
    subst hc
    have hlt := h c hb
    have hba := Lib.hid (bits_any w c)
    rw [hb] at hs hba
    simp only [Option.isNone_some] at hs
    have hw1 : IntKind.i64.wrap (c : Int) = c := IntWalk.i64_in _ (by omega)
    clear hb h
    go_enter Try.func129, Try.ntmps129
    go_wp2_with fail
    refine hba.out.mono ?_
    rintro e w1 ⟨rfl, rfl⟩
    have e0 : bitsF (some c) = c := rfl
    rw [e0]
    try dsimp only
    go_wp2_with fail
    go_ret
    exact ⟨rfl, rfl⟩
theorem nan_place (w : World) (x : Int) : Calls Try.prog 184 #[.int .i64 x] w fun e w' => e = .returned (.bool false) ∧ w' = w := by
  go_enter Try.func184, Try.ntmps184
  go_wp2
  go_ret
  exact ⟨rfl, rfl⟩
theorem compare_place (x y : Int) (w : World) : Calls Try.prog 162 #[.int .i64 x, .int .i64 y] w fun e w' => e = .returned (.int .i64 (cmpI x y)) ∧ w' = w := by
  rcases Int.lt_trichotomy x y with h | h | h
  · have e : Hid (cmpI x y = -1) := Lib.hid (by unfold cmpI; rw [if_pos h])
    go_enter Try.func162, Try.ntmps162
    go_wp2_with (refine (nan_place _ _).mono ?_; rintro e w1 ⟨rfl, rfl⟩)
    go_ret
    exact ⟨by rw [e.out]; rfl, rfl⟩
  · subst h
    have e : Hid (cmpI x x = 0) := Lib.hid (by unfold cmpI; rw [if_neg (by omega), if_neg (by omega)])
    have h1 : ¬ x < x := by omega
    go_enter Try.func162, Try.ntmps162
    go_wp2_with (refine (nan_place _ _).mono ?_; rintro e w1 ⟨rfl, rfl⟩)
    go_ret
    exact ⟨by rw [e.out]; rfl, rfl⟩
  · have e : Hid (cmpI x y = 1) := Lib.hid (by unfold cmpI; rw [if_neg (by omega), if_pos h])
    have h1 : ¬ x < y := by omega
    go_enter Try.func162, Try.ntmps162
    go_wp2_with (refine (nan_place _ _).mono ?_; rintro e w1 ⟨rfl, rfl⟩)
    go_ret
    exact ⟨by rw [e.out]; rfl, rfl⟩
theorem cmp_place (x y : Int) (w : World) : Calls Try.prog 130 #[.int .i64 x, .int .i64 y] w fun e w' => e = .returned (.int .i64 (cmpI x y)) ∧ w' = w := by
  go_enter Try.func130, Try.ntmps130
  go_wp2_with fail
  refine (compare_place _ _ _).mono ?_
  rintro e w1 ⟨rfl, rfl⟩
  try dsimp only
  go_wp2_with fail
  go_ret
  exact ⟨rfl, rfl⟩
theorem order_any (w : World) (a b : Nat) (ha : plain63 (fl a)) (hb : plain63 (fl b)) : Calls Try.prog 67 #[.float .f64 a, .float .f64 b] w fun e w' => e = .returned (.int .i64 (cmpI (pl (fl a)) (pl (fl b)))) ∧ w' = w := by
  have ha' := Lib.hid ha
  have hb' := Lib.hid hb
  clear ha hb
  go_enter Try.func67, Try.ntmps67
  go_wp2_with fail
  refine (at_any _ _ ha'.out).mono ?_
  rintro e w1 ⟨rfl, rfl⟩
  try dsimp only
  go_wp2_with fail
  refine (at_any _ _ hb'.out).mono ?_
  rintro e w1 ⟨rfl, rfl⟩
  try dsimp only
  go_wp2_with fail
  refine (cmp_place _ _ _).mono ?_
  rintro e w1 ⟨rfl, rfl⟩
  try dsimp only
  go_wp2_with fail
  go_ret
  exact ⟨rfl, rfl⟩
set_option maxHeartbeats 1000000 in
theorem of_ref {w : World} {v : Value} {n W : Int} {l : List Int} (h : Rd w 1 v l.length (vi64 l)) (hy : may n W l) :
    Calls Try.prog 63 #[.int .i64 n, .agg #[.int .i64 W, v]] w fun e w' => e = .returned (.agg #[.int .i64 W, .int .i64 (byN n l)]) ∧ Mod [] w w' := by
  obtain ⟨a1, c1, rfl⟩ := h.val
  have h' := Lib.hid h
  have hy' := Lib.hid hy
  clear h hy
  go_enter Try.func63, Try.ntmps63
  go_wp2_with fail
  obtain ⟨wc, hwc⟩ : ∃ wc, wc = (w.alloc (.cells #[.int .i64 W, .slice a1 l.length c1] 95)).alloc (.cells #[.int .i64 0, .int .i64 0] 98) := ⟨_, rfl⟩
  obtain ⟨B, hB⟩ : ∃ B, B = w.heap.size := ⟨_, rfl⟩
  have m0 : Mod [] w wc := by rw [hwc]; exact ((Mod.refl [] w).alloc _).alloc _
  have k1 : Has wc B [.int .i64 W, .slice a1 l.length c1] 95 := by rw [hwc, hB]; exact (Has.new w _ _).alloc _
  have k2 : Has wc (B + 1) [.int .i64 0, .int .i64 0] 98 := by
    have := Has.new (w.alloc (.cells #[.int .i64 W, .slice a1 l.length c1] 95)) [.int .i64 0, .int .i64 0] 98
    rw [World.size_alloc] at this
    rw [hwc, hB]; exact this
  rw [← hB, ← hwc]
  have hm0 := Lib.hid m0
  have hB' := Lib.hid hB
  have k2' := Lib.hid k2
  have hby := Lib.hid (by_ref ((h'.out.still m0).still (Mod.refl [] wc).drew) hy'.out)
  have f10 : ∀ m : Fut (Mod [B + 1]) wc.drew, m.v.cell? ⟨B, 0, none⟩ = some (.int .i64 W) := fun m => ((k1.drew).keep m.of (by simp)).cell 0 rfl
  have f11 : ∀ m : Fut (Mod [B + 1]) wc.drew, m.v.cell? ⟨B, 1, none⟩ = some (.slice a1 l.length c1) := fun m => ((k1.drew).keep m.of (by simp)).cell 1 rfl
  clear hwc m0 hB k1 k2 h' hy'
  refine region_sched (G := Mod [B + 1]) [([0,1,2,3],4), ([5],6)] [] (by kernel_rfl) (by kernel_rfl) (by kernel_rfl) rfl (Mod.refl _) (fun _ _ _ h1 h2 => h1.trans h2 (fun b hb _ => hb)) ?_
  simp only [stages, pickO, nthO, headO, List.cons_append, List.nil_append]
  refine sched_step ?_
  repeat (go_big_quiet_step (fail))
  refine wpQuiet_nil ?_
  intro K hK
  rw [if_pos (by rfl)]
  go_simp
  refine hby.out.mono ?_
  rintro e w1 ⟨rfl, hm⟩
  try dsimp only
  have k3 := k2'.out.drew.keep hm (by simp)
  have k3' := Lib.hid k3
  have hm1 := Lib.hid (show Mod [] w w1 from hm0.out.drew.trans hm (by simp))
  refine hK.out _ _ hm.of0 ?_
  have z0 := k3.free 0
  have z1 := k3.free 1
  have c0 := k3.cell 0 rfl
  have c1 := k3.cell 1 rfl
  have kl := k3.lt
  clear hK K hm f10 f11 hby hm0 k2' k3
  refine sched_step ?_
  repeat (go_big_quiet_step (fail))
  refine wpQuiet_nil ?_
  intro K hK
  rw [if_pos (by rfl)]
  go_simp
  have hm2 : Mod [B + 1] w1 ((w1.setCell ⟨B + 1, 0, none⟩ (.int .i64 W)).setCell ⟨B + 1, 1, none⟩ (.int .i64 (byN n l))) := ((Mod.refl _ w1).setCell _ _ (by simp)).setCell _ _ (by simp)
  have k4 := (k3'.out.set 0 (.int .i64 W)).set 1 (.int .i64 (byN n l))
  have s0 := k4.cell 0 rfl
  have s1 := k4.cell 1 rfl
  have hfin := Lib.hid (show Mod [] w ((w1.setCell ⟨B + 1, 0, none⟩ (.int .i64 W)).setCell ⟨B + 1, 1, none⟩ (.int .i64 (byN n l))) from hm1.out.trans hm2 (fun b hb hlt => by
    have := hB'.out
    simp only [List.mem_singleton] at hb
    omega))
  refine hK.out _ _ hm2 ?_
  clear hK K hm2 k4 k3' z0 z1 c0 c1 kl hm1
  generalize (w1.setCell ⟨B + 1, 0, none⟩ (.int .i64 W)).setCell ⟨B + 1, 1, none⟩ (.int .i64 (byN n l)) = w2 at *
  refine sched_last ?_
  refine wpQuiet_nil ?_
  go_wp2_with fail
  exact bodyPost_ret (v := .agg #[.int .i64 W, .int .i64 (byN n l)]) (by simp [results, Try.results63, go_sem, s0, s1]) rfl ⟨rfl, hfin.out⟩
end Ratio
end Go.Proofs.Ytmkbinbggiocaaa
