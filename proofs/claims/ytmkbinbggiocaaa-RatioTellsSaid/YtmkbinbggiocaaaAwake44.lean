/- The law's awake: the program tells how thin cuts are at all. -/
import Derived.Test.YtmkbinbggiocaaaCmpAll
set_option linter.unusedVariables false
set_option linter.unusedSimpArgs false
namespace Go.Proofs.Ytmkbinbggiocaaa
open Go.RowKit
namespace Ratio
open Go.Proofs.Ytmkbinbggiocaaa.Code Go.Proofs.Ytmkbinbggiocaaa.Fl
theorem rd_one (w : World) (b : Nat) (x : Int) (t : TypeId) (h : Has w b [.int .i64 x] t) : Rd w 1 (.slice (some ⟨b, 0, none⟩) 1 1) [x].length (vi64 [x]) := by
  refine ⟨rfl, .inr ⟨_, _, rfl, by simp, by simp [maxLen], fun j u hu => ?_⟩⟩
  rw [Addr.add_lit]
  exact h.cell _ (by simpa [vi64] using hu)
theorem may_two : may 4 6 [1] := (mayB_iff _ _ _).1 (by decide +kernel)
theorem may_nil : ¬ may 4 0 [] := fun h => by
  have := (mayB_iff _ _ _).2 h
  revert this
  decide +kernel
theorem cmp_awake : cmpP 4 1 [1] 1 [1, 2] = 1 := by decide +kernel
theorem quo_two : fquo (some (cv 6)) (some (cv (byN 4 [1]))) = some 4611686018427387904 := by decide +kernel
theorem quo_inf : fplain (fquo (some (cv 1)) (some (cv 0))) = some 9218868437227405312 := by decide +kernel
set_option maxRecDepth 100000 in
set_option maxHeartbeats 4000000 in
theorem awake44 (w : World) : Calls Try.prog 53 #[] w fun e w' => e = .returned (.bool true) ∧ Mod [] w w' := by
  have hs2 : (FloatKind.f64.format.order 4611686018427387904 4611686018427387904 == some .eq) = true := by decide +kernel
  go_enter Try.func53, Try.ntmps53
  go_wp2_with fail
  refine (of_yes (rd_one _ _ 1 3 (Has.new w [_] _)) may_two (by omega)).mono ?_
  rintro e w1 ⟨q, rfl, hq, hm⟩
  rw [quo_two] at hq
  obtain ⟨rfl, _⟩ := fl_some hq
  try dsimp only
  have hm1 := Lib.hid (show Mod [] w w1 from ((Mod.refl [] w).alloc _).trans hm (by simp))
  clear hm hq
  go_wp2_with fail
  refine (of_no (l := []) (Rd.nil _ _) may_nil).mono ?_
  rintro e w2 ⟨q, rfl, hq, hm⟩
  try dsimp only
  have hm2 := Lib.hid (hm1.out.trans hm (by simp))
  clear hm hm1
  go_wp2_with fail
  refine (kind_nan _ _ hq).mono ?_
  rintro e w3 ⟨rfl, rfl⟩
  try dsimp only
  clear hq
  go_wp2_with fail
  refine (cmp_any (l1 := [1]) (l2 := [1, 2]) ((rd_one _ _ 1 3 (Has.new w3 [_] _)).still ((Mod.refl [] _).alloc _)) (by
    have := rd_two _ _ 1 2 3 (Has.new (w3.alloc (.cells #[.int .i64 1] 3)) [_, _] _)
    rw [World.size_alloc] at this
    exact this) (by omega) (by omega)).mono ?_
  rintro e w4 ⟨rfl, hm⟩
  rw [cmp_awake]
  try dsimp only
  have hm4 := Lib.hid (show Mod [] w w4 from ((hm2.out.alloc _).alloc _).trans hm (by simp))
  clear hm hm2
  go_wp2_with fail
  refine (share_any _ _ _).mono ?_
  rintro e w5 ⟨q, rfl, hq, hm⟩
  rw [quo_inf] at hq
  obtain ⟨rfl, _⟩ := fl_some hq
  try dsimp only
  have hm5 := Lib.hid (hm4.out.trans hm (by simp))
  clear hm hm4 hq
  go_wp2_with fail
  refine (kind_inf _).mono ?_
  rintro e w6 ⟨rfl, rfl⟩
  try dsimp only
  go_wp2_with fail
  go_ret
  exact ⟨rfl, hm5.out⟩
end Ratio
end Go.Proofs.Ytmkbinbggiocaaa
