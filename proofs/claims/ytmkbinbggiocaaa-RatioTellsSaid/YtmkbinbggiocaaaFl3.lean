/- Floats: the walks of fbit's functions, of the reference's kind. -/
import Derived.Test.YtmkbinbggiocaaaFl2
import Derived.Laws.LoneSync
set_option linter.unusedVariables false
set_option linter.unusedSimpArgs false
namespace Go.Proofs.Ytmkbinbggiocaaa
open Go.RowKit
namespace Fl
theorem run_f64bits (w : World) (b : Nat) : (callFunc 114 #[.float .f64 b]).run Try.prog w = .ok (.value (.int .u64 b)) w := by
  rw [run_callFunc_extern Try.func114 (by kernel_rfl) (by kernel_rfl) (by kernel_rfl) (show Extern.find _ = some Extern.MathFloatBits.float64bits by kernel_rfl)]
  rfl
theorem run_f64of (w : World) (n : Int) : (callFunc 111 #[.int .u64 n]).run Try.prog w = .ok (.value (.float .f64 n.toNat)) w := by
  rw [run_callFunc_extern Try.func111 (by kernel_rfl) (by kernel_rfl) (by kernel_rfl) (show Extern.find _ = some Extern.MathFloatBits.float64frombits by kernel_rfl)]
  rfl
theorem of_any (w : World) (n : Int) : Calls Try.prog 54 #[.int .u64 n] w fun e w' => e = .returned (.float .f64 n.toNat) ∧ w' = w := by
  have kf := run_f64of
  go_enter Try.func54, Try.ntmps54
  go_wp2
  go_ret
  exact ⟨rfl, rfl⟩
theorem bits_any (w : World) (b : Nat) : Calls Try.prog 112 #[.float .f64 b] w fun e w' => e = .returned (.int .u64 (bitsF (fl b))) ∧ w' = w := by
  have kb := run_f64bits
  have hs := self_ne b
  go_enter Try.func112, Try.ntmps112
  cases h : fl b with
  | none =>
    rw [h] at hs
    simp only [Option.isNone_none] at hs
    go_wp2
    go_ret
    exact ⟨rfl, rfl⟩
  | some c =>
    obtain ⟨rfl, _⟩ := fl_some h
    rw [h] at hs
    simp only [Option.isNone_some] at hs
    go_wp2
    go_ret
    exact ⟨rfl, rfl⟩
theorem nan44 (w : World) : Calls Try.prog 56 #[] w fun e w' => e = .returned (.float .f64 9221120237041090560) ∧ w' = w := by
  have kf := run_f64of
  go_enter Try.func56, Try.ntmps56
  go_wp2
  go_ret
  exact ⟨rfl, rfl⟩
theorem nan_math (w : World) : Calls Try.prog 118 #[] w fun e w' => e = .returned (.float .f64 9221120237041090561) ∧ w' = w := by
  have kf := run_f64of
  go_enter Try.func118, Try.ntmps118
  go_wp2
  go_ret
  exact ⟨rfl, rfl⟩
theorem same44 (w : World) (a b : Nat) : Calls Try.prog 58 #[.float .f64 a, .float .f64 b] w fun e w' => e = .returned (.bool (decide (bitsF (fl a) = bitsF (fl b)))) ∧ w' = w := by
  go_enter Try.func58, Try.ntmps58
  go_wp2_with fail
  refine (bits_any _ _).mono ?_
  rintro e w1 ⟨rfl, rfl⟩
  try dsimp only
  go_wp2_with fail
  refine (bits_any _ _).mono ?_
  rintro e w1 ⟨rfl, rfl⟩
  try dsimp only
  go_wp2_with fail
  go_ret
  refine ⟨?_, rfl⟩
  by_cases h : bitsF (fl a) = bitsF (fl b) <;> simp [h]
  all_goals omega
theorem plain_any (w : World) (b : Nat) : Calls Try.prog 113 #[.float .f64 b] w fun e w' => ∃ r, e = .returned (.float .f64 r) ∧ fl r = fplain (fl b) ∧ w' = w := by
  have hz := zero_eq b
  go_enter Try.func113, Try.ntmps113
  by_cases h : b % 9223372036854775808 = 0
  · rw [decide_eq_true h] at hz
    go_wp2
    go_ret
    refine ⟨0, rfl, ?_, rfl⟩
    have e1 : fl b = some b := by rw [fl_eq, if_neg (by omega)]
    have e2 : fl 0 = some 0 := by decide +kernel
    rw [e1, e2]
    simp [fplain, h]
  · rw [decide_eq_false h] at hz
    go_wp2
    go_ret
    refine ⟨b, rfl, ?_, rfl⟩
    cases h2 : fl b with
    | none => rfl
    | some c =>
      obtain ⟨rfl, _⟩ := fl_some h2
      simp [fplain, h]
theorem share_any (w : World) (a b : Int) : Calls Try.prog 59 #[.int .i64 a, .int .i64 b] w fun e w' => ∃ r, e = .returned (.float .f64 r) ∧ fl r = fplain (fquo (some (cv a)) (some (cv b))) ∧ Mod [] w w' := by
  obtain ⟨q, w1, hrun, hq, _, hw⟩ := run_quo (P := Try.prog) w 81 (cv a) (cv b)
  rw [fl_cv, fl_cv] at hq
  have hm : Mod [] w w1 := by
    rcases hw with rfl | rfl
    · exact Mod.refl _ _
    · exact (Mod.refl _ _).drew
  have hm' := Lib.hid hm
  have hq' := Lib.hid hq
  clear hw hm hq
  unfold cv at hrun
  go_enter Try.func59, Try.ntmps59
  go_wp2_with fail
  refine (plain_any _ _).mono ?_
  rintro e w2 ⟨r, rfl, hr, rfl⟩
  try dsimp only
  have hr' := Lib.hid hr
  clear hr
  go_wp2_with fail
  go_ret
  exact ⟨r, rfl, by rw [hr'.out, hq'.out], hm'.out⟩
end Fl
end Go.Proofs.Ytmkbinbggiocaaa
