/- The reader's methods of nil. -/
import Derived.Test.YtmkbinbggiocaaaDo2
set_option linter.unusedVariables false
set_option linter.unusedSimpArgs false
namespace Go.Proofs.Ytmkbinbggiocaaa
open Go.RowKit
namespace Code
set_option maxHeartbeats 400000 in
theorem noneNat (w : World) : Calls Try.prog 48 #[.pointer none] w fun e w' => e = .returned (.int .u64 0) ∧ w = w' := by
  go_enter Try.func48, Try.ntmps48
  go_wp2_with fail
  go_ret
  exact ⟨rfl, rfl⟩
set_option maxHeartbeats 400000 in
theorem noneCount (w : World) : Calls Try.prog 43 #[.pointer none] w fun e w' => e = .returned (.int .i64 0) ∧ w = w' := by
  go_enter Try.func43, Try.ntmps43
  go_wp2_with fail
  go_ret
  exact ⟨rfl, rfl⟩
set_option maxHeartbeats 400000 in
theorem noneAt (w : World) : Calls Try.prog 49 #[.pointer none] w fun e w' => e = .returned (.int .i64 0) ∧ w = w' := by
  go_enter Try.func49, Try.ntmps49
  go_wp2_with fail
  go_ret
  exact ⟨rfl, rfl⟩
set_option maxHeartbeats 400000 in
theorem noneEnd (w : World) : Calls Try.prog 47 #[.pointer none] w fun e w' => e = .returned (.int .i64 17) ∧ w = w' := by
  go_enter Try.func47, Try.ntmps47
  go_wp2_with fail
  go_ret
  exact ⟨rfl, rfl⟩
set_option maxHeartbeats 400000 in
theorem noneInt (w : World) : Calls Try.prog 44 #[.pointer none] w fun e w' => e = .returned (.int .i64 0) ∧ w = w' := by
  have h0 : bits .and .u64 0 1 = 0 := by decide
  have h1 : bits .xor .i64 0 0 = 0 := by decide
  go_enter Try.func44, Try.ntmps44
  go_wp2_with fail
  refine (noneNat w).mono ?_
  rintro e w1 ⟨rfl, rfl⟩
  dsimp only
  go_wp2_with fail
  go_ret
  exact ⟨by rfl, rfl⟩
set_option maxHeartbeats 2000000 in
theorem noneDo (w : World) (K N : Int) (s : ByteArray) (hK : 0 ≤ K ∧ K < 3) : Calls Try.prog 50 #[.pointer none, .agg #[.int .i64 K, .int .i64 N, .string s]] w (MadeOut 3 1 1 [.int .i64 0] w) := by
  by_cases k0 : K = 0
  · subst k0
    go_enter Try.func50, Try.ntmps50
    go_wp2_with fail
    refine (noneNat _).mono ?_
    rintro e w1 ⟨rfl, rfl⟩
    try dsimp only
    go_wp2_with fail
    go_ret
    refine ⟨_, _, rfl, ?_⟩
    have h := (made_lit (w.alloc _) 3 [.int .i64 0] (by simp)).before ((Mod.refl [] w).alloc (.cells #[.int .i64 0, .int .i64 N, .string s] 78))
    simp only [World.size_alloc] at h
    exact h
  by_cases k1 : K = 1
  · subst k1
    go_enter Try.func50, Try.ntmps50
    go_wp2_with fail
    refine (noneInt _).mono ?_
    rintro e w1 ⟨rfl, rfl⟩
    try dsimp only
    go_wp2_with fail
    go_ret
    refine ⟨_, _, rfl, ?_⟩
    have h := (made_lit (w.alloc _) 3 [.int .i64 0] (by simp)).before ((Mod.refl [] w).alloc (.cells #[.int .i64 1, .int .i64 N, .string s] 78))
    simp only [World.size_alloc] at h
    exact h
  by_cases k2 : K = 2
  · subst k2
    go_enter Try.func50, Try.ntmps50
    go_wp2_with fail
    refine (noneCount _).mono ?_
    rintro e w1 ⟨rfl, rfl⟩
    try dsimp only
    go_wp2_with fail
    go_ret
    refine ⟨_, _, rfl, ?_⟩
    have h := (made_lit (w.alloc _) 3 [.int .i64 0] (by simp)).before ((Mod.refl [] w).alloc (.cells #[.int .i64 2, .int .i64 N, .string s] 78))
    simp only [World.size_alloc] at h
    exact h
  omega
end Code
end Go.Proofs.Ytmkbinbggiocaaa
