/- A heap that the law made: its calls; the law's awake; of a nil heap there is nothing. -/
import Derived.Test.YtmkbinbggiocaaaHp10
set_option linter.unusedVariables false
set_option linter.unusedSimpArgs false
namespace Go.Proofs.Ytmkbinbggiocaaa
open Go.RowKit Arena
namespace Hp
open Go.Proofs.Ytmkbinbggiocaaa.Code
/-- The heap bh was made behind w0, and nothing that was there has changed. -/
structure On (w0 w : World) (bh : Nat) (H : Hp) : Prop where
  ex : ∃ F, HAt w bh H F ∧ Mod [] w0 w ∧ ∀ b ∈ F, w0.heap.size ≤ b
theorem On.mod {w0 w : World} {bh : Nat} {H : Hp} (h : On w0 w bh H) : Mod [] w0 w := by obtain ⟨F, _, m, _⟩ := h.ex; exact m
theorem On.still {w0 w w' : World} {bh : Nat} {H : Hp} (h : On w0 w bh H) (m : Mod [] w w') : On w0 w' bh H := by
  obtain ⟨F, h1, m1, h2⟩ := h.ex
  exact ⟨F, h1.still m, m1.trans m (by simp), h2⟩
theorem On.left {w0 w w' : World} {bh : Nat} {H' : Hp} {F : List Nat} (m1 : Mod [] w0 w) (hn : ∀ b ∈ F, w0.heap.size ≤ b) (hl : HLeft w w' bh H' F) : On w0 w' bh H' := by
  obtain ⟨F', h1, m, h2⟩ := hl.out
  refine ⟨F', h1, m1.trans m (fun b hb hlt => by have := hn b hb; omega), fun b hb => ?_⟩
  rcases h2 b hb with h | h
  · exact hn b h
  · exact Nat.le_trans m1.size h
theorem new_on (n : Int) (w : World) : Calls Try.prog 71 #[.int .i64 n] w fun e w' => ∃ bh, e = .returned (.pointer (some ⟨bh, 0, none⟩)) ∧ On w w' bh (newH (min (max n 0) 4096).toNat) := by
  refine (new_any n w).mono ?_
  rintro e w' ⟨bh, F, rfl, h1, h2, h3⟩
  exact ⟨bh, rfl, ⟨F, h1, h2, h3⟩⟩
theorem push_on {w0 w : World} {bh : Nat} {H H' : Hp} (h : On w0 w bh H) (v key : Int) (ok : Bool) (hT : pushT H v key = some (H', ok)) (hl0 : 0 ≤ H.links) (hl1 : H.links < 4611686018427387904) :
    Calls Try.prog 72 #[.pointer (some ⟨bh, 0, none⟩), .int .i64 v, .int .i64 key] w fun e w' => e = .returned (.bool ok) ∧ On w0 w' bh H' := by
  obtain ⟨F, h1, m1, h2⟩ := h.ex
  refine (push_any h1 v key ok hT hl0 hl1).mono ?_
  rintro e w' ⟨rfl, hl⟩
  exact ⟨rfl, On.left m1 h2 hl⟩
theorem raise_on {w0 w : World} {bh : Nat} {H H' : Hp} (h : On w0 w bh H) (v key : Int) (ok : Bool) (hT : raiseT H v key = some (H', ok)) (hl0 : 0 ≤ H.links) (hl1 : H.links < 4611686018427387904) :
    Calls Try.prog 73 #[.pointer (some ⟨bh, 0, none⟩), .int .i64 v, .int .i64 key] w fun e w' => e = .returned (.bool ok) ∧ On w0 w' bh H' := by
  obtain ⟨F, h1, m1, h2⟩ := h.ex
  refine (raise_any h1 v key ok hT hl0 hl1).mono ?_
  rintro e w' ⟨rfl, hl⟩
  exact ⟨rfl, On.left m1 h2 hl⟩
theorem drop_on {w0 w : World} {bh : Nat} {H H' : Hp} (fuel : Nat) (h : On w0 w bh H) (v : Int) (ok : Bool) (hT : dropT fuel H v = some (H', ok)) (hl0 : 0 ≤ H.links) (hl1 : H.links + 2 * fuel < 2305843009213693952) (hfu : fuel ≤ 1048576) :
    Calls Try.prog 84 #[.pointer (some ⟨bh, 0, none⟩), .int .i64 v] w fun e w' => e = .returned (.bool ok) ∧ On w0 w' bh H' := by
  obtain ⟨F, h1, m1, h2⟩ := h.ex
  refine (drop_any fuel h1 v ok hT hl0 hl1 hfu (fun H1 hp => ⟨(part_same hp).1, (part_same hp).2.1⟩)).mono ?_
  rintro e w' ⟨rfl, hh, hm⟩
  exact ⟨rfl, On.left m1 h2 (.of hh hm)⟩
theorem pop_on {w0 w : World} {bh : Nat} {H H' : Hp} (fuel : Nat) (h : On w0 w bh H) (v k : Int) (ok : Bool) (hT : popT fuel H = some (H', v, k, ok)) (hl0 : 0 ≤ H.links) (hl1 : H.links + 2 * fuel < 2305843009213693952) (hfu : fuel ≤ 1048576) :
    Calls Try.prog 74 #[.pointer (some ⟨bh, 0, none⟩)] w fun e w' => e = .returned (.tuple #[.int .i64 v, .int .i64 k, .bool ok]) ∧ On w0 w' bh H' := by
  obtain ⟨F, h1, m1, h2⟩ := h.ex
  refine (pop_any fuel h1 v k ok hT hl0 hl1 hfu).mono ?_
  rintro e w' ⟨rfl, hh, hm⟩
  exact ⟨rfl, On.left m1 h2 (.of hh hm)⟩
theorem len_on {w0 w : World} {bh : Nat} {H : Hp} (h : On w0 w bh H) : Calls Try.prog 75 #[.pointer (some ⟨bh, 0, none⟩)] w fun e w' => e = .returned (.int .i64 H.A.count) ∧ w' = w := by
  obtain ⟨F, h1, m1, h2⟩ := h.ex
  exact len_any h1
def aw1 : Hp := ((pushT (newH 3) 0 2).getD (newH 3, false)).1
def aw2 : Hp := ((pushT aw1 2 5).getD (newH 3, false)).1
def aw3 : Hp := ((pushT aw2 1 4).getD (newH 3, false)).1
def aw4 : Hp := ((raiseT aw3 1 5).getD (newH 3, false)).1
def aw5 : Hp := ((popT 3 aw4).getD (newH 3, 0, 0, false)).1
theorem aw_1 : pushT (newH 3) 0 2 = some (aw1, true) := by kernel_rfl
theorem aw_2 : pushT aw1 2 5 = some (aw2, true) := by kernel_rfl
theorem aw_3 : pushT aw2 1 4 = some (aw3, true) := by kernel_rfl
theorem aw_4 : raiseT aw3 1 5 = some (aw4, true) := by kernel_rfl
theorem aw_5 : popT 3 aw4 = some (aw5, 1, 5, true) := by kernel_rfl
theorem aw_c : aw5.A.count = 2 := by kernel_rfl
theorem aw_l : (newH 3).links = 0 ∧ aw1.links = 0 ∧ aw2.links = 1 ∧ aw3.links = 2 ∧ aw4.links = 3 := by
  refine ⟨by kernel_rfl, by kernel_rfl, by kernel_rfl, by kernel_rfl, by kernel_rfl⟩
set_option maxRecDepth 100000 in
set_option maxHeartbeats 4000000 in
theorem awake12 (w : World) : Calls Try.prog 70 #[] w fun e w' => e = .returned (.bool true) ∧ Mod [] w w' := by
  obtain ⟨z0, z1, z2, z3, z4⟩ := aw_l
  go_enter Try.func70, Try.ntmps70
  go_wp2_with fail
  refine (new_on 3 w).mono ?_
  rintro e w1 ⟨bh, rfl, hO⟩
  have e3 : (min (max (3 : Int) 0) 4096).toNat = 3 := by decide +kernel
  rw [e3] at hO
  try dsimp only
  have hp1 := Lib.hid (push_on hO 0 2 true aw_1 (by omega) (by omega))
  clear hO e3
  go_wp2_with fail
  refine hp1.out.mono ?_
  rintro e w2 ⟨rfl, hO⟩
  try dsimp only
  have hp2 := Lib.hid (push_on hO 2 5 true aw_2 (by omega) (by omega))
  clear hO hp1
  go_wp2_with fail
  refine hp2.out.mono ?_
  rintro e w3 ⟨rfl, hO⟩
  try dsimp only
  have hp3 := Lib.hid (push_on hO 1 4 true aw_3 (by omega) (by omega))
  clear hO hp2
  go_wp2_with fail
  refine hp3.out.mono ?_
  rintro e w4 ⟨rfl, hO⟩
  try dsimp only
  have hp4 := Lib.hid (raise_on hO 1 5 true aw_4 (by omega) (by omega))
  clear hO hp3
  go_wp2_with fail
  refine hp4.out.mono ?_
  rintro e w5 ⟨rfl, hO⟩
  try dsimp only
  have hp5 := Lib.hid (pop_on 3 hO 1 5 true aw_5 (by omega) (by omega) (by omega))
  clear hO hp4
  go_wp2_with fail
  refine hp5.out.mono ?_
  rintro e w6 ⟨rfl, hO⟩
  try dsimp only
  have hl := Lib.hid (len_on hO)
  rw [aw_c] at hl
  have hm := Lib.hid hO.mod
  clear hO hp5
  go_wp2_with fail
  refine hl.out.mono ?_
  rintro e w7 ⟨rfl, rfl⟩
  try dsimp only
  go_wp2_with fail
  go_ret
  exact ⟨rfl, hm.out⟩
end Hp
end Go.Proofs.Ytmkbinbggiocaaa
