/- The statements' own small test of coded numbers. -/
import Derived.Test.YtmkbinbggiocaaaReader2
import Derived.Test.YtmkbinbggiocaaaConv
set_option linter.unusedVariables false
set_option linter.unusedSimpArgs false
namespace Go.Proofs.Ytmkbinbggiocaaa
open Go.RowKit
namespace Code
theorem lit300 : ([] : List Int) ++ natB 300 = [172, 2] := by rw [natB_big (by omega), natB_small (by omega)]; rfl
theorem lit1 : [172, 2] ++ natB (signN (-1)) = [172, 2, 1] := by rw [show signN (-1) = 1 from by decide, natB_small (by omega)]; rfl
theorem read1 : rNat [172, 2, 1] 0 false = (300, 2, false) := by decide
theorem read2 : rNat [172, 2, 1] 2 false = (1, 3, false) := by decide
theorem bits09 : bitsOk 10 [0, 9] = true ∧ ([] : List Int) ++ bitsB (wideN 10) [0, 9] = [1, 2] := by decide
theorem lit_bytes : ∀ x ∈ ([172, 2, 1] : List Int), 0 ≤ x ∧ x < 256 := by decide
set_option maxHeartbeats 2000000 in
theorem awake_true (w : World) : Calls Try.prog 31 #[] w fun e w' => e = .returned (.bool true) ∧ Mod [] w w' := by
  have k1 : ∀ W, Calls Try.prog 32 #[.slice none 0 0, .int .u64 300] W (MadeOut 5 1 2 (u8s [172, 2]) W) := fun W => by
    have h := nat_any (w := W) (vb := .slice none 0 0) (bs := []) 300 (by omega) (Rd.nil W 1) (by simp)
    rw [lit300] at h; exact h
  have k2 : ∀ W v, Rd W 1 v 2 (u8s [172, 2]) → Calls Try.prog 34 #[v, .int .i64 (-1)] W (MadeOut 5 1 3 (u8s [172, 2, 1]) W) := fun W v hv => by
    have h := int_any (w := W) (vb := v) (bs := [172, 2]) (-1) (by omega) (by omega) hv (by simp)
    rw [lit1] at h; exact h
  have k3 : ∀ W v, Rd W 1 v 3 (u8s [172, 2, 1]) → _ := fun W v hv => new_any (w := W) (vb := v) (bs := [172, 2, 1]) hv (by simp)
  have k4 : ∀ W v, Rd W 1 v 2 (vi64 [0, 9]) → Calls Try.prog 36 #[.slice none 0 0, .int .i64 10, v] W fun e w' => ∃ a c, e = .returned (.tuple #[.slice a 2 c, .bool true]) ∧ Made W w' 5 1 a 2 c (u8s [1, 2]) := fun W v hv => by
    refine (bits_any (w := W) (vb := .slice none 0 0) (vl := v) (bs := []) 10 [0, 9] (Rd.nil W 1) (by simp) hv).mono fun e w' h => ?_
    simp only [BitsOut, bits09.1, if_true] at h
    rw [bits09.2] at h
    exact h
  go_enter Try.func31, Try.ntmps31
  go_wp2_with fail
  refine (k1 _).mono ?_
  rintro e w1 ⟨a1, c1, rfl, h1⟩
  dsimp only
  go_wp2_with fail
  refine (k2 _ _ (Rd.own h1.own)).mono ?_
  rintro e w2 ⟨a2, c2, rfl, h2⟩
  dsimp only
  go_wp2_with fail
  refine (k3 _ _ (Rd.own h2.own)).mono ?_
  rintro e w3 ⟨r, a3, c3, rfl, hR, h3, hr3, _⟩
  dsimp only
  go_wp2_with fail
  have hlit := made_lit w3 3 [.int .i64 0, .int .i64 9] (by simp)
  refine (k4 _ _ (Rd.own hlit.own)).mono ?_
  rintro e w4 ⟨a4, c4, rfl, h4⟩
  dsimp only
  have m34 := hlit.mod.trans h4.mod (by simp)
  have hR4 := hR.still m34
  go_wp2_with fail
  refine (rdNat hR4 lit_bytes).mono ?_
  intro e w5 h5
  unfold RNatOut at h5
  rw [read1] at h5
  obtain ⟨rfl, hR5, m5⟩ := h5
  dsimp only
  go_wp2_with fail
  refine (rdInt hR5 lit_bytes).mono ?_
  intro e w6 h6
  unfold RNatOut at h6
  rw [read2] at h6
  obtain ⟨rfl, hR6, m6⟩ := h6
  dsimp only
  have mr : r < w3.heap.size := hR.has.lt
  have n4 : ∀ g, (Value.slice a4 2 c4).ownBlock = some g → g ∉ [r] := fun g hg hm => by
    have h1 := h4.new g hg
    have h2 := hlit.mod.size
    simp only [List.mem_singleton] at hm
    omega
  have r4 := ((Rd.own h4.own).keep m5 n4).keep m6 n4
  have hw5 : Mod [] w w6 := ((((h1.mod.trans h2.mod (by simp)).trans h3 (by simp)).trans m34 (by simp)).trans m5 (fun b hb hlt => by have := h1.mod.size; have := h2.mod.size; simp only [List.mem_singleton] at hb; omega)).trans m6 (fun b hb hlt => by have := h1.mod.size; have := h2.mod.size; simp only [List.mem_singleton] at hb; omega)
  have q7 := Lib.hid (rdEnd hR6)
  have hR6' := Lib.hid r4
  have hw5' := Lib.hid hw5
  have u1 : unsign 1 = -1 := by decide
  clear hR hR4 hR5 hR6 hlit h1 h2 h3 h4 m34 m5 m6 mr n4 r4 hw5 k1 k2 k3 k4 hr3
  go_wp2_with fail
  refine q7.out.mono ?_
  rintro e w7 ⟨rfl, m7⟩
  have e7 : rEnd [172, 2, 1] 3 false = 0 := by decide
  rw [e7]
  dsimp only
  have hc := conv_rd (bs := [1, 2]) (hR6'.out.still m7)
  have hs : strOfNums [1, 2] = ⟨#[1, 2]⟩ := by decide
  rw [hs] at hc
  have hw7 := Lib.hid (hw5'.out.trans m7 (by simp))
  clear e7 hs m7
  go_wp2_with fail
  go_ret
  exact ⟨rfl, hw7.out⟩
end Code
end Go.Proofs.Ytmkbinbggiocaaa
