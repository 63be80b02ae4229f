/- The arena's own trial: it gives cells at all. -/
import Derived.Test.YtmkbinbggiocaaaLive
import Derived.Test.YtmkbinbggiocaaaInts
set_option linter.unusedVariables false
set_option linter.unusedSimpArgs false
namespace Go.Proofs.Ytmkbinbggiocaaa
open Go.RowKit Arena
namespace ArI
/-- An arena that was made since w0: its blocks are new. -/
structure Own (w0 w : World) (ba : Nat) (A : Ar Int) : Prop where
  mk ::
  out : ∃ F, At w ba A F ∧ Mod [] w0 w ∧ ∀ b ∈ F, w0.heap.size ≤ b
theorem Left.own {w0 w w' : World} {ba : Nat} {A' : Ar Int} {F : List Nat} (h : Left w w' ba A' F) (m : Mod [] w0 w) (hF : ∀ b ∈ F, w0.heap.size ≤ b) : Own w0 w' ba A' := by
  obtain ⟨F', hat, hm, hs⟩ := h.out
  refine ⟨F', hat, m.trans hm (fun b hb hlt => absurd (hF b hb) (by omega)), fun b hb => ?_⟩
  rcases hs b hb with h | h
  · exact hF b h
  · exact Nat.le_trans m.size h
theorem Own.mod {w0 w : World} {ba : Nat} {A : Ar Int} (h : Own w0 w ba A) : Mod [] w0 w := by
  obtain ⟨_, _, hm, _⟩ := h.out
  exact hm
theorem give_own {w0 w : World} {ba : Nat} {A : Ar Int} (h : Own w0 w ba A) (x : Int) :
    Calls Try.prog 18 #[.pointer (some ⟨ba, 0, none⟩), .int .i64 x] w fun e w' => e = .returned (.tuple #[.int .i64 (((A.give x).2.getD 0 : Nat) : Int), .bool (A.give x).2.isSome]) ∧ Own w0 w' ba (A.give x).1 := by
  obtain ⟨F, ha, hm, hF⟩ := h.out
  cases hf : A.free with
  | cons i l =>
    refine (ArI.give_old ha x i l hf).mono ?_
    rintro e w' ⟨rfl, hl⟩
    exact ⟨by simp [Ar.give, hf], hl.own hm hF⟩
  | nil =>
    by_cases hr : A.cells.length < A.room
    · refine (ArI.give_new ha x hf hr).mono ?_
      rintro e w' ⟨rfl, hl⟩
      exact ⟨by simp [Ar.give, hf, hr], hl.own hm hF⟩
    · refine (ArI.give_full ha x hf (by omega)).mono ?_
      rintro e w' ⟨rfl, hl⟩
      refine ⟨by simp [Ar.give, hf, hr], ?_⟩
      simpa [Ar.give, hf, hr] using hl.own hm hF
theorem free_own {w0 w : World} {ba : Nat} {A : Ar Int} (h : Own w0 w ba A) (n y : Int) (hg : A.get n = some y) :
    Calls Try.prog 20 #[.pointer (some ⟨ba, 0, none⟩), .int .i64 n] w fun e w' => e = .returned (.tuple #[.int .i64 y, .bool true]) ∧ Own w0 w' ba (A.drop n.toNat) := by
  obtain ⟨F, ha, hm, hF⟩ := h.out
  refine (ArI.free_some ha n y hg).mono ?_
  rintro e w' ⟨rfl, hl⟩
  exact ⟨rfl, hl.own hm hF⟩
theorem len_own {w0 w : World} {ba : Nat} {A : Ar Int} (h : Own w0 w ba A) :
    Calls Try.prog 27 #[.pointer (some ⟨ba, 0, none⟩)] w fun e w' => e = .returned (.int .i64 A.count) ∧ w = w' := by
  obtain ⟨F, ha, _⟩ := h.out
  exact ArI.len_at ha
set_option maxHeartbeats 1000000 in
theorem awake_true (w : World) : Calls Try.prog 15 #[] w fun e w' => e = .returned (.bool true) ∧ Mod [] w w' := by
  go_enter Try.func15, Try.ntmps15
  go_wp2_with fail
  refine (new_at 2 w).mono ?_
  rintro e w1 ⟨rfl, h1, m1⟩
  dsimp only
  have H : Own w w1 w.heap.size ⟨2, [], []⟩ := ⟨[w.heap.size], h1, m1, by simp⟩
  clear h1 m1
  generalize w.heap.size = ba at *
  go_wp2_with fail
  refine (give_own H 7).mono ?_
  rintro e w2 ⟨rfl, H2⟩
  dsimp only
  go_wp2_with fail
  refine (give_own H2 8).mono ?_
  rintro e w3 ⟨rfl, H3⟩
  dsimp only
  go_wp2_with fail
  refine (give_own H3 9).mono ?_
  rintro e w4 ⟨rfl, H4⟩
  dsimp only
  go_wp2_with fail
  refine (free_own H4 0 7 rfl).mono ?_
  rintro e w5 ⟨rfl, H5⟩
  dsimp only
  have hm := H5.mod
  go_wp2_with (go_at_call 27; refine (len_own H5).mono ?_; rintro e w6 ⟨rfl, rfl⟩)
  go_ret
  exact ⟨rfl, hm⟩
end ArI
end Go.Proofs.Ytmkbinbggiocaaa
