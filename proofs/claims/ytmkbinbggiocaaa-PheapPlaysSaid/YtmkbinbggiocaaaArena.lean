/- What the calls on an arena of whole numbers do: walked through once, told of the plain arena. -/
import Derived.Test.YtmkbinbggiocaaaKit
import Derived.Test.YtmkbinbggiocaaaFlat
import Derived.Test.YtmkbinbggiocaaaArenaLaw
set_option linter.unusedVariables false
set_option linter.unusedSimpArgs false
namespace Go.Proofs.Ytmkbinbggiocaaa
open Go.RowKit Arena
namespace ArI

def encC (c : RC Int) : List Value := [.int .i64 c.1, .bool c.2.1, .int .i64 c.2.2]
theorem encC_len (c : RC Int) : (encC c).length = 3 := rfl

/-- The pointer to block ba is an arena that is A; its cells lie in the blocks of F, which are ba and, where there is one, the row's. -/
structure At (w : World) (ba : Nat) (A : Ar Int) (F : List Nat) : Prop where
  mk ::
  out : ∃ (sv : Value) (C : List (RC Int)) (f : Int), Fits 0 A C f ∧ Has w ba [.int .i64 A.room, sv, .int .i64 f, .int .i64 A.count] 147 ∧
    w.ownsRow 0 150 3 sv C.length (flat encC C) ∧ sv.ownBlock ≠ some ba ∧ F = ba :: sv.ownBlock.toList

theorem row_cases {w : World} {sv : Value} {C : List (RC Int)} (h : w.ownsRow 0 150 3 sv C.length (flat encC C)) :
    (sv = .slice none 0 0 ∧ C = []) ∨ ∃ g cap, sv = .slice (some ⟨g, 0, none⟩) C.length cap := by
  rcases h.2 with ⟨rfl, h0⟩ | ⟨g, cap, cur, rfl, _⟩
  · exact .inl ⟨rfl, List.eq_nil_of_length_eq_zero h0⟩
  · exact .inr ⟨g, cap, rfl⟩
theorem row_cell {w : World} {C : List (RC Int)} {g cap : Nat} (h : w.ownsRow 0 150 3 (.slice (some ⟨g, 0, none⟩) C.length cap) C.length (flat encC C)) (i : Nat) {c : RC Int} (hc : C[i]? = some c) :
    w.cell? ⟨g, i * 3, none⟩ = some (.int .i64 c.1) ∧ w.cell? ⟨g, i * 3 + 1, none⟩ = some (.bool c.2.1) ∧ w.cell? ⟨g, i * 3 + 2, none⟩ = some (.int .i64 c.2.2) := by
  obtain ⟨hi, he⟩ := List.getElem?_eq_some_iff.1 hc
  have h0 := h.cellAt (i * 3) (by omega)
  have h1 := h.cellAt (i * 3 + 1) (by omega)
  have h2 := h.cellAt (i * 3 + 2) (by omega)
  have k0 := flat_get encC_len C i 0 hi (by omega)
  have k1 := flat_get encC_len C i 1 hi (by omega)
  have k2 := flat_get encC_len C i 2 hi (by omega)
  rw [he] at k0 k1 k2
  rw [Nat.add_zero] at k0
  exact ⟨by rw [h0, k0]; rfl, by rw [h1, k1]; rfl, by rw [h2, k2]; rfl⟩

/-! ### cell -/
set_option maxHeartbeats 400000 in
theorem cell_nil (n : Int) (w : World) :
    Calls Try.prog 95 #[.pointer none, .int .i64 n] w fun e w' => e = .returned (.pointer none) ∧ w = w' := by
  go_enter Try.func95, Try.ntmps95
  go_wp2
  go_ret
  exact ⟨rfl, rfl⟩
set_option maxHeartbeats 400000 in
theorem cell_out (ba len cap : Nat) (a : Option Addr) (n : Int) (w : World) (h : n < 0 ∨ (len : Int) ≤ n)
    (hc : w.cell? ⟨ba, 1, none⟩ = some (.slice a len cap)) :
    Calls Try.prog 95 #[.pointer (some ⟨ba, 0, none⟩), .int .i64 n] w fun e w' => e = .returned (.pointer none) ∧ w = w' := by
  by_cases h0 : n < 0
  · go_enter Try.func95, Try.ntmps95
    go_wp2
    go_ret
    exact ⟨rfl, rfl⟩
  · have h1 : (len : Int) ≤ n := by omega
    have h0' : 0 ≤ n := by omega
    go_enter Try.func95, Try.ntmps95
    go_wp2
    go_ret
    exact ⟨rfl, rfl⟩
set_option maxHeartbeats 400000 in
theorem cell_live (ba g len cap : Nat) (n : Int) (w : World) (h0 : 0 ≤ n) (h1 : n < len) (hlen : len ≤ 1048576)
    (hc : w.cell? ⟨ba, 1, none⟩ = some (.slice (some ⟨g, 0, none⟩) len cap))
    (hl : w.cell? ⟨g, n.toNat * 3 + 1, none⟩ = some (.bool true)) :
    Calls Try.prog 95 #[.pointer (some ⟨ba, 0, none⟩), .int .i64 n] w fun e w' => e = .returned (.pointer (some ⟨g, n.toNat * 3, none⟩)) ∧ w = w' := by
  go_enter Try.func95, Try.ntmps95
  go_wp2
  go_ret
  exact ⟨rfl, rfl⟩
set_option maxHeartbeats 400000 in
theorem cell_dead (ba g len cap : Nat) (n : Int) (w : World) (h0 : 0 ≤ n) (h1 : n < len) (hlen : len ≤ 1048576)
    (hc : w.cell? ⟨ba, 1, none⟩ = some (.slice (some ⟨g, 0, none⟩) len cap))
    (hl : w.cell? ⟨g, n.toNat * 3 + 1, none⟩ = some (.bool false)) :
    Calls Try.prog 95 #[.pointer (some ⟨ba, 0, none⟩), .int .i64 n] w fun e w' => e = .returned (.pointer none) ∧ w = w' := by
  go_enter Try.func95, Try.ntmps95
  go_wp2
  go_ret
  exact ⟨rfl, rfl⟩
/-- cell, told of the plain arena: where nothing is given the answer is nil. -/
theorem cell_none {w : World} {ba : Nat} {A : Ar Int} {F : List Nat} (H : At w ba A F) (n : Int) (hn : A.get n = none) :
    Calls Try.prog 95 #[.pointer (some ⟨ba, 0, none⟩), .int .i64 n] w fun e w' => e = .returned (.pointer none) ∧ w = w' := by
  obtain ⟨sv, C, f, hfit, hb, hrow, hne, _⟩ := H.out
  have hlen := hfit.len
  have hmost := hfit.most
  have hfits := hfit.fits
  rcases row_cases hrow with ⟨rfl, rfl⟩ | ⟨g, cap, rfl⟩
  · exact cell_out ba 0 0 none n w (by simp; omega) (hb.cell 1 rfl)
  · by_cases hin : 0 ≤ n ∧ n < C.length
    · obtain ⟨h0, h1⟩ := hin
      rcases hfit.given (i := n.toNat) (by omega) with ⟨x, hx, _⟩ | ⟨_, nx, hc⟩
      · simp [Ar.get, h0, hx] at hn
      · exact cell_dead ba g C.length cap n w h0 h1 (by omega) (hb.cell 1 rfl) (row_cell hrow _ hc).2.1
    · exact cell_out ba C.length cap (some ⟨g, 0, none⟩) n w (by omega) (hb.cell 1 rfl)
end ArI
end Go.Proofs.Ytmkbinbggiocaaa
