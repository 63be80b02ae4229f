/- The reference's reader: its object; Nat. -/
import Derived.Test.YtmkbinbggiocaaaRefReadLaw
import Derived.Test.YtmkbinbggiocaaaReader4
import Derived.Test.YtmkbinbggiocaaaConv
set_option linter.unusedVariables false
set_option linter.unusedSimpArgs false
namespace Go.Proofs.Ytmkbinbggiocaaa
open Go.RowKit
namespace Code
/-- The reference's reader at block r; its bytes lie where they lay in w0, ahead of it. -/
structure XAt (w0 w : World) (r : Nat) (vb : Value) (bs : List Int) (k : Nat) (stop : Bool) : Prop where
  has : Has w r [vb, .int .i64 k, .bool stop] 75
  rd : Rd w0 1 vb bs.length (u8s bs)
  base : Mod [] w0 w
  new : w0.heap.size ≤ r
  le : k ≤ bs.length
  big : bs.length ≤ 1000000
theorem fresh0 {w0 w1 w2 : World} {r : Nat} (h : Mod [] w0 w1) (m : Mod [r] w1 w2) (hr : w0.heap.size ≤ r) : Mod [] w0 w2 := h.trans m (fun b hb hlt => by simp only [List.mem_singleton] at hb; omega)
theorem XAt.still {w0 w w' : World} {r k : Nat} {vb : Value} {bs : List Int} {stop : Bool} (h : XAt w0 w r vb bs k stop) (m : Mod [] w w') : XAt w0 w' r vb bs k stop :=
  ⟨h.has.keep m (by simp), h.rd, h.base.trans m (by simp), h.new, h.le, h.big⟩
theorem XAt.moved {w0 w w' : World} {r k : Nat} {vb : Value} {bs : List Int} {stop : Bool} (h : XAt w0 w r vb bs k stop) (m : Mod [r] w w') {k' : Nat} {s' : Bool} (hh : Has w' r [vb, .int .i64 k', .bool s'] 75) (hk : k' ≤ bs.length) : XAt w0 w' r vb bs k' s' :=
  ⟨hh, h.rd, fresh0 h.base m h.new, h.new, hk, h.big⟩
theorem XAt.read {w0 w : World} {r k : Nat} {vb : Value} {bs : List Int} {stop : Bool} (h : XAt w0 w r vb bs k stop) : Rd w 1 vb bs.length (u8s bs) := h.rd.still h.base
theorem XAt.halt {w0 w : World} {r k : Nat} {vb : Value} {bs : List Int} {stop : Bool} (h : XAt w0 w r vb bs k stop) : XAt w0 (w.setCell ⟨r, 2, none⟩ (.bool true)) r vb bs k true ∧ Mod [r] w (w.setCell ⟨r, 2, none⟩ (.bool true)) := by
  have m : Mod [r] w (w.setCell ⟨r, 2, none⟩ (.bool true)) := (Mod.refl [r] w).setCell _ _ (by simp)
  exact ⟨h.moved m (h.has.set 2 (.bool true)) h.le, m⟩
theorem XAt.go {w0 w : World} {r k : Nat} {vb : Value} {bs : List Int} {stop : Bool} (h : XAt w0 w r vb bs k stop) (k' : Nat) (hk : k' ≤ bs.length) : XAt w0 (w.setCell ⟨r, 1, none⟩ (.int .i64 k')) r vb bs k' stop ∧ Mod [r] w (w.setCell ⟨r, 1, none⟩ (.int .i64 k')) := by
  have m : Mod [r] w (w.setCell ⟨r, 1, none⟩ (.int .i64 k')) := (Mod.refl [r] w).setCell _ _ (by simp)
  exact ⟨h.moved m (h.has.set 1 (.int .i64 k')) hk, m⟩
def XNatOut (w0 w : World) (r : Nat) (vb : Value) (bs : List Int) (k : Nat) (stop : Bool) (f : Nat → Value) (e : Ending) (w' : World) : Prop :=
  e = .returned (f (rNat bs k stop).1) ∧ XAt w0 w' r vb bs (rNat bs k stop).2.1 (rNat bs k stop).2.2 ∧ Mod [r] w w'
set_option maxRecDepth 100000 in
set_option maxHeartbeats 4000000 in
theorem xEnd {w0 w : World} {r k : Nat} {vb : Value} {bs : List Int} {stop : Bool} (h : XAt w0 w r vb bs k stop) :
    Calls Try.prog 52 #[.pointer (some ⟨r, 0, none⟩)] w fun e w' => e = .returned (.int .i64 (rEnd bs k stop)) ∧ Mod [] w w' := by
  obtain ⟨ab, cb, rfl⟩ := h.rd.val
  have c0 := h.has.cell 0 rfl
  have c1 := h.has.cell 1 rfl
  have c2 := h.has.cell 2 rfl
  have hle := h.le
  have hm := Lib.hid (fun n => (Mod.refl [] w).drewN n)
  clear h
  cases stop with
  | true =>
    go_enter Try.func52, Try.ntmps52
    go_wp2_with fail
    go_quiet (fail)
    go_wp2_with fail
    go_ret
    exact ⟨rfl, hm.out _⟩
  | false =>
    by_cases hk : k = bs.length
    · have t : ((k : Int) != (bs.length : Int)) = false := by simp [hk]
      have e1 : rEnd bs k false = 0 := by simp [rEnd]; omega
      rw [e1]
      clear hk e1
      go_enter Try.func52, Try.ntmps52
      go_wp2_with fail
      go_quiet (fail)
      go_wp2_with fail
      go_ret
      exact ⟨rfl, hm.out _⟩
    · have t : ((k : Int) != (bs.length : Int)) = true := by simp; omega
      have e1 : rEnd bs k false = 17 := by simp [rEnd]; omega
      rw [e1]
      clear hk e1
      go_enter Try.func52, Try.ntmps52
      go_wp2_with fail
      go_quiet (fail)
      go_wp2_with fail
      go_ret
      exact ⟨rfl, hm.out _⟩
end Code
end Go.Proofs.Ytmkbinbggiocaaa
