/- Floats: a float told by its bits, all that are no numbers alike; what + and / give; plain laws over the model's words. -/
import Derived.Test.YtmkbinbggiocaaaRd
import Derived.WalkLawsBesides
set_option linter.unusedVariables false
set_option linter.unusedSimpArgs false
namespace Go.Proofs.Ytmkbinbggiocaaa
open Go.RowKit
namespace Fl
/-- What a float tells: its bits; none: no number. -/
def fl (b : Nat) : Option Nat := if (FloatKind.f64.decode b).isNaN then none else some b
theorem sw : Ieee.double.signWeight = 9223372036854775808 := by decide +kernel
theorem bi : Ieee.double.binade = 4503599627370496 := by decide +kernel
theorem ir : Ieee.double.infRung = 9218868437227405312 := by decide +kernel
theorem lp : Ieee.double.leastPlace = -1074 := by decide +kernel
theorem read_eq (b : Nat) : Ieee.double.read b =
    if b % 9223372036854775808 < 4503599627370496 then .number (b / 9223372036854775808 % 2 == 1) (b % 9223372036854775808) (-1074)
    else if b % 9223372036854775808 < 9218868437227405312 then .number (b / 9223372036854775808 % 2 == 1) (4503599627370496 + b % 9223372036854775808 % 4503599627370496) (-1074 + (b % 9223372036854775808 / 4503599627370496 - 1 : Nat))
    else if b % 9223372036854775808 = 9218868437227405312 then .infinity (b / 9223372036854775808 % 2 == 1) else .nan (b / 9223372036854775808 % 2 == 1) (b % 9223372036854775808 - 9218868437227405312) := by
  unfold Ieee.Format.read
  rw [sw, bi, ir, lp]
theorem decode_eq (b : Nat) : FloatKind.f64.decode b = Ieee.double.read b := rfl
theorem nan_iff (b : Nat) : (FloatKind.f64.decode b).isNaN = decide (9218868437227405312 < b % 9223372036854775808) := by
  rw [decode_eq, read_eq]
  split
  · rw [decide_eq_false (by omega)]; rfl
  · split
    · rw [decide_eq_false (by omega)]; rfl
    · split
      · rw [decide_eq_false (by omega)]; rfl
      · rw [decide_eq_true (by omega)]; rfl
theorem fl_eq (b : Nat) : fl b = if 9218868437227405312 < b % 9223372036854775808 then none else some b := by
  unfold fl
  rw [nan_iff]
  simp
theorem fl_none {b : Nat} : fl b = none ↔ 9218868437227405312 < b % 9223372036854775808 := by
  rw [fl_eq]; split <;> simp_all
theorem fl_some {b c : Nat} (h : fl b = some c) : c = b ∧ b % 9223372036854775808 ≤ 9218868437227405312 := by
  rw [fl_eq] at h
  split at h
  · cases h
  · simp only [Option.some.injEq] at h; exact ⟨h.symm, by omega⟩
theorem word_eq (neg : Bool) (r : Nat) : Ieee.double.word neg r = if neg then 9223372036854775808 + r else r := by
  unfold Ieee.Format.word; rw [sw]
theorem fl_word (neg : Bool) {r : Nat} (h : r ≤ 9218868437227405312) : fl (Ieee.double.word neg r) = some (Ieee.double.word neg r) := by
  rw [fl_eq, word_eq, if_neg]
  split <;> omega
theorem fl_nearest (neg : Bool) (m : Nat) (p : Int) : fl (Ieee.double.nearest neg m p) = some (Ieee.double.nearest neg m p) := by
  unfold Ieee.Format.nearest
  split
  · exact fl_word _ (by omega)
  · simp only
    exact fl_word _ (by rw [ir]; exact Nat.min_le_right _ _)
theorem fl_write {d : Ieee.Datum} (h : d.isNaN = false) : fl (Ieee.double.write d) = some (Ieee.double.write d) := by
  cases d with
  | number s m p => exact fl_nearest _ _ _
  | infinity s => exact fl_word _ (by rw [ir]; exact Nat.le_refl _)
  | nan s t => simp [Ieee.Datum.isNaN] at h
theorem sum_num {x y z : Ieee.Datum} (h : x.sum y = some z) : x.isNaN = false ∧ y.isNaN = false ∧ z.isNaN = false := by
  cases x <;> cases y <;> simp only [Ieee.Datum.sum] at h <;> first
    | (cases h; done)
    | (split at h <;> first | (cases h; done) | (simp only [Option.some.injEq] at h; subst h; exact ⟨rfl, rfl, rfl⟩))
    | (simp only [Option.some.injEq] at h; subst h; exact ⟨rfl, rfl, rfl⟩)
theorem quo_num {n : Nat} {x y z : Ieee.Datum} (h : x.quotient n y = some z) : x.isNaN = false ∧ y.isNaN = false ∧ z.isNaN = false := by
  cases x <;> cases y <;> simp only [Ieee.Datum.quotient] at h <;> first
    | (cases h; done)
    | (simp only [Option.some.injEq] at h; subst h; exact ⟨rfl, rfl, rfl⟩)
    | (split at h
       · split at h <;> first | (cases h; done) | (simp only [Option.some.injEq] at h; subst h; exact ⟨rfl, rfl, rfl⟩)
       · simp only [Option.some.injEq] at h; subst h; exact ⟨rfl, rfl, rfl⟩)
def fadd (x y : Option Nat) : Option Nat := x.bind fun a => y.bind fun b => Ieee.double.add a b
def fquo (x y : Option Nat) : Option Nat := x.bind fun a => y.bind fun b => Ieee.double.div a b
theorem fl_of_num {b : Nat} (h : (Ieee.double.read b).isNaN = false) : fl b = some b := by
  unfold fl; rw [decode_eq, h]; rfl
theorem map_write {d : Option Ieee.Datum} {r : Nat} (h : d.map Ieee.double.write = some r) : ∃ z, d = some z ∧ Ieee.double.write z = r := by
  cases d with
  | none => cases h
  | some z => simp only [Option.map_some, Option.some.injEq] at h; exact ⟨z, rfl, h⟩
theorem add_fl {x y r : Nat} (h : Ieee.double.add x y = some r) : fl r = fadd (fl x) (fl y) ∧ r < 18446744073709551616 := by
  obtain ⟨z, hz, hw⟩ := map_write h
  obtain ⟨h1, h2, h3⟩ := sum_num hz
  have h4 := fl_write h3
  rw [hw] at h4
  refine ⟨by rw [fl_of_num h1, fl_of_num h2, h4]; exact h.symm, ?_⟩
  exact Ieee.Format.add_lt _ h
theorem quo_fl {x y r : Nat} (h : Ieee.double.div x y = some r) : fl r = fquo (fl x) (fl y) ∧ r < 18446744073709551616 := by
  obtain ⟨z, hz, hw⟩ := map_write h
  obtain ⟨h1, h2, h3⟩ := quo_num hz
  have h4 := fl_write h3
  rw [hw] at h4
  refine ⟨by rw [fl_of_num h1, fl_of_num h2, h4]; exact h.symm, ?_⟩
  exact Ieee.Format.div_lt _ h
theorem fadd_none {x y : Nat} (h : Ieee.double.add x y = none) : fadd (fl x) (fl y) = none := by
  rcases hx : fl x with _ | a
  · rfl
  · rcases hy : fl y with _ | b
    · rfl
    · rw [(fl_some hx).1, (fl_some hy).1]; exact h
theorem fquo_none {x y : Nat} (h : Ieee.double.div x y = none) : fquo (fl x) (fl y) = none := by
  rcases hx : fl x with _ | a
  · rfl
  · rcases hy : fl y with _ | b
    · rfl
    · rw [(fl_some hx).1, (fl_some hy).1]; exact h
theorem nan_cut (x y t : Nat) : fl ((Question.nanBits .f64 x y).cut t) = none ∧ (Question.nanBits .f64 x y).cut t < 18446744073709551616 := by
  have e : (Question.nanBits .f64 x y).cut t = (t % 2) * 9223372036854775808 + 9218868437227405312 + 1 + (t / 2) % 4503599627370495 := rfl
  rw [e, fl_none]
  rcases Nat.mod_two_eq_zero_or_one t with h | h <;> rw [h] <;> omega
section
variable {P : Program}
/-- What + gives: a number as IEEE has it, or one of the NaNs, drawn. -/
theorem run_add (w : World) (t : TypeId) (x y : Nat) : ∃ r w', (binOp .add t (.float .f64 x) (.float .f64 y)).run P w = .ok (.float .f64 r) w' ∧ fl r = fadd (fl x) (fl y) ∧ r < 18446744073709551616 ∧ (w' = w ∨ w' = w.drew) := by
  cases h : Ieee.double.add x y with
  | some r => exact ⟨r, w, run_float_arith w .add t .f64 x y r h, (add_fl h).1, (add_fl h).2, .inl rfl⟩
  | none =>
    refine ⟨(Question.nanBits .f64 x y).cut (w.tape w.drawn (.nanBits .f64 x y)), w.drew, ?_, ?_, (nan_cut _ _ _).2, .inr rfl⟩
    · have h' : FloatKind.f64.format.add x y = none := h
      simp [binOp, Op.floatArith, h', Question.forced]
    · rw [(nan_cut _ _ _).1, fadd_none h]
theorem run_quo (w : World) (t : TypeId) (x y : Nat) : ∃ r w', (binOp .quo t (.float .f64 x) (.float .f64 y)).run P w = .ok (.float .f64 r) w' ∧ fl r = fquo (fl x) (fl y) ∧ r < 18446744073709551616 ∧ (w' = w ∨ w' = w.drew) := by
  cases h : Ieee.double.div x y with
  | some r => exact ⟨r, w, run_float_arith w .quo t .f64 x y r h, (quo_fl h).1, (quo_fl h).2, .inl rfl⟩
  | none =>
    refine ⟨(Question.nanBits .f64 x y).cut (w.tape w.drawn (.nanBits .f64 x y)), w.drew, ?_, ?_, (nan_cut _ _ _).2, .inr rfl⟩
    · have h' : FloatKind.f64.format.div x y = none := h
      simp [binOp, Op.floatArith, h', Question.forced]
    · rw [(nan_cut _ _ _).1, fquo_none h]
end
/-- A float and itself. -/
theorem order_self (d : Ieee.Datum) : d.order d = if d.isNaN then none else some .eq := by
  cases d with
  | number s m p => simp [Ieee.Datum.order, Ieee.Datum.isNaN]
  | infinity s => simp [Ieee.Datum.order, Ieee.Datum.isNaN]
  | nan s t => simp [Ieee.Datum.order, Ieee.Datum.isNaN]
theorem self_eq (b : Nat) : (FloatKind.f64.format.order b b == some .eq) = (fl b).isSome := by
  have h : FloatKind.f64.format.order b b = (FloatKind.f64.decode b).order (FloatKind.f64.decode b) := rfl
  rw [h, order_self]
  unfold fl
  split <;> rfl
theorem self_ne (b : Nat) : (FloatKind.f64.format.order b b != some .eq) = (fl b).isNone := by
  have := self_eq b
  unfold bne
  rw [this]
  cases fl b <;> rfl
/-- The bits of a float, all NaNs alike. -/
def bitsF (x : Option Nat) : Nat := x.getD 9221120237041090560
theorem fl_bits {a b : Nat} (h : fl a = fl b) : bitsF (fl a) = bitsF (fl b) := by rw [h]
end Fl
end Go.Proofs.Ytmkbinbggiocaaa
