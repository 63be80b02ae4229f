/- The reference's reader: Bits. -/
import Derived.Test.YtmkbinbggiocaaaRefRead4
import Derived.Test.YtmkbinbggiocaaaRefBitsLaw
set_option linter.unusedVariables false
set_option linter.unusedSimpArgs false
namespace Go.Proofs.Ytmkbinbggiocaaa
open Go.RowKit
namespace Code
def XBitsOut (w0 w : World) (r : Nat) (vb : Value) (bs : List Int) (k : Nat) (stop : Bool) (n : Int) (e : Ending) (w' : World) : Prop :=
  ∃ v, e = .returned v ∧ Rd w' 1 v (rBits bs k stop n).1.length (vi64 (rBits bs k stop n).1) ∧ (∀ g, v.ownBlock = some g → w.heap.size ≤ g) ∧ XAt w0 w' r vb bs (rBits bs k stop n).2.1 (rBits bs k stop n).2.2 ∧ Mod [r] w w'
theorem xBits_no {w0 w w' : World} {r k : Nat} {vb : Value} {bs : List Int} {stop : Bool} {n : Int} (h : rBits bs k stop n = ([], k, true)) (hX : XAt w0 w' r vb bs k true) (m : Mod [r] w w') : XBitsOut w0 w r vb bs k stop n (.returned (.slice none 0 0)) w' := by
  unfold XBitsOut
  rw [h]
  exact ⟨_, rfl, Rd.nil _ _, by simp [Value.ownBlock], hX, m⟩
/-- A part of a row that is read. -/
theorem slice_sub {P : Program} (t : TypeId) (ht : P.underlying t = some (.slice (P.elem t))) (hs : ∀ w : World, (sizeOf (P.elem t)).run P w = .ok 1 w) {w0 : World} {a : Option Addr} {c : Nat} {bs : List Int} (h : Rd w0 1 (.slice a bs.length c) bs.length (u8s bs)) (k m : Nat) (hk : k + m ≤ bs.length) (x y : Int) (hx : x = (k : Int)) (hy : y = ((k + m : Nat) : Int)) :
    ∃ a' c', (∀ w : World, (Instr.slice t (.slice a bs.length c) (some (.int .i64 x)) (some (.int .i64 y)) none).run P w = .ok (.slice a' m c') w) ∧ ∀ w', Mod [] w0 w' → Rd w' 1 (.slice a' m c') m (u8s ((bs.drop k).take m)) := by
  subst hx hy
  have hlen : ((bs.drop k).take m).length = m := by rw [List.length_take, List.length_drop]; omega
  have hcm : bs.length ≤ c ∧ c ≤ maxLen := by
    rcases h.2 with ⟨he, h0⟩ | ⟨ad, c', he, h1, h2, _⟩
    · simp only [Value.slice.injEq] at he
      obtain ⟨_, _, rfl⟩ := he
      simp only [maxLen]
      omega
    · simp only [Value.slice.injEq, true_and] at he
      obtain ⟨_, rfl⟩ := he
      exact ⟨h1, h2⟩
  refine ⟨(if c = k then a else a.map fun ad => ad.add k), c - k, fun w => ?_, fun w' hm => ?_⟩
  · rw [run_slice_lh w t a bs.length c ht .i64 .i64 k ((k + m : Nat) : Int) (by omega) (by omega) (by omega), hs]
    simp only [Result.andThen, sliced, Int.toNat_natCast, Nat.mul_one, Nat.add_sub_cancel_left]
  · refine ⟨by rw [u8s_length, hlen]; omega, ?_⟩
    cases a with
    | none =>
      rcases h.2 with ⟨he, h0⟩ | ⟨ad, c', he, _⟩
      · simp only [Value.slice.injEq] at he
        obtain ⟨_, _, rfl⟩ := he
        exact .inl ⟨by simp; omega, by omega⟩
      · simp at he
    | some ad =>
      by_cases hkc : c = k
      · rw [if_pos hkc]
        have hm0 : m = 0 := by omega
        subst hm0
        exact .inr ⟨ad, c - k, rfl, by omega, by omega, fun j u hu => by simp [u8s] at hu⟩
      · rw [if_neg hkc]
        refine .inr ⟨ad.add k, c - k, rfl, by omega, by omega, fun j u hu => ?_⟩
        have hj : j < m := by
          rcases Nat.lt_or_ge j m with h' | h'
          · exact h'
          · rw [List.getElem?_eq_none (by rw [u8s_length, hlen]; omega)] at hu; simp at hu
        have hu' : (u8s bs)[k + j]? = some u := by
          rw [← hu]; simp only [u8s, List.map_take, List.map_drop, List.getElem?_take, if_pos hj, List.getElem?_drop]
        obtain ⟨g, o, e, _, _, hc⟩ := (h.still hm).at (by rw [u8s_length]; omega)
        simp only [Option.some.injEq] at e
        subst e
        rw [Addr.add_lit, Addr.add_lit, Nat.add_assoc]
        exact hc _ _ hu'
theorem wide_le (n : Int) (h0 : 0 ≤ n) (h1 : n ≤ 4096) : wideN n ≤ 512 ∧ ((n + 7) / 8 : Int) = (wideN n : Int) := by unfold wideN; omega
set_option maxRecDepth 100000 in
set_option maxHeartbeats 4000000 in
theorem xBits_stop {w0 w : World} {r k : Nat} {vb : Value} {bs : List Int} {stop : Bool} (n : Int) (h : XAt w0 w r vb bs k stop) (hn : n < 0 ∨ 4096 < n ∨ stop = true ∨ bs.length - k < wideN n) :
    Calls Try.prog 109 #[.pointer (some ⟨r, 0, none⟩), .int .i64 n] w (XBitsOut w0 w r vb bs k stop n) := by
  obtain ⟨ab, cb, rfl⟩ := h.rd.val
  have e1 : rBits bs k stop n = ([], k, true) := by
    unfold rBits
    rcases hn with h | h | h | h
    · rw [if_pos (by omega)]
    · rw [if_pos (by omega)]
    · split
      · rfl
      · rw [if_pos (by simp [h])]
    · rw [if_pos (by omega)]
  have c0 := h.has.cell 0 rfl
  have c1 := h.has.cell 1 rfl
  have c2 := h.has.cell 2 rfl
  have fr2 := h.has.free 2
  have hrl := h.has.lt
  have hle := h.le
  have hbig := h.big
  have hfin : ∀ nq, XBitsOut w0 w r (.slice ab bs.length cb) bs k stop n (.returned (.slice none 0 0)) ((w.drewN nq).setCell ⟨r, 2, none⟩ (.bool true)) := fun nq => by
    have hX := (h.still ((Mod.refl [] w).drewN nq)).halt
    exact xBits_no e1 hX.1 (trM r _ _ _ ((Mod.refl [r] w).drewN nq) hX.2)
  have hfin' := Lib.hid hfin
  clear hfin h e1
  by_cases h0 : n < 0
  · have t1 : decide (n < 0) = true := by simpa using h0
    clear hn
    go_enter Try.func109, Try.ntmps109
    go_wp2_with fail
    go_quiet (fail)
    go_wp2_with fail
    go_ret
    exact hfin'.out _
  · have t1 : decide (n < 0) = false := by simpa using h0
    by_cases h1 : 4096 < n
    · have t2 : decide (4096 < n) = true := by simpa using h1
      clear hn
      go_enter Try.func109, Try.ntmps109
      go_wp2_with fail
      go_quiet (fail)
      go_wp2_with fail
      go_ret
      exact hfin'.out _
    · have t2 : decide (4096 < n) = false := by simpa using h1
      cases stop with
      | true =>
        clear hn
        go_enter Try.func109, Try.ntmps109
        go_wp2_with fail
        go_quiet (fail)
        go_wp2_with fail
        go_ret
        exact hfin'.out _
      | false =>
        have hs : bs.length - k < wideN n := by
          rcases hn with h | h | h | h
          · exact absurd h h0
          · exact absurd h h1
          · cases h
          · exact h
        obtain ⟨hw1, hw2⟩ := wide_le n (by omega) (by omega)
        have hw3 : IntKind.i64.wrap ((bs.length : Int) - (k : Int)) = (bs.length : Int) - (k : Int) := IntWalk.i64_in _ (by omega)
        have hw4 : IntKind.i64.wrap (n + 7) = n + 7 := IntWalk.i64_in _ (by omega)
        have t3 : decide ((bs.length : Int) - (k : Int) < (n + 7) / 8) = true := by rw [hw2]; simp; omega
        have h0' : 0 ≤ n := by omega
        have h1' : n ≤ 4096 := by omega
        clear hn hs hw1 hw2 h0 h1
        go_enter Try.func109, Try.ntmps109
        go_wp2_with fail
        go_quiet (fail)
        go_wp2_with fail
        go_ret
        exact hfin'.out _
end Code
end Go.Proofs.Ytmkbinbggiocaaa
