/- Whether two slices hold the same numbers. -/
import Derived.Test.YtjpfmkfikidgkaaGreatLive
set_option linter.unusedVariables false
set_option linter.unusedSimpArgs false
namespace Go.Proofs.YtjpfmkfikidgkaaGreat
open Go.RowKit
/-- The same list of whole numbers? -/
def eqI (xs ys : List Int) : Bool := decide (xs = ys)
def intsV (l : List Int) : List Value := l.map fun x => .int .i64 x
/-- The world is the old one, but that some orders have been drawn. -/
def Drawn (w w' : World) : Prop := ∃ n, w' = w.drewN n
theorem Drawn.mod {w w' : World} (h : Drawn w w') : Mod [] w w' := by obtain ⟨n, rfl⟩ := h; exact (Mod.refl _ _).drewN n
def BoolOut (b : Bool) (w : World) (e : Ending) (w' : World) : Prop := e = .returned (.bool b) ∧ Drawn w w'

theorem reads_cell {w : World} {xs : List Int} {n k c : Nat} {a : Option Addr} (h : Reads w 1 (.slice a n c) n (intsV xs)) (hk : k < n) : ∃ g o, a = some ⟨g, o, none⟩ ∧ w.cell? ⟨g, o + k, none⟩ = some (.int .i64 (xs.getD k 0)) := by
  have hl : xs.length = n := by have := h.1; simpa [intsV] using this
  rcases h.cases with ⟨_, h0, _⟩ | ⟨g, o, c', he, _, _⟩
  · omega
  · injection he with he _ hc
    subst he
    refine ⟨g, o, rfl, h.cell k ?_⟩
    simp [intsV, List.getElem?_eq_getElem (show k < xs.length by omega), List.getD_eq_getElem?_getD]
theorem reads_slice {w : World} {size n : Nat} {xs : List Value} {v : Value} (h : Reads w size v n xs) : ∃ a c, v = .slice a n c := by
  rcases h.cases with ⟨rfl, rfl, _⟩ | ⟨g, o, c, rfl, _⟩
  · exact ⟨none, 0, rfl⟩
  · exact ⟨_, c, rfl⟩
theorem reads_len {w : World} {n : Nat} {xs : List Int} {v : Value} (h : Reads w 1 v n (intsV xs)) : xs.length = n ∧ n ≤ 9223372036854775807 := by
  have hl : xs.length = n := by have := h.1; simpa [intsV] using this
  refine ⟨hl, ?_⟩
  rcases h.cases with ⟨_, h0, _⟩ | ⟨g, o, c, rfl, h1, h2⟩
  · omega
  · simp only [maxLen] at h2; omega
set_option maxHeartbeats 1000000 in
theorem ints_any {w : World} {va vb : Value} {xs ys : List Int} (ha : Reads w 1 va xs.length (intsV xs)) (hb : Reads w 1 vb ys.length (intsV ys)) :
    Calls Tryz.prog 57 #[va, vb] w (BoolOut (eqI xs ys) w) := by
  obtain ⟨a1, c1, rfl⟩ := reads_slice ha
  obtain ⟨a2, c2, rfl⟩ := reads_slice hb
  obtain ⟨_, hm1⟩ := reads_len ha
  by_cases hlen : xs.length = ys.length
  · have hd : ((xs.length : Int) != (ys.length : Int)) = false := by simp [hlen]
    have hout : (∀ k, k < xs.length → xs.getD k 0 = ys.getD k 0) → eqI xs ys = true := by
      intro h
      unfold eqI
      rw [decide_eq_true_eq]
      refine List.ext_getElem hlen fun i h1 h2 => ?_
      have := h i h1
      simpa [List.getD_eq_getElem?_getD, h1, h2] using this
    have hno : ∀ k, k < xs.length → xs.getD k 0 ≠ ys.getD k 0 → eqI xs ys = false := by
      intro k _ hne
      unfold eqI
      rw [decide_eq_false_iff_not]
      intro e; subst e; exact hne rfl
    have hout' := Lib.hid hout
    have hno' := Lib.hid hno
    have hlen' := Lib.hid hlen
    clear hout hno hlen
    go_enter Tryz.func57, Tryz.ntmps57
    go_wp2
    go_loopw [5] (fun i wr => ∃ k n : Nat, k ≤ xs.length ∧ i = .int .i64 k ∧ wr = w.drewN n ∧ ∀ j, j < k → xs.getD j 0 = ys.getD j 0) (fun i _ => xs.length - (intOf i).toNat)
    case atStart => exact ⟨0, 0, Nat.zero_le _, rfl, rfl, fun j hj => by omega⟩
    case round =>
      obtain ⟨k, n, hk, rfl, rfl, heq⟩ := hrel
      by_cases hlt : k < xs.length
      · obtain ⟨g1, o1, rfl, hc1⟩ := reads_cell ha hlt
        obtain ⟨g2, o2, rfl, hc2⟩ := reads_cell (k := k) hb (by rw [← hlen'.out]; exact hlt)
        have hlt2 : (k : Int) < ys.length := by have := hlen'.out; omega
        have hlt1 : (k : Int) < xs.length := by omega
        by_cases hx : xs.getD k 0 = ys.getD k 0
        · have hfin : ∀ j, j < k + 1 → xs.getD j 0 = ys.getD j 0 := by
            intro j hj
            rcases Nat.lt_or_ge j k with h | h
            · exact heq j h
            · rw [show j = k from by omega]; exact hx
          have hx' : (xs.getD k 0 != ys.getD k 0) = false := by rw [hx]; simp
          have hfin' := Lib.hid hfin
          generalize xs.getD k 0 = u at *
          generalize ys.getD k 0 = v at *
          clear hfin heq hx
          go_wp2
          go_quiet (fail)
          go_wp2
          go_roundw
          case rel => exact ⟨k + 1, _, by omega, by go_num, rfl, hfin'.out⟩
          case measure => simp [intOf]; omega
        · have hf := hno'.out k hlt hx
          have hx' : (xs.getD k 0 != ys.getD k 0) = true := by simpa using hx
          have hf' := Lib.hid hf
          generalize xs.getD k 0 = u at *
          generalize ys.getD k 0 = v at *
          clear hf heq hx
          go_wp2
          go_quiet (fail)
          go_wp2
          go_ret
          exact ⟨by rw [hf'.out]; rfl, _, World.drewN_drewN _ _ _⟩
      · have hk' : k = xs.length := by omega
        have hf := hout'.out (by rw [← hk']; exact heq)
        have hf' := Lib.hid hf
        clear hf heq hk'
        go_wp2
        go_ret
        exact ⟨by rw [hf'.out]; rfl, _, rfl⟩
  · have hd : ((xs.length : Int) != (ys.length : Int)) = true := by simp; omega
    have hf : eqI xs ys = false := by
      unfold eqI
      rw [decide_eq_false_iff_not]
      intro e; subst e; exact hlen rfl
    have hf' := Lib.hid hf
    clear hf hlen
    go_enter Tryz.func57, Tryz.ntmps57
    go_wp2
    go_ret
    exact ⟨by rw [hf'.out]; rfl, 0, rfl⟩
end Go.Proofs.YtjpfmkfikidgkaaGreat
