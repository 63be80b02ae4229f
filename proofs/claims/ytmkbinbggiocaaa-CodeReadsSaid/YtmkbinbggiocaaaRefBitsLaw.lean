/- The reference's way to read a set: number by number; the plain law. -/
import Derived.Test.YtmkbinbggiocaaaBitsBack
set_option linter.unusedVariables false
set_option linter.unusedSimpArgs false
namespace Go.Proofs.Ytmkbinbggiocaaa
open Go.RowKit
namespace Code
def setTo (xs : List Int) (v : Nat) : List Int := ((List.range v).filter fun u => ((xs.getD (u / 8) 0).toNat).testBit (u % 8)).map fun u => ((u : Nat) : Int)
theorem setTo_succ (xs : List Int) (v : Nat) : setTo xs (v + 1) = setTo xs v ++ if ((xs.getD (v / 8) 0).toNat).testBit (v % 8) then [(v : Int)] else [] := by
  unfold setTo
  rw [List.range_succ, List.filter_append, List.map_append]
  congr 1
  by_cases h : ((xs.getD (v / 8) 0).toNat).testBit (v % 8) = true
  · rw [if_pos h, List.filter_cons, if_pos h]; rfl
  · rw [if_neg h, List.filter_cons, if_neg h]; rfl
theorem setTo_bytes (xs : List Int) : ∀ i, i ≤ xs.length → setTo xs (8 * i) = setFrom 0 (xs.take i)
  | 0, _ => by simp [setTo, setFrom]
  | i + 1, hi => by
    obtain ⟨x, hx⟩ : ∃ x, xs[i]? = some x := ⟨xs[i], List.getElem?_eq_getElem (by omega)⟩
    have htl : (xs.take i).length = i := by rw [List.length_take]; omega
    rw [List.take_add_one, hx]
    simp only [Option.toList_some]
    rw [setFrom_append, htl, ← setTo_bytes xs i (by omega)]
    unfold setTo
    rw [show 8 * (i + 1) = 8 * i + 8 by omega, List.range_add, List.filter_append, List.map_append]
    congr 1
    simp only [setFrom, Nat.zero_add, List.append_nil, low, List.filter_map, List.map_map]
    have hf : ∀ u ∈ List.range 8, ((fun u => ((xs.getD (u / 8) 0).toNat).testBit (u % 8)) ∘ fun x => 8 * i + x) u = x.toNat.testBit u := by
      intro u hu
      rw [List.mem_range] at hu
      simp only [Function.comp]
      rw [show (8 * i + u) / 8 = i by omega, show (8 * i + u) % 8 = u by omega]
      simp [List.getD_eq_getElem?_getD, hx]
    rw [List.filter_congr hf]
    rfl
theorem rises_last (n : Int) : ∀ (l : List Int) (last : Int), l.Pairwise (· < ·) → (∀ x ∈ l, last < x) → risesB n last l = match l.getLast? with
    | none => true
    | some x => decide (x < n)
  | [], _, _, _ => rfl
  | [x], last, _, h => by
    have := h x (by simp)
    simp [risesB, this]
  | x :: y :: l, last, hp, h => by
    have hx := h x (by simp)
    rw [List.pairwise_cons] at hp
    have ih := rises_last n (y :: l) x hp.2 hp.1
    rw [risesB, ih, List.getLast?_cons_cons]
    cases hl : (y :: l).getLast? with
    | none => simp at hl
    | some z =>
      have hz := hp.1 z (List.mem_of_getLast? hl)
      simp only [hx, decide_true, Bool.true_and]
      by_cases hzn : z < n
      · have : x < n := by omega
        simp [hzn, this]
      · simp [hzn]
theorem setTo_rises (xs : List Int) (v : Nat) : (setTo xs v).Pairwise (· < ·) ∧ ∀ x ∈ setTo xs v, (-1 : Int) < x ∧ x < v := by
  unfold setTo
  refine ⟨?_, fun x hx => ?_⟩
  · rw [List.pairwise_map]
    refine List.Pairwise.filter _ ?_
    exact List.pairwise_lt_range.imp fun h => by omega
  · simp only [List.mem_map, List.mem_filter, List.mem_range] at hx
    obtain ⟨u, ⟨hu, _⟩, rfl⟩ := hx
    omega
end Code
end Go.Proofs.Ytmkbinbggiocaaa
