/- The reference's way to read a number, against the program's: the plain law. -/
import Derived.Test.YtmkbinbggiocaaaReadLaw
set_option linter.unusedVariables false
set_option linter.unusedSimpArgs false
namespace Go.Proofs.Ytmkbinbggiocaaa
open Go.RowKit
namespace Code
def valN : List Int → Nat
  | [] => 0
  | x :: r => (x % 128).toNat + 128 * valN r
theorem valN_snoc : ∀ (l : List Int) (x : Int), valN (l ++ [x]) = valN l + 128 ^ l.length * (x % 128).toNat
  | [], x => by simp [valN]
  | y :: l, x => by
    rw [List.cons_append, valN, valN, valN_snoc l x, List.length_cons, Nat.pow_succ, Nat.mul_add, Nat.mul_comm (128 ^ l.length) 128, Nat.mul_assoc]
    omega
theorem natB_shape (n : Nat) : valN (natB n) = n ∧ ∃ A x, natB n = A ++ [x] ∧ (∀ y ∈ A, 128 ≤ y) ∧ 0 ≤ x ∧ x < 128 := by
  induction n using Nat.strongRecOn with
  | ind n ih =>
    by_cases h : n < 128
    · rw [natB_small h]
      refine ⟨?_, [], n, rfl, by simp, by omega, by omega⟩
      simp only [valN]
      omega
    · rw [natB_big h]
      obtain ⟨h1, A, x, h2, h3, h4, h5⟩ := ih (n / 128) (by omega)
      refine ⟨?_, ((n % 128 + 128 : Nat) : Int) :: A, x, by rw [h2]; rfl, ?_, h4, h5⟩
      · rw [valN, h1]
        omega
      · intro y hy
        rcases List.mem_cons.1 hy with rfl | hy
        · omega
        · exact h3 y hy
/-- Where the first byte below 128 stands, there a number that stands at the head ends. -/
theorem natP_ends {xs : List Int} {n j k : Nat} {x : Int} (hb : ∀ x ∈ xs, 0 ≤ x ∧ x < 256) (h : natP 0 xs = some (n, j)) : ∃ y, xs[j - 1]? = some y ∧ y < 128 ∧ 0 < j ∧ j ≤ 10 ∧ n < 18446744073709551616 ∧ natB n = xs.take j ∧ ∀ i z, i < j - 1 → xs[i]? = some z → 128 ≤ z := by
  obtain ⟨h1, h2, _, _, h5⟩ := natP_sound xs 0 n j hb h
  obtain ⟨_, A, y, h3, h4, h6, h7⟩ := natB_shape n
  have hn : n < 18446744073709551616 := by simpa using h5
  have hl10 := natB_len 10 n (by omega) (by omega)
  have hj : j = A.length + 1 := by rw [h2, h3]; simp
  rw [h3] at h1
  have hjl : j ≤ xs.length := by
    have := congrArg List.length h1
    rw [List.length_take] at this
    simp at this
    omega
  refine ⟨y, ?_, h7, by omega, by omega, hn, by rw [h3, h1], fun i z hi hz => ?_⟩
  · have : (xs.take j)[j - 1]? = some y := by rw [← h1, hj]; simp
    rw [List.getElem?_take, if_pos (by omega)] at this
    exact this
  · have : (xs.take j)[i]? = some z := by rw [List.getElem?_take, if_pos (by omega)]; exact hz
    rw [← h1, List.getElem?_append_left (by omega)] at this
    exact h4 z (List.mem_of_getElem? this)
theorem refnat_hit {xs : List Int} {k : Nat} {x : Int} (hb : ∀ x ∈ xs, 0 ≤ x ∧ x < 256) (hx : xs[k]? = some x) (hx1 : x < 128) (hk : ∀ i z, i < k → xs[i]? = some z → 128 ≤ z) :
    (natB (valN (xs.take (k + 1)) % 18446744073709551616) = xs.take (k + 1) → natP 0 xs = some (valN (xs.take (k + 1)) % 18446744073709551616, k + 1)) ∧
    (natB (valN (xs.take (k + 1)) % 18446744073709551616) ≠ xs.take (k + 1) → natP 0 xs = none) := by
  have hkl : k < xs.length := (List.getElem?_eq_some_iff.1 hx).1
  refine ⟨fun h => ?_, fun h => ?_⟩
  · have h2 := natP_back (valN (xs.take (k + 1)) % 18446744073709551616) (by omega) (xs.drop (k + 1))
    rw [h, List.take_append_drop, List.length_take] at h2
    rw [h2]
    congr 2
    omega
  · cases hp : natP 0 xs with
    | none => rfl
    | some p =>
      obtain ⟨n, j⟩ := p
      obtain ⟨y, hy, hy1, hj0, _, hn, hB, hlt⟩ := natP_ends (k := 0) (x := 0) hb hp
      have hjk : j = k + 1 := by
        rcases Nat.lt_trichotomy (j - 1) k with h' | h' | h'
        · have := hk (j - 1) y h' hy; omega
        · omega
        · have := hlt k x h' hx; omega
      subst hjk
      exfalso
      apply h
      have hv := (natB_shape n).1
      rw [hB] at hv
      rw [hv, Nat.mod_eq_of_lt hn, hB]
theorem refnat_miss {xs : List Int} (hb : ∀ x ∈ xs, 0 ≤ x ∧ x < 256) (hk : ∀ i z, i < 10 → xs[i]? = some z → 128 ≤ z) : natP 0 xs = none := by
  cases hp : natP 0 xs with
  | none => rfl
  | some p =>
    obtain ⟨n, j⟩ := p
    obtain ⟨y, hy, hy1, hj0, hj10, _⟩ := natP_ends (k := 0) (x := 0) hb hp
    have := hk (j - 1) y (by omega) hy
    omega
end Code
end Go.Proofs.Ytmkbinbggiocaaa
