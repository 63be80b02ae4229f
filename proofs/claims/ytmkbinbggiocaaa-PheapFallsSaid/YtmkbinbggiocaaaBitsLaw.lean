/- Sets as bytes, as plain lists: the byte of eight numbers is the sum of its bits; rising numbers never meet a bit twice. -/
import Derived.WalkKit
set_option linter.unusedVariables false
set_option linter.unusedSimpArgs false
namespace Go.Proofs.Ytmkbinbggiocaaa
open Go.RowKit
namespace Code
/-- May the numbers be: each above the last one, and below n? -/
def risesB (n : Int) : Int → List Int → Bool
  | _, [] => true
  | last, v :: l => decide (last < v) && decide (v < n) && risesB n v l
def bit (v : Int) : Nat := 2 ^ (v % 8).toNat
def byteAt (l : List Int) (j : Nat) : Nat := ((l.filter fun v => decide (v / 8 = (j : Int))).map bit).sum
def bitsB (m : Nat) (l : List Int) : List Int := (List.range m).map fun j => ((byteAt l j : Nat) : Int)
theorem bitsB_len (m : Nat) (l : List Int) : (bitsB m l).length = m := by simp [bitsB]
theorem bitsB_nil (m : Nat) : bitsB m [] = List.replicate m 0 := by
  apply List.ext_getElem
  · simp [bitsB]
  · intro i h1 h2; simp [bitsB, byteAt]
theorem byteAt_snoc (l : List Int) (v : Int) (j : Nat) : byteAt (l ++ [v]) j = byteAt l j + if v / 8 = (j : Int) then bit v else 0 := by
  unfold byteAt
  rw [List.filter_append]
  by_cases h : v / 8 = (j : Int) <;> simp [h]
theorem bitsB_get (m : Nat) (l : List Int) (j : Nat) (h : j < m) : (bitsB m l)[j]? = some ((byteAt l j : Nat) : Int) := by simp [bitsB, h]
theorem bitsB_snoc (m : Nat) (l : List Int) (v : Int) (h0 : 0 ≤ v) (h : (v / 8).toNat < m) : bitsB m (l ++ [v]) = (bitsB m l).set (v / 8).toNat ((byteAt l (v / 8).toNat + bit v : Nat) : Int) := by
  apply List.ext_getElem
  · simp [bitsB]
  · intro i h1 h2
    simp only [bitsB, List.length_map, List.length_range] at h1
    rw [List.getElem_set]
    by_cases hi : (v / 8).toNat = i
    · subst hi
      simp only [if_true, bitsB, List.getElem_map, List.getElem_range, byteAt_snoc]
      rw [if_pos (by omega)]
    · simp only [if_neg hi, bitsB, List.getElem_map, List.getElem_range, byteAt_snoc]
      rw [if_neg (by omega), Nat.add_zero]
/-- Rising, told by places. -/
def Rising (l : List Int) : Prop := ∀ (i j : Nat) (x y : Int), l[i]? = some x → l[j]? = some y → i < j → x < y
theorem rises_iff (n : Int) : ∀ (l : List Int) (last : Int), risesB n last l = true ↔ (Rising l ∧ ∀ x ∈ l, last < x ∧ x < n)
  | [], last => by simp [risesB, Rising]
  | v :: l, last => by
    simp only [risesB, Bool.and_eq_true, decide_eq_true_eq, rises_iff n l v]
    constructor
    · rintro ⟨⟨h1, h2⟩, h3, h4⟩
      refine ⟨fun i j x y hx hy hij => ?_, fun x hx => ?_⟩
      · cases i with
        | zero =>
          cases j with
          | zero => omega
          | succ j => simp at hx hy; subst hx; exact (h4 y (List.mem_of_getElem? hy)).1
        | succ i =>
          cases j with
          | zero => omega
          | succ j => simp at hx hy; exact h3 i j x y hx hy (by omega)
      · rcases List.mem_cons.1 hx with rfl | hx
        · exact ⟨h1, h2⟩
        · have := h4 x hx; exact ⟨by omega, this.2⟩
    · rintro ⟨h1, h2⟩
      refine ⟨h2 v (by simp), fun i j x y hx hy hij => h1 (i + 1) (j + 1) x y (by simpa using hx) (by simpa using hy) (by omega), fun x hx => ⟨?_, (h2 x (List.mem_cons_of_mem _ hx)).2⟩⟩
      obtain ⟨j, hj⟩ := List.getElem?_of_mem hx
      exact h1 0 (j + 1) v x (by simp) (by simpa using hj) (by omega)
theorem byteAt_lt {l : List Int} (hr : Rising l) (h0 : ∀ x ∈ l, 0 ≤ x) (k : Nat) : ∀ v : Int, 0 ≤ v → (∀ (i : Nat) (x : Int), i < k → l[i]? = some x → x < v) → byteAt (l.take k) (v / 8).toNat < bit v := by
  induction k with
  | zero => intro v _ _; simp only [List.take_zero, byteAt, List.filter_nil, List.map_nil, List.sum_nil, bit]; exact Nat.two_pow_pos _
  | succ k ih =>
    intro v hv hlt
    have hprev := ih v hv (fun i x hi hx => hlt i x (by omega) hx)
    cases hx : l[k]? with
    | none => rw [List.take_add_one, hx]; simpa using hprev
    | some u =>
      have hu := hlt k u (by omega) hx
      have hu0 := h0 u (List.mem_of_getElem? hx)
      have e : l.take (k + 1) = l.take k ++ [u] := by rw [List.take_add_one, hx]; rfl
      rw [e, byteAt_snoc]
      by_cases h : u / 8 = (((v / 8).toNat : Nat) : Int)
      · rw [if_pos h]
        have h1 := ih u hu0 (fun i x hi hx' => hr i k x u hx' hx hi)
        have e8 : (u / 8).toNat = (v / 8).toNat := by omega
        rw [e8] at h1
        have h2 : (u % 8).toNat + 1 ≤ (v % 8).toNat := by omega
        have h3 : 2 ^ ((u % 8).toNat + 1) ≤ 2 ^ (v % 8).toNat := Nat.pow_le_pow_right (by omega) h2
        unfold bit at h1 ⊢
        rw [Nat.pow_succ] at h3
        omega
      · rw [if_neg h]; omega
theorem bit_le (v : Int) (h : 0 ≤ v) : bit v ≤ 128 := by
  unfold bit
  have : (v % 8).toNat ≤ 7 := by omega
  calc 2 ^ (v % 8).toNat ≤ 2 ^ 7 := Nat.pow_le_pow_right (by omega) this
    _ = 128 := rfl
theorem or_bit (k x : Nat) (hk : k < 8) (hx : x < 2 ^ k) : bits .or .u8 (x : Int) ((2 ^ k : Nat) : Int) = ((x + 2 ^ k : Nat) : Int) := by
  have h : ∀ k : Fin 8, ∀ x : Fin 256, x.val < 2 ^ k.val → bits .or .u8 ((x.val : Nat) : Int) ((2 ^ k.val : Nat) : Int) = ((x.val + 2 ^ k.val : Nat) : Int) := by decide +kernel
  have hx2 : x < 256 := Nat.lt_of_lt_of_le hx (by
    calc 2 ^ k ≤ 2 ^ 8 := Nat.pow_le_pow_right (by omega) (by omega)
      _ = 256 := rfl)
  exact h ⟨k, hk⟩ ⟨x, hx2⟩ hx
theorem or_bit_walk (x : Int) (b0 : Nat) (hx : 0 ≤ x) (h : b0 < bit x) : bits .or .u8 (b0 : Int) (2 ^ (x % 8).toNat % 256) = ((b0 + bit x : Nat) : Int) := by
  have hk : (x % 8).toNat < 8 := by omega
  have e : ((2 : Int) ^ (x % 8).toNat % 256) = ((2 ^ (x % 8).toNat : Nat) : Int) := by
    have h1 : (2 : Nat) ^ (x % 8).toNat ≤ 128 := bit_le x hx
    have h2 : ((2 : Int) ^ (x % 8).toNat) = ((2 ^ (x % 8).toNat : Nat) : Int) := by simp
    rw [h2]
    generalize 2 ^ (x % 8).toNat = p at *
    omega
  rw [e]
  exact or_bit _ _ hk h
end Code
end Go.Proofs.Ytmkbinbggiocaaa
