/- Sets as bytes, read back: the plain law. -/
import Derived.Test.YtmkbinbggiocaaaBitsLaw
set_option linter.unusedVariables false
set_option linter.unusedSimpArgs false
namespace Go.Proofs.Ytmkbinbggiocaaa
open Go.RowKit
namespace Code
/-- The bits of a byte, the lowest first. -/
def low (b : Nat) : List Nat := (List.range 8).filter fun k => b.testBit k
def setFrom : Nat → List Int → List Int
  | _, [] => []
  | i, x :: r => (low x.toNat).map (fun k => ((8 * i + k : Nat) : Int)) ++ setFrom (i + 1) r
theorem setFrom_append : ∀ (l m : List Int) (i : Nat), setFrom i (l ++ m) = setFrom i l ++ setFrom (i + l.length) m
  | [], m, i => by simp [setFrom]
  | x :: l, m, i => by
    rw [List.cons_append, setFrom, setFrom, setFrom_append l m (i + 1), List.append_assoc, List.length_cons]
    congr 3
    omega
theorem low_zero : low 0 = [] := by decide
theorem setFrom_zero : ∀ (l : List Int) (i : Nat), (∀ x ∈ l, x = 0) → setFrom i l = []
  | [], _, _ => rfl
  | x :: l, i, h => by
    rw [setFrom, h x (by simp), setFrom_zero l (i + 1) (fun y hy => h y (by simp [hy]))]
    simp [low_zero]
theorem low_add (b k : Nat) (hk : k < 8) (hb : b < 2 ^ k) : low (b + 2 ^ k) = low b ++ [k] := by
  have h : ∀ k : Fin 8, ∀ b : Fin 128, b.val < 2 ^ k.val → low (b.val + 2 ^ k.val) = low b.val ++ [k.val] := by decide +kernel
  have h2 : b < 128 := Nat.lt_of_lt_of_le hb (by
    calc 2 ^ k ≤ 2 ^ 7 := Nat.pow_le_pow_right (by omega) (by omega)
      _ = 128 := rfl)
  exact h ⟨k, hk⟩ ⟨b, h2⟩ hb
theorem low_and (b : Nat) (h0 : 0 < b) (h1 : b < 256) : ∃ k, low b = k :: low (b &&& (b - 1)) ∧ k < 8 ∧ (low b).head? = some k ∧ (b &&& (b - 1)) < b := by
  have h : ∀ b : Fin 256, 0 < b.val → ((low b.val).head?.isSome ∧ low b.val = (low b.val).head?.getD 0 :: low (b.val &&& (b.val - 1)) ∧ (low b.val).head?.getD 0 < 8 ∧ (b.val &&& (b.val - 1)) < b.val) := by decide +kernel
  obtain ⟨a1, a2, a3, a4⟩ := h ⟨b, h1⟩ h0
  simp only at a1 a2 a3 a4
  obtain ⟨k, hk⟩ := Option.isSome_iff_exists.1 a1
  rw [hk] at a2 a3
  exact ⟨k, a2, a3, hk, a4⟩
theorem setFrom_set (xs : List Int) (j b k : Nat) (hj : xs[j]? = some (b : Int)) (hz : ∀ i x, j < i → xs[i]? = some x → x = 0) (hk : k < 8) (hb : b < 2 ^ k) :
    setFrom 0 (xs.set j ((b + 2 ^ k : Nat) : Int)) = setFrom 0 xs ++ [((8 * j + k : Nat) : Int)] := by
  have hl : j < xs.length := (List.getElem?_eq_some_iff.1 hj).1
  have e : xs = xs.take j ++ (b : Int) :: xs.drop (j + 1) := by
    have h1 : xs.drop j = (b : Int) :: xs.drop (j + 1) := by
      rw [List.drop_eq_getElem_cons hl]; congr 1; rw [List.getElem?_eq_getElem hl] at hj; simpa using hj
    rw [← h1, List.take_append_drop]
  have e2 : xs.set j ((b + 2 ^ k : Nat) : Int) = xs.take j ++ ((b + 2 ^ k : Nat) : Int) :: xs.drop (j + 1) := List.set_eq_take_append_cons_drop ▸ by rw [if_pos hl]
  have hdz : ∀ x ∈ xs.drop (j + 1), x = 0 := by
    intro x hx
    obtain ⟨i, hi⟩ := List.getElem?_of_mem hx
    rw [List.getElem?_drop] at hi
    exact hz (j + 1 + i) x (by omega) hi
  have htl : (xs.take j).length = j := by rw [List.length_take]; omega
  rw [e2, setFrom_append]
  conv => rhs; rw [e, setFrom_append]
  rw [setFrom, setFrom, setFrom_zero _ _ hdz, htl]
  simp only [Int.toNat_natCast, Nat.zero_add, List.append_nil, low_add b k hk hb, List.map_append, List.append_assoc, List.map_cons, List.map_nil]
/-- What was put is what is read. -/
theorem setFrom_bitsB (m : Nat) (l : List Int) (hr : Rising l) (h0 : ∀ x ∈ l, 0 ≤ x ∧ (x / 8).toNat < m) : ∀ k, k ≤ l.length → setFrom 0 (bitsB m (l.take k)) = l.take k
  | 0, _ => by
    rw [List.take_zero, bitsB_nil]
    exact setFrom_zero _ _ (fun x hx => (List.mem_replicate.1 hx).2)
  | k + 1, hk => by
    obtain ⟨v, hv⟩ : ∃ v, l[k]? = some v := ⟨l[k], List.getElem?_eq_getElem (by omega)⟩
    have hv0 := h0 v (List.mem_of_getElem? hv)
    have e : l.take (k + 1) = l.take k ++ [v] := by rw [List.take_add_one, hv]; rfl
    have hlow := byteAt_lt hr (fun x hx => (h0 x hx).1) k v hv0.1 (fun i x hi hx => hr i k x v hx hv hi)
    rw [e, bitsB_snoc m _ v hv0.1 hv0.2]
    have hs := setFrom_set (bitsB m (l.take k)) (v / 8).toNat (byteAt (l.take k) (v / 8).toNat) (v % 8).toNat (bitsB_get _ _ _ hv0.2) (fun i x hi hx => by
      have him : i < m := by
        have := (List.getElem?_eq_some_iff.1 hx).1
        rwa [bitsB_len] at this
      rw [bitsB_get m _ i him] at hx
      simp only [Option.some.injEq] at hx
      subst hx
      have : byteAt (l.take k) i = 0 := by
        unfold byteAt
        have : (l.take k).filter (fun u => decide (u / 8 = (i : Int))) = [] := by
          rw [List.filter_eq_nil_iff]
          intro u hu
          obtain ⟨q, hq⟩ := List.getElem?_of_mem hu
          have hq1 : q < k := by
            have := (List.getElem?_eq_some_iff.1 hq).1
            rw [List.length_take] at this; omega
          rw [List.getElem?_take, if_pos hq1] at hq
          have h1 := hr q k u v hq hv hq1
          have h2 := h0 u (List.mem_of_getElem? hq)
          simp only [decide_eq_true_eq]
          omega
        rw [this]; rfl
      simp [this]) (by omega) hlow
    unfold bit
    rw [hs, setFrom_bitsB m l hr h0 k (by omega)]
    congr 2
    omega
end Code
end Go.Proofs.Ytmkbinbggiocaaa
