/- What is put is read: the plain law. -/
import Derived.Test.YtmkbinbggiocaaaReader4
import Derived.Test.YtmkbinbggiocaaaCode3
set_option linter.unusedVariables false
set_option linter.unusedSimpArgs false
namespace Go.Proofs.Ytmkbinbggiocaaa
open Go.RowKit
namespace Code
theorem natB_byte (n : Nat) : ∀ x ∈ natB n, 0 ≤ x ∧ x < 256 := by
  induction n using Nat.strongRecOn with
  | ind n ih =>
    intro x hx
    by_cases h : n < 128
    · rw [natB_small h] at hx
      simp only [List.mem_singleton] at hx
      omega
    · rw [natB_big h] at hx
      rcases List.mem_cons.1 hx with rfl | hx
      · omega
      · exact ih _ (by omega) x hx
theorem byteAt_256 {l : List Int} (hr : Rising l) (h0 : ∀ x ∈ l, 0 ≤ x) (j : Nat) : ∀ k, byteAt (l.take k) j < 256
  | 0 => by simp [byteAt]
  | k + 1 => by
    have ih := byteAt_256 hr h0 j k
    cases hx : l[k]? with
    | none => rw [List.take_add_one, hx]; simpa using ih
    | some u =>
      have hu0 := h0 u (List.mem_of_getElem? hx)
      have e : l.take (k + 1) = l.take k ++ [u] := by rw [List.take_add_one, hx]; rfl
      rw [e, byteAt_snoc]
      by_cases h : u / 8 = (j : Int)
      · rw [if_pos h]
        have h1 := byteAt_lt hr h0 k u hu0 (fun i x hi hx' => hr i k x u hx' hx hi)
        have e8 : (u / 8).toNat = j := by omega
        rw [e8] at h1
        have := bit_le u hu0
        omega
      · rw [if_neg h]; omega
theorem bitsB_byte {m : Nat} {l : List Int} (hr : Rising l) (h0 : ∀ x ∈ l, 0 ≤ x) : ∀ x ∈ bitsB m l, 0 ≤ x ∧ x < 256 := by
  intro x hx
  simp only [bitsB, List.mem_map, List.mem_range] at hx
  obtain ⟨j, _, rfl⟩ := hx
  have := byteAt_256 hr h0 j l.length
  rw [List.take_length] at this
  omega
/-- The bytes of a list and a set. -/
def packB (l : List Int) (N : Int) (s : List Int) : List Int := listB signN l ++ bitsB (wideN N) s
/-- Where the number i of the list stands. -/
def posB (l : List Int) (i : Nat) : Nat := (natB l.length ++ (l.take i).flatMap fun x => natB (signN x)).length
theorem packB_split (l : List Int) (N : Int) (s : List Int) (i : Nat) : packB l N s = (natB l.length ++ (l.take i).flatMap fun x => natB (signN x)) ++ (((l.drop i).flatMap fun x => natB (signN x)) ++ bitsB (wideN N) s) := by
  unfold packB listB
  have : l.flatMap (fun x => natB (signN x)) = ((l.take i).flatMap fun x => natB (signN x)) ++ ((l.drop i).flatMap fun x => natB (signN x)) := by
    rw [← List.flatMap_append, List.take_append_drop]
  rw [this]
  simp only [List.append_assoc]
theorem packB_drop (l : List Int) (N : Int) (s : List Int) (i : Nat) : (packB l N s).drop (posB l i) = ((l.drop i).flatMap fun x => natB (signN x)) ++ bitsB (wideN N) s := by
  rw [packB_split l N s i, posB, List.drop_left]
theorem flat_ge : ∀ (l : List Int), l.length ≤ (l.flatMap fun x => natB (signN x)).length
  | [] => by simp
  | x :: l => by
    have := flat_ge l
    have h := List.length_pos_iff.2 (natB_ne (signN x))
    simp only [List.flatMap_cons, List.length_append, List.length_cons]
    omega
theorem back_count (l : List Int) (N : Int) (s : List Int) (hl : l.length ≤ 10000) : rCount (packB l N s) 0 false = (l.length, posB l 0, false) := by
  have hp : natP 0 ((packB l N s).drop 0) = some (l.length, (natB l.length).length) := by
    rw [List.drop_zero, packB, listB, List.append_assoc]
    exact natP_back _ (by omega) _
  unfold rCount
  rw [hp]
  simp only
  have h1 := flat_ge l
  rw [if_neg (by simp), if_pos]
  · simp [posB]
  · simp only [packB, listB, List.length_append]
    omega
theorem back_int (l : List Int) (N : Int) (s : List Int) (i : Nat) (x : Int) (hx : l[i]? = some x) (hr : -9223372036854775808 ≤ x ∧ x ≤ 9223372036854775807) : rNat (packB l N s) (posB l i) false = (signN x, posB l (i + 1), false) := by
  have hi : i < l.length := (List.getElem?_eq_some_iff.1 hx).1
  have hd : l.drop i = x :: l.drop (i + 1) := by
    rw [List.drop_eq_getElem_cons hi]; congr 1; rw [List.getElem?_eq_getElem hi] at hx; simpa using hx
  have hp : natP 0 ((packB l N s).drop (posB l i)) = some (signN x, (natB (signN x)).length) := by
    rw [packB_drop, hd, List.flatMap_cons, List.append_assoc]
    exact natP_back _ (signN_lt x hr.1 hr.2) _
  unfold rNat
  rw [hp]
  simp only
  rw [if_neg (by simp)]
  have : posB l (i + 1) = posB l i + (natB (signN x)).length := by
    unfold posB
    rw [flat_take (fun x => natB (signN x)) l i x hx]
    simp only [List.length_append]
    omega
  rw [this]
theorem packB_len (l : List Int) (N : Int) (s : List Int) : (packB l N s).length = posB l l.length + wideN N := by
  rw [packB_split l N s l.length, List.length_append]
  simp [posB, bitsB_len]
theorem back_bits (l : List Int) (N : Int) (s : List Int) (hok : bitsOk N s = true) : rBits (packB l N s) (posB l l.length) false N = (s, posB l l.length + wideN N, false) := by
  simp only [bitsOk, Bool.and_eq_true, decide_eq_true_eq] at hok
  obtain ⟨⟨h0, h1⟩, hrise⟩ := hok
  rw [rises_iff] at hrise
  obtain ⟨hris, hrng⟩ := hrise
  have hset : setFrom 0 (((packB l N s).drop (posB l l.length)).take (wideN N)) = s := by
    rw [packB_drop, List.drop_length]
    simp only [List.flatMap_nil, List.nil_append]
    rw [List.take_of_length_le (by rw [bitsB_len]; exact Nat.le_refl _)]
    have := setFrom_bitsB (wideN N) s hris (fun x hx => ⟨by have := (hrng x hx).1; omega, by have := (hrng x hx).1; have := (hrng x hx).2; unfold wideN; omega⟩) s.length (Nat.le_refl _)
    rwa [List.take_length] at this
  have hlo : lastOk N s = true := by
    unfold lastOk
    cases hx : s.getLast? with
    | none => rfl
    | some x =>
      simp only [decide_eq_true_eq]
      exact (hrng x (List.mem_of_getLast? hx)).2
  unfold rBits
  rw [hset, hlo]
  have hlen := packB_len l N s
  rw [if_neg (by omega)]
  simp
theorem packB_byte (l : List Int) (N : Int) (s : List Int) (hok : bitsOk N s = true) : ∀ x ∈ packB l N s, 0 ≤ x ∧ x < 256 := by
  simp only [bitsOk, Bool.and_eq_true, decide_eq_true_eq] at hok
  obtain ⟨⟨h0, h1⟩, hrise⟩ := hok
  rw [rises_iff] at hrise
  intro x hx
  simp only [packB, listB, List.mem_append, List.mem_flatMap] at hx
  rcases hx with (hx | ⟨y, _, hx⟩) | hx
  · exact natB_byte _ x hx
  · exact natB_byte _ x hx
  · exact bitsB_byte hrise.1 (fun y hy => by have := (hrise.2 y hy).1; omega) x hx
end Code
end Go.Proofs.Ytmkbinbggiocaaa
