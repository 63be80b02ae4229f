/- Edges: Check, Checks, Normal, num.Add. -/
import Derived.Test.YtjpfmkfikidgkaaGreatNetLaw
import Derived.Test.YtjpfmkfikidgkaaGreatSep
import Derived.Deep.DeepCutAuto
import Derived.Deep.CutBlock
set_option linter.unusedVariables false
set_option linter.unusedSimpArgs false
namespace Go.Proofs.YtjpfmkfikidgkaaGreat
open Go.RowKit
namespace Edge
def encEd (e : Ed) : List Value := [.int .i64 e.1, .int .i64 e.2.1, .int .i64 e.2.2]
theorem encEd_len (e : Ed) : (encEd e).length = 3 := rfl
def edV (e : Ed) : Value := .agg #[.int .i64 e.1, .int .i64 e.2.1, .int .i64 e.2.2]
theorem ret_i64 {a b : Int} (h : a = b) : Ending.returned (.int .i64 a) = .returned (.int .i64 b) := by rw [h]
set_option maxRecDepth 100000 in
set_option maxHeartbeats 1000000 in
theorem check_any (n : Int) (e : Ed) (w : World) : Calls Tryz.prog 166 #[.int .i64 n, edV e] w fun en w' => en = .returned (.int .i64 (checkE n e)) ∧ Mod [] w w' := by
  obtain ⟨u, v, c⟩ := e
  have hb := Has.new w [.int .i64 u, .int .i64 v, .int .i64 c] 146
  have hm := Lib.hid ((Mod.refl [] w).alloc (.cells #[.int .i64 u, .int .i64 v, .int .i64 c] 146))
  have q0 := hb.cell 0 rfl
  have q1 := hb.cell 1 rfl
  have q2 := hb.cell 2 rfl
  have hlt := hb.lt
  unfold edV checkE
  simp only
  obtain ⟨r, hr⟩ : ∃ r, r = (if u < 0 ∨ n ≤ u ∨ v < 0 ∨ n ≤ v then (4 : Int) else if c < 0 ∨ 2147483648 < c then 5 else 0) := ⟨_, rfl⟩
  rw [← hr]
  have hr' := Lib.hid hr
  clear hb hr
  have e1 := Lib.hid (fun (h : u < 0 ∨ n ≤ u ∨ v < 0 ∨ n ≤ v) => (by rw [hr'.out, if_pos h] : r = 4))
  have e2 := Lib.hid (fun (h : ¬ (u < 0 ∨ n ≤ u ∨ v < 0 ∨ n ≤ v)) (h2 : c < 0 ∨ 2147483648 < c) => (by rw [hr'.out, if_neg h, if_pos h2] : r = 5))
  have e3 := Lib.hid (fun (h : ¬ (u < 0 ∨ n ≤ u ∨ v < 0 ∨ n ≤ v)) (h2 : ¬ (c < 0 ∨ 2147483648 < c)) => (by rw [hr'.out, if_neg h, if_neg h2] : r = 0))
  clear hr'
  have hix0 : ∀ (a b : Int) (w : World), (Instr.index 109 (.agg #[.int .i64 a, .int .i64 b]) (.int .i64 0)).run Tryz.prog w = .ok (.int .i64 a) w := fun _ _ _ => by kernel_rfl
  have hix1 : ∀ (a b : Int) (w : World), (Instr.index 109 (.agg #[.int .i64 a, .int .i64 b]) (.int .i64 1)).run Tryz.prog w = .ok (.int .i64 b) w := fun _ _ _ => by kernel_rfl
  go_enter Tryz.func166, Tryz.ntmps166
  go_wp2_with fail
  generalize w.alloc _ = w1 at *
  generalize w.heap.size = B at *
  go_loopw [12] (fun i wr => ∃ k : Nat, k ≤ 2 ∧ i = .int .i64 k ∧ wr = w1 ∧ (0 < k → 0 ≤ u ∧ u < n) ∧ (1 < k → 0 ≤ v ∧ v < n)) (fun i _ => 2 - (intOf i).toNat)
  case atStart => exact ⟨0, by omega, rfl, rfl, fun h => by omega, fun h => by omega⟩
  case round =>
    obtain ⟨k, hk, rfl, rfl, h1, h2⟩ := hrel
    by_cases k0 : k = 0
    · subst k0
      by_cases hu : u < 0
      · go_wp2_with fail
        go_ret
        exact ⟨ret_i64 (e1.out (by omega)).symm, hm.out⟩
      by_cases hu2 : n ≤ u
      · go_wp2_with fail
        go_ret
        exact ⟨ret_i64 (e1.out (by omega)).symm, hm.out⟩
      go_wp2_with fail
      go_roundw
      case rel => exact ⟨1, by omega, rfl, trivial, fun _ => by omega, fun h => by omega⟩
      case measure => simp [intOf]
    by_cases k1 : k = 1
    · subst k1
      have h1' := h1 (by omega)
      clear h1 h2
      by_cases hu : v < 0
      · go_wp2_with fail
        go_ret
        exact ⟨ret_i64 (e1.out (by omega)).symm, hm.out⟩
      by_cases hu2 : n ≤ v
      · go_wp2_with fail
        go_ret
        exact ⟨ret_i64 (e1.out (by omega)).symm, hm.out⟩
      go_wp2_with fail
      go_roundw
      case rel => exact ⟨2, by omega, rfl, trivial, fun _ => by omega, fun _ => by omega⟩
      case measure => simp [intOf]
    · have k2 : k = 2 := by omega
      subst k2
      have h1' := h1 (by omega)
      have h2' := h2 (by omega)
      clear h1 h2
      by_cases hc : c < 0
      · go_wp2_with fail
        go_ret
        exact ⟨ret_i64 (e2.out (by omega) (by omega)).symm, hm.out⟩
      by_cases hc2 : 2147483648 < c
      · go_wp2_with fail
        go_ret
        exact ⟨ret_i64 (e2.out (by omega) (by omega)).symm, hm.out⟩
      go_wp2_with fail
      go_ret
      exact ⟨ret_i64 (e3.out (by omega) (by omega)).symm, hm.out⟩
theorem ed_cells {w : World} {l : List Ed} {a : Option Addr} {c k : Nat} (h : Rd w 3 (.slice a l.length c) l.length (flat encEd l)) (hk : k < l.length) :
    ∃ g o, a = some ⟨g, o, none⟩ ∧ g < w.heap.size ∧ ∀ w', Mod [] w w' → w'.cell? ⟨g, o + k * 3, none⟩ = some (.int .i64 l[k].1) ∧ w'.cell? ⟨g, o + k * 3 + 1, none⟩ = some (.int .i64 l[k].2.1) ∧ w'.cell? ⟨g, o + k * 3 + 2, none⟩ = some (.int .i64 l[k].2.2) := by
  have hpos : 0 < (flat encEd l).length := by rw [h.1]; omega
  obtain ⟨g, o, rfl, _, _, _⟩ := h.at hpos
  have k0 := flat_get encEd_len l k 0 hk (by omega)
  have k1 := flat_get encEd_len l k 1 hk (by omega)
  have k2 := flat_get encEd_len l k 2 hk (by omega)
  refine ⟨g, o, rfl, World.block_lt_of_cell? w ⟨g, o + (k * 3 + 0), none⟩ (h.cellAt (k * 3 + 0) (by rw [k0]; rfl)), fun w' m => ?_⟩
  have h' := h.still m
  exact ⟨by have := h'.cellAt (k * 3 + 0) (u := .int .i64 l[k].1) (by rw [k0]; rfl); simpa using this, by have := h'.cellAt (k * 3 + 1) (u := .int .i64 l[k].2.1) (by rw [k1]; rfl); simpa [Nat.add_assoc] using this, by have := h'.cellAt (k * 3 + 2) (u := .int .i64 l[k].2.2) (by rw [k2]; rfl); simpa [Nat.add_assoc] using this⟩
set_option maxRecDepth 100000 in
set_option maxHeartbeats 1000000 in
theorem checks_any (n : Int) {l : List Ed} {v : Value} {w : World} (h : Rd w 3 v l.length (flat encEd l)) :
    Calls Tryz.prog 100 #[.int .i64 n, v] w fun en w' => en = .returned (.tuple #[.int .i64 (checksE n 0 l).1, .int .i64 (checksE n 0 l).2]) ∧ Mod [] w w' := by
  obtain ⟨a, c, rfl⟩ := h.val
  have hle := h.le
  have h' := Lib.hid h
  obtain ⟨r1, r2, hr⟩ : ∃ r1 r2, checksE n 0 l = (r1, r2) := ⟨_, _, rfl⟩
  rw [hr]
  have hr' := Lib.hid hr
  obtain ⟨m, hm⟩ : ∃ m, l.length = m := ⟨_, rfl⟩
  rw [hm]
  have hm' := Lib.hid hm
  rw [hm] at hle
  clear h hr hm
  go_enter Tryz.func100, Tryz.ntmps100
  go_wp2_with fail
  go_loopw [11] (fun i wr => ∃ k : Nat, k ≤ m ∧ i = .int .i64 k ∧ Hid (checksE n k (l.drop k) = (r1, r2)) ∧ Hid (Mod [] w wr)) (fun i _ => m - (intOf i).toNat)
  case atStart => exact ⟨0, Nat.zero_le _, rfl, hr', Lib.hid (Mod.refl _ _)⟩
  case round =>
    clear hr'
    obtain ⟨k, hk, rfl, hc, hmod⟩ := hrel
    by_cases hlt : k < m
    · have hlt1 : (k : Int) < m := by omega
      have hkl : k < l.length := by rw [hm'.out]; exact hlt
      obtain ⟨g, o, rfl, hg, hcell⟩ := ed_cells h'.out hkl
      obtain ⟨q0, q1, q2⟩ := hcell _ hmod.out
      have hgl : g < wr.heap.size := Nat.lt_of_lt_of_le hg hmod.out.size
      have hd : l.drop k = l[k] :: l.drop (k + 1) := List.drop_eq_getElem_cons hkl
      rw [hd] at hc
      generalize l[k] = e at *
      obtain ⟨eu, ev, ec⟩ := e
      simp only at q0 q1 q2
      have hck := fun W => check_any n (eu, ev, ec) W
      unfold edV at hck
      simp only at hck
      have hc2 : Hid ((checkE n (eu, ev, ec) = 0 ∧ checksE n (k + 1) (l.drop (k + 1)) = (r1, r2)) ∨ (checkE n (eu, ev, ec) ≠ 0 ∧ r1 = checkE n (eu, ev, ec) ∧ r2 = k)) := by
        have := hc.out
        unfold checksE at this
        by_cases h0 : checkE n (eu, ev, ec) = 0
        · rw [if_pos h0] at this; exact Lib.hid (.inl ⟨h0, this⟩)
        · rw [if_neg h0] at this
          simp only [Prod.mk.injEq] at this
          exact Lib.hid (.inr ⟨h0, this.1.symm, this.2.symm⟩)
      generalize checkE n (eu, ev, ec) = ce at *
      have hck' := Lib.hid hck
      have hB := Has.new wr [.int .i64 eu, .int .i64 ev, .int .i64 ec] 146
      have hmB := Lib.hid (hmod.out.alloc (.cells #[.int .i64 eu, .int .i64 ev, .int .i64 ec] 146))
      clear hc hd hck hcell hkl
      rcases hc2.out with ⟨rfl, hc3⟩ | ⟨hne, rfl, rfl⟩
      · have hc3' := Lib.hid hc3
        clear hc2 hc3
        go_wp2_with fail
        refine (hck'.out _).mono ?_
        rintro e w1 ⟨rfl, hm1⟩
        try dsimp only
        have hm2 := Lib.hid (hmB.out.trans hm1 (by simp))
        clear hm1 hB hmB
        go_wp2_with fail
        go_roundw
        case rel => exact ⟨k + 1, by omega, by go_num, hc3', hm2⟩
        case measure => simp [intOf]; omega
      · have hne1 : (r1 == 0) = false := by simpa using hne
        clear hc2 hne
        go_wp2_with fail
        refine (hck'.out _).mono ?_
        rintro e w1 ⟨rfl, hm1⟩
        try dsimp only
        have hm2 := Lib.hid (hmB.out.trans hm1 (by simp))
        clear hm1 hB hmB
        go_wp2_with fail
        go_ret2
        exact ⟨rfl, hm2.out⟩
    · have hkm : k = m := by omega
      subst hkm
      have hd : l.drop k = [] := by rw [← hm'.out]; exact List.drop_length
      rw [hd] at hc
      have hc2 := hc.out
      unfold checksE at hc2
      simp only [Prod.mk.injEq] at hc2
      obtain ⟨rfl, rfl⟩ := hc2
      clear hd hc
      go_wp2_with fail
      go_ret2
      exact ⟨rfl, hmod.out⟩
set_option maxRecDepth 100000 in
set_option maxHeartbeats 1000000 in
theorem normal_any (e : Ed) (w : World) : Calls Tryz.prog 167 #[edV e] w fun en w' => en = .returned (edV (norm e)) ∧ Mod [] w w' := by
  obtain ⟨u, v, c⟩ := e
  unfold edV norm
  simp only
  by_cases h : v < u
  · rw [if_pos h]
    go_enter Tryz.func167, Tryz.ntmps167
    go_wp2_with fail
    exact bodyPost_ret (v := .agg #[.int .i64 v, .int .i64 u, .int .i64 c]) (by simp [results, Tryz.results167, go_sem]) rfl ⟨rfl, ((Mod.refl [] w).alloc _).alloc _⟩
  · rw [if_neg h]
    go_enter Tryz.func167, Tryz.ntmps167
    go_wp2_with fail
    exact bodyPost_ret (v := .agg #[.int .i64 u, .int .i64 v, .int .i64 c]) (by simp [results, Tryz.results167, go_sem]) rfl ⟨rfl, ((Mod.refl [] w).alloc _).alloc _⟩
theorem bits_xor_pos {x y : Int} (hx : 0 ≤ x) (hx2 : x < 9223372036854775808) (hy : 0 ≤ y) (hy2 : y < 9223372036854775808) : ∃ z : Int, bits .xor .i64 x y = z ∧ 0 ≤ z ∧ z < 9223372036854775808 := by
  obtain ⟨a, rfl⟩ := Int.eq_ofNat_of_zero_le hx
  obtain ⟨b, rfl⟩ := Int.eq_ofNat_of_zero_le hy
  have h1 : (BitVec.ofInt 64 (a : Int)).toNat = a := by
    rw [BitVec.ofInt_natCast, BitVec.toNat_ofNat]; exact Nat.mod_eq_of_lt (by omega)
  have h2 : (BitVec.ofInt 64 (b : Int)).toNat = b := by
    rw [BitVec.ofInt_natCast, BitVec.toNat_ofNat]; exact Nat.mod_eq_of_lt (by omega)
  have h3 : a ^^^ b < 2 ^ 63 := Nat.xor_lt_two_pow (by omega) (by omega)
  refine ⟨((a ^^^ b : Nat) : Int), ?_, by omega, by omega⟩
  show IntKind.i64.wrap ((BitVec.ofInt 64 (a : Int) ^^^ BitVec.ofInt 64 (b : Int)).toNat : Int) = _
  rw [BitVec.toNat_xor, h1, h2]
  exact IntWalk.i64_in _ (by omega)
theorem bits_and_pos {x y : Int} (hx : 0 ≤ x) (hx2 : x < 9223372036854775808) (hy : 0 ≤ y) (hy2 : y < 9223372036854775808) : ∃ z : Int, bits .and .i64 x y = z ∧ 0 ≤ z ∧ z < 9223372036854775808 := by
  obtain ⟨a, rfl⟩ := Int.eq_ofNat_of_zero_le hx
  obtain ⟨b, rfl⟩ := Int.eq_ofNat_of_zero_le hy
  have h1 : (BitVec.ofInt 64 (a : Int)).toNat = a := by
    rw [BitVec.ofInt_natCast, BitVec.toNat_ofNat]; exact Nat.mod_eq_of_lt (by omega)
  have h2 : (BitVec.ofInt 64 (b : Int)).toNat = b := by
    rw [BitVec.ofInt_natCast, BitVec.toNat_ofNat]; exact Nat.mod_eq_of_lt (by omega)
  have h3 : a &&& b < 2 ^ 63 := Nat.and_lt_two_pow a (by omega)
  refine ⟨((a &&& b : Nat) : Int), ?_, by omega, by omega⟩
  show IntKind.i64.wrap ((BitVec.ofInt 64 (a : Int) &&& BitVec.ofInt 64 (b : Int)).toNat : Int) = _
  rw [BitVec.toNat_and, h1, h2]
  exact IntWalk.i64_in _ (by omega)
set_option maxRecDepth 100000 in
set_option maxHeartbeats 1000000 in
theorem add_any {a b : Int} (ha : 0 ≤ a) (hb : 0 ≤ b) (hab : a + b ≤ 4611686018427387904) (w : World) : Calls Tryz.prog 168 #[.int .i64 a, .int .i64 b] w fun en w' => en = .returned (.tuple #[.int .i64 (a + b), .bool true]) ∧ w' = w := by
  obtain ⟨x, hx, x0, x1⟩ := bits_xor_pos ha (by omega) (show 0 ≤ a + b by omega) (by omega)
  obtain ⟨y, hy, y0, y1⟩ := bits_xor_pos hb (by omega) (show 0 ≤ a + b by omega) (by omega)
  obtain ⟨z, hz, z0, z1⟩ := bits_and_pos x0 x1 y0 y1
  have t : decide (z < 0) = false := by simp; omega
  clear x0 x1 y0 y1 z0 z1
  go_enter Tryz.func168, Tryz.ntmps168
  go_wp2_with fail
  go_ret2
  exact ⟨rfl, rfl⟩
end Edge
end Go.Proofs.YtjpfmkfikidgkaaGreat
