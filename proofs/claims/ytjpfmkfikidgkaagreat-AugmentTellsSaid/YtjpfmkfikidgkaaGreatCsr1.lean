/- Arcs: the one that leads back; an arc's edge; what the reference tells of an arc. -/
import Derived.Test.YtjpfmkfikidgkaaGreatCsrLaw
import Derived.Test.YtjpfmkfikidgkaaGreatRefN3
set_option linter.unusedVariables false
set_option linter.unusedSimpArgs false
namespace Go.Proofs.YtjpfmkfikidgkaaGreat
open Go.RowKit
namespace Edge
theorem xor_back (i : Nat) : i ^^^ 1 = back i := by
  have h1 : (i ^^^ 1) / 2 = i / 2 := by rw [Nat.xor_div_two]; simp
  have h2 : (i ^^^ 1) % 2 = (i + 1) % 2 := by
    have := Nat.xor_mod_two_pow (a := i) (b := 1) (n := 1)
    simp only [Nat.pow_one] at this
    rw [this]
    rcases Nat.mod_two_eq_zero_or_one i with h | h
    · rw [h]; simp; omega
    · rw [h]; simp; omega
  unfold back
  split <;> omega
theorem bits_back (i : Nat) (h : i < 9223372036854775808) : bits .xor .i64 (i : Int) 1 = ((back i : Nat) : Int) := by
  show IntKind.i64.wrap ((BitVec.ofInt 64 (i : Int) ^^^ BitVec.ofInt 64 1).toNat : Int) = _
  have h1 : (BitVec.ofInt 64 1).toNat = 1 := by decide
  have h2 : (BitVec.ofInt 64 (i : Int)).toNat = i := by
    rw [BitVec.ofInt_natCast, BitVec.toNat_ofNat]; exact Nat.mod_eq_of_lt (by omega)
  have h3 : back i < 9223372036854775808 := by unfold back; split <;> omega
  rw [BitVec.toNat_xor, h1, h2, xor_back, IntKind.wrap_i64]
  omega
def backI (i : Int) : Int := if i < 0 then -1 else ((back i.toNat : Nat) : Int)
def halfI (i : Int) : Int := if i < 0 then -1 else ((i.toNat / 2 : Nat) : Int)
def headI (L : List Ed) (i : Int) : Int := if i < 0 then -1 else headE L i.toNat
def tailI (L : List Ed) (i : Int) : Int := if i < 0 then -1 else tailE L i.toNat
def capI (L : List Ed) (i : Int) : Int := if i < 0 then 0 else capE L i.toNat
theorem head_backI (L : List Ed) (i : Int) : headI L (backI i) = tailI L i := by
  unfold headI tailI backI
  by_cases h : i < 0
  · rw [if_pos h, if_pos (by omega), if_pos h]
  · rw [if_neg h, if_neg (by omega), if_neg h]; rfl
theorem tail_backI (L : List Ed) (i : Int) : tailI L (backI i) = headI L i := by
  unfold headI tailI backI
  by_cases h : i < 0
  · rw [if_pos h, if_pos (by omega), if_pos h]
  · rw [if_neg h, if_neg (by omega), if_neg h, Int.toNat_natCast, tail_back]
theorem backI_le {i : Int} (hi : i ≤ 9223372036854775807) : backI i ≤ 9223372036854775807 := by
  unfold backI back
  by_cases h : i < 0
  · rw [if_pos h]; omega
  · rw [if_neg h]
    split <;> omega
theorem back_any (i : Int) (hi : i ≤ 9223372036854775807) (w : World) : Calls Tryz.prog 113 #[.int .i64 i] w fun e w' => e = .returned (.int .i64 (backI i)) ∧ w' = w := by
  by_cases h : i < 0
  · have e : backI i = -1 := by unfold backI; rw [if_pos h]
    rw [e]
    go_enter Tryz.func113, Tryz.ntmps113
    go_wp2
    go_ret
    exact ⟨rfl, rfl⟩
  · obtain ⟨k, rfl⟩ := Int.eq_ofNat_of_zero_le (show 0 ≤ i by omega)
    have e : backI (k : Int) = ((back k : Nat) : Int) := by unfold backI; rw [if_neg h, Int.toNat_natCast]
    rw [e]
    have hb := bits_back k (by omega)
    generalize ((back k : Nat) : Int) = r at *
    clear e hi
    go_enter Tryz.func113, Tryz.ntmps113
    go_wp2
    go_ret
    exact ⟨rfl, rfl⟩
theorem rback_any (i : Int) (hi : i ≤ 9223372036854775807) (w : World) : Calls Tryz.prog 237 #[.int .i64 i] w fun e w' => e = .returned (.int .i64 (backI i)) ∧ w' = w := by
  by_cases h : i < 0
  · have e : backI i = -1 := by unfold backI; rw [if_pos h]
    rw [e]
    go_enter Tryz.func237, Tryz.ntmps237
    go_wp2
    go_ret
    exact ⟨rfl, rfl⟩
  · obtain ⟨k, rfl⟩ := Int.eq_ofNat_of_zero_le (show 0 ≤ i by omega)
    by_cases h2 : k % 2 = 0
    · have e : backI (k : Int) = (k : Int) + 1 := by unfold backI back; rw [if_neg h, Int.toNat_natCast, if_pos h2]; omega
      rw [e]
      have t1 : ((k : Int) % 2 == 0) = true := by simp; omega
      have hk : (k : Int) < 9223372036854775807 := by omega
      clear e h2 hi
      go_enter Tryz.func237, Tryz.ntmps237
      go_wp2
      go_ret
      exact ⟨rfl, rfl⟩
    · have e : backI (k : Int) = (k : Int) - 1 := by unfold backI back; rw [if_neg h, Int.toNat_natCast, if_neg h2]; omega
      rw [e]
      have t1 : ((k : Int) % 2 == 0) = false := by simp; omega
      have hk : (0 : Int) < (k : Int) := by omega
      clear e h2
      go_enter Tryz.func237, Tryz.ntmps237
      go_wp2
      go_ret
      exact ⟨rfl, rfl⟩
set_option maxRecDepth 100000 in
set_option maxHeartbeats 2000000 in
theorem rtail_any (n : Nat) {L : List Ed} {a : Option Addr} {c : Nat} {w : World} (h : Rd w 3 (.slice a L.length c) L.length (flat encEd L)) (hl : L.length ≤ 1048576) (i : Int) (hi : i ≤ 9223372036854775807) :
    Calls Tryz.prog 112 #[netV n a L.length c, .int .i64 i] w fun e w' => e = .returned (.int .i64 (tailI L i)) ∧ Mod [] w w' := by
  have hmod := Lib.hid ((Mod.refl [] w).alloc (.cells #[.int .i64 n, .slice a L.length c] 32))
  have h' := Lib.hid h
  clear h
  unfold netV
  by_cases h0 : i < 0
  · have e : tailI L i = -1 := by unfold tailI; rw [if_pos h0]
    rw [e]
    clear e
    go_enter Tryz.func112, Tryz.ntmps112
    go_wp2_with fail
    go_ret
    exact ⟨rfl, hmod.out⟩
  obtain ⟨k, rfl⟩ := Int.eq_ofNat_of_zero_le (show 0 ≤ i by omega)
  have et : tailI L (k : Int) = tailE L k := by unfold tailI; rw [if_neg h0, Int.toNat_natCast]
  rw [et]
  clear et
  have hB := Has.new w [.int .i64 n, .slice a L.length c] 32
  have b1 := hB.cell 1 rfl
  have bl := hB.lt
  clear hB
  by_cases h1 : k < 2 * L.length
  · have hk : k / 2 < L.length := by omega
    obtain ⟨g, o, rfl, hg, hcell⟩ := ed_cells h'.out hk
    obtain ⟨q0, q1, q2⟩ := hcell _ hmod.out
    have et := tailE_get h1
    generalize L[k / 2] = x at *
    obtain ⟨xu, xv, xw⟩ := x
    simp only at q0 q1 q2 et
    have hk1 : (k : Int) / 2 < L.length := by omega
    by_cases h2 : k % 2 = 0
    · rw [if_pos h2] at et
      rw [et]
      have t1 : ((k : Int) % 2 == 0) = true := by simp; omega
      clear et h2 hcell
      go_enter Tryz.func112, Tryz.ntmps112
      go_wp2_with fail
      go_ret
      exact ⟨rfl, hmod.out⟩
    · rw [if_neg h2] at et
      rw [et]
      have t1 : ((k : Int) % 2 == 0) = false := by simp; omega
      clear et h2 hcell
      go_enter Tryz.func112, Tryz.ntmps112
      go_wp2_with fail
      go_ret
      exact ⟨rfl, hmod.out⟩
  · rw [tailE_out h1]
    have hk1 : (L.length : Int) ≤ (k : Int) / 2 := by omega
    have t1 : decide ((L.length : Int) ≤ (k : Int) / 2) = true := by simp; omega
    clear h1
    go_enter Tryz.func112, Tryz.ntmps112
    go_wp2_with fail
    go_ret
    exact ⟨rfl, hmod.out⟩
set_option maxRecDepth 100000 in
set_option maxHeartbeats 2000000 in
theorem rhead_any (n : Nat) {L : List Ed} {a : Option Addr} {c : Nat} {w : World} (h : Rd w 3 (.slice a L.length c) L.length (flat encEd L)) (hl : L.length ≤ 1048576) (i : Int) (hi : i ≤ 9223372036854775807) :
    Calls Tryz.prog 182 #[netV n a L.length c, .int .i64 i] w fun e w' => e = .returned (.int .i64 (headI L i)) ∧ Mod [] w w' := by
  have hmod := Lib.hid ((Mod.refl [] w).alloc (.cells #[.int .i64 n, .slice a L.length c] 32))
  have ht := Lib.hid (fun W (m : Mod [] w W) => rtail_any n (h.still m) hl (backI i) (backI_le hi))
  have hb := Lib.hid (rback_any i hi)
  rw [tail_backI] at ht
  unfold netV at ht ⊢
  have hB := Has.new w [.int .i64 n, .slice a L.length c] 32
  have hB' := Lib.hid hB
  clear h hB
  clear hi hl
  go_enter Tryz.func182, Tryz.ntmps182
  go_upto_region 1 with fail
  have b0 : ∀ m : Fut (Mod []) (w.alloc (.cells #[.int .i64 n, .slice a L.length c] 32)).drew, m.v.cell? ⟨w.heap.size, 0, none⟩ = some (.int .i64 n) := fun m => (hB'.out.keep ((Mod.refl [] _).drew.trans m.of (by simp)) (by simp)).cell 0 rfl
  have b1 : ∀ m : Fut (Mod []) (w.alloc (.cells #[.int .i64 n, .slice a L.length c] 32)).drew, m.v.cell? ⟨w.heap.size, 1, none⟩ = some (.slice a L.length c) := fun m => (hB'.out.keep ((Mod.refl [] _).drew.trans m.of (by simp)) (by simp)).cell 1 rfl
  refine region_sched (G := Mod []) [([0,1],2), ([],3)] [4] (by kernel_rfl) (by kernel_rfl) (by kernel_rfl) rfl (Mod.refl []) (fun _ _ _ h1 h2 => h1.trans h2 (by simp)) ?_
  simp only [stages, pickO, nthO, headO, List.append_eq, List.cons_append, List.nil_append]
  refine sched_step ?_
  repeat (go_big_quiet_step (fail))
  refine wpQuiet_nil ?_
  intro K hK
  rw [if_pos (by rfl)]
  go_simp
  refine (hb.out _).mono ?_
  rintro e w1 ⟨rfl, rfl⟩
  try dsimp only
  refine hK.out _ _ (Mod.refl _ _) ?_
  clear hK K
  refine sched_step ?_
  refine wpQuiet_nil ?_
  intro K hK
  rw [if_pos (by rfl)]
  go_simp
  refine (ht.out _ (hmod.out.trans (Mod.refl [] _).drew (by simp))).mono ?_
  rintro e w1 ⟨rfl, hm⟩
  try dsimp only
  refine hK.out _ _ hm ?_
  have hm' := Lib.hid (hmod.out.trans ((Mod.refl [] _).drew.trans hm (by simp)) (by simp))
  clear hK K hm b0 b1
  refine sched_last ?_
  repeat (go_big_quiet_step (fail))
  refine wpQuiet_nil ?_
  go_wp2_with fail
  go_ret
  exact ⟨rfl, hm'.out⟩
end Edge
end Go.Proofs.YtjpfmkfikidgkaaGreat
