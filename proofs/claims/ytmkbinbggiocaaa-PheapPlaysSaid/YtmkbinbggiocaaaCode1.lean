/- Numbers as bytes: bytes.Clone, code.Nat. -/
import Derived.Test.YtmkbinbggiocaaaRd
set_option linter.unusedVariables false
set_option linter.unusedSimpArgs false
namespace Go.Proofs.Ytmkbinbggiocaaa
open Go.RowKit
namespace Code
theorem infoU8 : (Try.prog.info? 5).map (fun i => (i.zero, i.size, i.bytes)) = some (some (.int .u8 0), 1, 1) := by kernel_rfl
set_option maxHeartbeats 1000000 in
theorem clone_any {w : World} {vb : Value} {bs : List Int} (hb : Rd w 1 vb bs.length (u8s bs)) (hlen : bs.length ≤ 1000000) :
    Calls Try.prog 96 #[vb] w (MadeOut 5 1 bs.length (u8s bs) w) := by
  rcases hb.2 with ⟨rfl, h0⟩ | ⟨ad, c, rfl, h1, h2, h3⟩
  · have hn := fun w : World => Lib.run_eql_slice_nil (P := Try.prog) w 45 5 none 0 0 0 0 Try.underlying45
    have hbs : bs = [] := List.eq_nil_of_length_eq_zero h0
    subst hbs
    clear h0 hb hlen
    go_enter Try.func96, Try.ntmps96
    go_wp2
    go_ret
    exact ⟨none, 0, rfl, World.ownsRow_nil _ _ _ _, Mod.refl _ _, by simp [Value.ownBlock]⟩
  · have hn := fun w : World => Lib.run_eql_slice_nil (P := Try.prog) w 45 5 (some ad) bs.length c 0 0 Try.underlying45
    have hb' := Lib.hid hb
    clear h3 hb
    go_enter Try.func96, Try.ntmps96
    go_wp2_with (at_builtin; refine app_rd rfl (.tmp 5) (.tmp 6) 45 5 _ 1 1 rfl Try.underlying45 infoU8 rfl (by omega) (by omega) (.slice (some ⟨w.heap.size, 0, none⟩) 0 0) (.slice (some ad) bs.length c) 0 bs.length [] (u8s bs) rfl rfl (u8s_one bs) (World.ownsRow_made w #[] 0 (Nat.zero_le _) (Nat.zero_le _) rfl) (hb'.out.still ((Mod.refl _ _).alloc _)) (by omega) ?_; intro a1 c1 w1 h1 h2 h3)
    go_ret
    rw [Nat.zero_add] at h1 h3
    exact ⟨a1, c1, rfl, h1, ((Mod.refl [] w).alloc _).ge h2 (by simp [Value.ownBlock]), ge_of_old _ (by simp [Value.ownBlock]) h3 (by simp)⟩

/-! ### code.Nat -/
/-- A number's bytes: seven bits each, the lowest first. -/
def natB (n : Nat) : List Int := if n < 128 then [(n : Int)] else ((n % 128 + 128 : Nat) : Int) :: natB (n / 128)
termination_by n
decreasing_by omega
theorem natB_small {n : Nat} (h : n < 128) : natB n = [(n : Int)] := by rw [natB, if_pos h]
theorem natB_big {n : Nat} (h : ¬ n < 128) : natB n = ((n % 128 + 128 : Nat) : Int) :: natB (n / 128) := by rw [natB, if_neg h]
theorem natB_len (k : Nat) : ∀ n, n < 128 ^ k → 0 < k → (natB n).length ≤ k := by
  induction k with
  | zero => intro n _ h; omega
  | succ k ih =>
    intro n hn _
    by_cases h : n < 128
    · rw [natB_small h]; simp
    · rw [natB_big h, List.length_cons]
      have : n / 128 < 128 ^ k := by rw [Nat.div_lt_iff_lt_mul (by omega)]; rw [Nat.pow_succ] at hn; omega
      have hk : 0 < k := by
        rcases Nat.eq_zero_or_pos k with rfl | h'
        · simp at this; omega
        · exact h'
      have := ih _ this hk
      omega
theorem or128 (m : Nat) : bits .or .u8 ((m : Int) % 256) 128 = ((m % 128 + 128 : Nat) : Int) := by
  have h : ∀ x : Fin 256, bits .or .u8 ((x.val : Nat) : Int) 128 = ((x.val % 128 + 128 : Nat) : Int) := by decide +kernel
  have h1 := h ⟨m % 256, Nat.mod_lt _ (by omega)⟩
  simp only at h1
  rw [show ((m : Int) % 256) = ((m % 256 : Nat) : Int) from by omega, h1]
  omega
set_option maxHeartbeats 1000000 in
theorem nat_any {w : World} {vb : Value} {bs : List Int} (n : Nat) (hn : n < 18446744073709551616) (hb : Rd w 1 vb bs.length (u8s bs)) (hlen : bs.length ≤ 900000) :
    Calls Try.prog 32 #[vb, .int .u64 n] w (MadeOut 5 1 (bs ++ natB n).length (u8s (bs ++ natB n)) w) := by
  go_enter Try.func32, Try.ntmps32
  go_wp2_with fail
  refine (clone_any hb (by omega)).mono ?_
  rintro e w1 ⟨a1, c1, rfl, hm⟩
  dsimp only
  have htot : (bs ++ natB n).length ≤ 900010 := by
    have := natB_len 10 n (by omega) (by omega)
    rw [List.length_append]; omega
  clear hb
  go_wp2_with fail
  go_loopw [1, 5] (fun i v wr => ∃ (m : Nat) (zs : List Int) (av : Option Addr) (cv : Nat), i = .int .u64 m ∧ v = .slice av zs.length cv ∧ m ≤ n ∧ zs ++ natB m = bs ++ natB n ∧ Made w wr 5 1 av zs.length cv (u8s zs)) (fun i _ _ => (intOf i).toNat)
  case atStart => exact ⟨n, bs, a1, c1, rfl, rfl, Nat.le_refl _, rfl, hm⟩
  case round =>
    clear hm
    obtain ⟨m, zs, av, cv, rfl, rfl, hmn, heq, hm⟩ := hrel
    obtain ⟨wo, hwo⟩ : ∃ wo : World, wo = wr := ⟨_, rfl⟩
    clear hwo
    have hzl : zs.length + (natB m).length ≤ 900010 := by rw [← List.length_append, heq]; exact htot
    have heq' := Lib.hid heq
    clear heq htot
    by_cases h : m < 128
    · have hd : decide (128 ≤ (m : Int)) = false := by simp; omega
      have e : bs ++ natB n = zs ++ [(m : Int)] := by rw [← heq'.out, natB_small h]
      have e' := Lib.hid e
      clear e
      have hz : zs.length + 1 ≤ 900010 := by rw [natB_small h] at hzl; simpa using hzl
      go_wp2_with (at_builtin; refine app_own rfl (.tmp 18) (.tmp 21) 45 5 _ 1 1 rfl Try.underlying45 infoU8 rfl (by omega) (by omega) (.slice av zs.length cv) zs.length 1 (u8s zs) [.int .u8 m] rfl rfl (by simp) rfl (by simp [Value.oneCell']) hm.own (by omega) ?_; intro aA cA wA hA mA vA)
      go_ret
      rw [e'.out, List.length_append, u8s_append]
      exact ⟨aA, cA, rfl, hm.push hA mA vA⟩
    · have hd : decide (128 ≤ (m : Int)) = true := by simp; omega
      have e : (zs ++ [((m % 128 + 128 : Nat) : Int)]) ++ natB (m / 128) = bs ++ natB n := by rw [← heq'.out, natB_big h]; simp
      have e' := Lib.hid e
      clear e
      have hz : zs.length + 1 ≤ 900010 := by rw [natB_big h, List.length_cons] at hzl; omega
      have ho := or128 m
      go_wp2_with (at_builtin; refine app_own rfl (.tmp 12) (.tmp 16) 45 5 _ 1 1 rfl Try.underlying45 infoU8 rfl (by omega) (by omega) (.slice av zs.length cv) zs.length 1 (u8s zs) (u8s [((m % 128 + 128 : Nat) : Int)]) rfl rfl (by simp) rfl (u8s_one _) hm.own (by omega) ?_; intro aA cA wA hA mA vA)
      go_roundw
      case rel =>
        refine ⟨m / 128, zs ++ [((m % 128 + 128 : Nat) : Int)], aA, cA, ?_, by rw [List.length_append]; rfl, by omega, e'.out, ?_⟩
        · simp
        · rw [List.length_append, u8s_append]; exact hm.push hA mA vA
      case measure => simp [intOf]; omega
/-! ### sign, Int -/
def signN (n : Int) : Nat := if 0 ≤ n then (2 * n).toNat else (-2 * n - 1).toNat
theorem xor_ones (x : Nat) (h : x < 18446744073709551616) : x ^^^ 18446744073709551615 = 18446744073709551615 - x := by
  have h1 : (BitVec.ofNat 64 x ^^^ BitVec.allOnes 64).toNat = x ^^^ 18446744073709551615 := by
    rw [BitVec.toNat_xor, BitVec.toNat_ofNat, BitVec.toNat_allOnes]
    have : x % 2 ^ 64 = x := Nat.mod_eq_of_lt (by simpa using h)
    rw [this]
  have h2 : (~~~ (BitVec.ofNat 64 x)).toNat = 18446744073709551615 - x := by
    rw [BitVec.toNat_not, BitVec.toNat_ofNat]
    have : x % 2 ^ 64 = x := Nat.mod_eq_of_lt (by simpa using h)
    rw [this]
  rw [← h1, BitVec.xor_allOnes, h2]
theorem sign_pos_bits (n : Int) (h0 : 0 ≤ n) (h1 : n ≤ 9223372036854775807) : bits .xor .u64 (n * 2) (n / 9223372036854775808) = ((signN n : Nat) : Int) := by
  have e : n / 9223372036854775808 = 0 := by omega
  rw [e, u64_xor _ _ (by omega) (by omega) (by omega) (by omega)]
  simp only [Int.toNat_zero, Nat.xor_zero, signN, if_pos h0]
  omega
theorem sign_neg_bits (n : Int) (h0 : n < 0) (h1 : -9223372036854775808 ≤ n) : bits .xor .u64 (IntKind.u64.wrap (IntKind.u64.wrap n * 2)) (IntKind.u64.wrap (n / 9223372036854775808)) = ((signN n : Nat) : Int) := by
  have e : n / 9223372036854775808 = -1 := by omega
  have e1 : IntKind.u64.wrap (-1) = 18446744073709551615 := by rw [IntKind.wrap_u64]; rfl
  have e2 : IntKind.u64.wrap (IntKind.u64.wrap n * 2) = 2 * n + 18446744073709551616 := by rw [IntKind.wrap_u64, IntKind.wrap_u64]; omega
  rw [e, e1, e2, u64_xor _ _ (by omega) (by omega) (by omega) (by omega)]
  rw [show (18446744073709551615 : Int).toNat = 18446744073709551615 from rfl, xor_ones _ (by omega)]
  simp only [signN, if_neg (show ¬ 0 ≤ n by omega)]
  omega
theorem signN_lt (n : Int) (h0 : -9223372036854775808 ≤ n) (h1 : n ≤ 9223372036854775807) : signN n < 18446744073709551616 := by
  unfold signN; split <;> omega
set_option maxHeartbeats 1000000 in
theorem sign_any (n : Int) (w : World) (h0 : -9223372036854775808 ≤ n) (h1 : n ≤ 9223372036854775807) :
    Calls Try.prog 97 #[.int .i64 n] w fun e w' => e = .returned (.int .u64 (signN n)) ∧ w = w' := by
  by_cases h : 0 ≤ n
  · have e := Lib.hid (sign_pos_bits n h h1)
    go_enter Try.func97, Try.ntmps97
    go_wp2
    go_ret
    exact ⟨by rw [← e.out]; rfl, rfl⟩
  · have h' : n < 0 := by omega
    have e := Lib.hid (sign_neg_bits n h' h0)
    clear h
    go_enter Try.func97, Try.ntmps97
    go_wp2
    go_ret
    exact ⟨by rw [← e.out]; rfl, rfl⟩
set_option maxHeartbeats 1000000 in
theorem int_any {w : World} {vb : Value} {bs : List Int} (n : Int) (h0 : -9223372036854775808 ≤ n) (h1 : n ≤ 9223372036854775807) (hb : Rd w 1 vb bs.length (u8s bs)) (hlen : bs.length ≤ 900000) :
    Calls Try.prog 34 #[vb, .int .i64 n] w (MadeOut 5 1 (bs ++ natB (signN n)).length (u8s (bs ++ natB (signN n))) w) := by
  go_enter Try.func34, Try.ntmps34
  go_wp2_with fail
  refine (sign_any n w h0 h1).mono ?_
  rintro e w1 ⟨rfl, rfl⟩
  dsimp only
  have hs := signN_lt n h0 h1
  have hn := nat_any (signN n) hs hb hlen
  generalize signN n = m at *
  clear hb
  go_wp2_with fail
  refine hn.mono ?_
  rintro e w1 ⟨a1, c1, rfl, hm⟩
  dsimp only
  go_wp2_with fail
  go_ret
  exact ⟨a1, c1, rfl, hm⟩
end Code
end Go.Proofs.Ytmkbinbggiocaaa
