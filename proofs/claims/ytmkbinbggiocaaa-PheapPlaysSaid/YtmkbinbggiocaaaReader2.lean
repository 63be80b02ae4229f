/- The reader: Nat, Int, At, End. -/
import Derived.Test.YtmkbinbggiocaaaReader1
set_option linter.unusedVariables false
set_option linter.unusedSimpArgs false
namespace Go.Proofs.Ytmkbinbggiocaaa
open Go.RowKit
namespace Code
/-- What Nat reads, and where the reader is then. -/
def rNat (bs : List Int) (k : Nat) (stop : Bool) : Nat × Nat × Bool :=
  if stop then (0, k, true) else match natP 0 (bs.drop k) with
    | some (n, j) => (n, k + j, false)
    | none => (0, k, true)
theorem natP_len {xs : List Int} {n j : Nat} (hb : ∀ x ∈ xs, 0 ≤ x ∧ x < 256) (h : natP 0 xs = some (n, j)) : j ≤ xs.length ∧ n < 18446744073709551616 ∧ natB n = xs.take j ∧ 0 < j := by
  obtain ⟨h1, h2, _, _, h5⟩ := natP_sound xs 0 n j hb h
  have := congrArg List.length h1
  rw [List.length_take] at this
  refine ⟨by omega, by simpa using h5, h1, ?_⟩
  have := natB_ne n
  rw [h2]
  exact List.length_pos_iff.2 this
theorem mod2 {w w1 w2 : World} {r : Nat} (h : Drawn w w1) (k : Mod [r] w1 w2) : Mod [r] w w2 := h.mod.of0.trans k (by simp)
def RNatOut (w : World) (r : Nat) (a : Option Addr) (c : Nat) (bs : List Int) (k : Nat) (stop : Bool) (f : Nat → Value) (e : Ending) (w' : World) : Prop :=
  e = .returned (f (rNat bs k stop).1) ∧ RAt w' r a c bs (rNat bs k stop).2.1 (rNat bs k stop).2.2 ∧ Mod [r] w w'
set_option maxHeartbeats 2000000 in
theorem rdNat {w : World} {r c k : Nat} {a : Option Addr} {bs : List Int} {stop : Bool} (h : RAt w r a c bs k stop) (hbb : ∀ x ∈ bs, 0 ≤ x ∧ x < 256) :
    Calls Try.prog 48 #[.pointer (some ⟨r, 0, none⟩)] w (RNatOut w r a c bs k stop fun n => .int .u64 n) := by
  have hn := Lib.hid (nat_walk h hbb)
  have hbd : Hid (∀ x ∈ bs.drop k, 0 ≤ x ∧ x < 256) := fun x hx => hbb x (List.mem_of_mem_drop hx)
  have h' := Lib.hid h
  clear h hbb
  go_enter Try.func48, Try.ntmps48
  go_wp2_with fail
  refine hn.out.mono ?_
  rintro e w1 ⟨n, sz, ok, rfl, hd, hP⟩
  dsimp only
  have hP' := Lib.hid hP
  have hd' := Lib.hid hd
  clear hP hd hn
  by_cases hs : stop = true ∨ ok = false
  · have hs' := Lib.hid hs
    clear hs
    go_wp2_with fail
    refine (take_no (h'.out.still hd'.out.mod) sz ok hs'.out).mono ?_
    rintro e w2 ⟨rfl, hR, hm⟩
    dsimp only
    have hfin : RNatOut w r a c bs k stop (fun n => .int .u64 n) (.returned (.int .u64 0)) w2 := by
      have e1 : rNat bs k stop = (0, k, true) := by
        unfold rNat
        rcases hs'.out with h | h
        · simp [h]
        · have := hP'.out; rw [h] at this; simp at this; simp [this]
      unfold RNatOut
      rw [e1]
      exact ⟨by simp, hR, mod2 hd'.out hm⟩
    have hfin' := Lib.hid hfin
    clear hfin hR hm
    go_wp2_with fail
    go_ret
    exact hfin'.out
  · have hs1 : stop = false := by cases stop <;> simp_all
    have ho1 : ok = true := by cases ok <;> simp_all
    subst hs1 ho1
    have hQ0 : natP 0 (bs.drop k) = some (n, sz) := by simpa using hP'.out
    have hQ := Lib.hid hQ0
    clear hQ0
    have hl := natP_len hbd.out hQ.out
    have hl' := Lib.hid hl
    clear hs hl
    go_wp2_with fail
    refine (take_yes (h'.out.still hd'.out.mod) sz ?_).mono ?_
    · have := hl'.out.1; have := h'.out.le; rw [List.length_drop] at *; omega
    rintro e w2 ⟨rfl, hR, hm⟩
    dsimp only
    have hfin : RNatOut w r a c bs k false (fun n => .int .u64 n) (.returned (.int .u64 n)) w2 := by
      have e1 : rNat bs k false = (n, k + sz, false) := by
        unfold rNat
        rw [hQ.out]; simp
      unfold RNatOut
      rw [e1]
      exact ⟨rfl, hR, mod2 hd'.out hm⟩
    have hfin' := Lib.hid hfin
    clear hfin hR hm
    go_wp2_with fail
    go_ret
    exact hfin'.out
/-- A number with its sign. -/
def unsign (n : Nat) : Int := if n % 2 = 0 then (n / 2 : Nat) else -((n / 2 : Nat) : Int) - 1
theorem unsign_signN (x : Int) : unsign (signN x) = x := by
  unfold unsign signN
  split <;> split <;> omega
theorem xor0 (m : Nat) (h : m < 9223372036854775808) : bits .xor .i64 (m : Int) 0 = (m : Int) := by
  show IntKind.i64.wrap ((BitVec.ofInt 64 (m : Int) ^^^ BitVec.ofInt 64 0).toNat : Int) = _
  have h1 : BitVec.ofInt 64 0 = 0#64 := by decide
  rw [h1, BitVec.xor_zero, ofInt_u64 m (by omega)]
  simp [IntKind.wrap, IntKind.bits, IntKind.signed]
  omega
theorem xor1 (m : Nat) (h : m < 9223372036854775808) : bits .xor .i64 (m : Int) (-1) = -(m : Int) - 1 := by
  show IntKind.i64.wrap ((BitVec.ofInt 64 (m : Int) ^^^ BitVec.ofInt 64 (-1)).toNat : Int) = _
  have h1 : BitVec.ofInt 64 (-1) = BitVec.allOnes 64 := by decide
  rw [h1, BitVec.xor_allOnes, BitVec.toNat_not, ofInt_u64 m (by omega)]
  simp [IntKind.wrap, IntKind.bits, IntKind.signed]
  omega
theorem and1 (n : Nat) (h : n < 18446744073709551616) : bits .and .u64 (n : Int) 1 = ((n % 2 : Nat) : Int) := by
  have := u64_and (n : Int) 1 (by omega) (by omega) (by omega) (by omega)
  rw [this]
  simp [Nat.and_one_is_mod]
theorem rNat_lt {bs : List Int} {k : Nat} {stop : Bool} (hbb : ∀ x ∈ bs, 0 ≤ x ∧ x < 256) : (rNat bs k stop).1 < 18446744073709551616 := by
  unfold rNat
  split
  · simp
  · split
    · rename_i n j h
      exact (natP_len (fun x hx => hbb x (List.mem_of_mem_drop hx)) h).2.1
    · simp
set_option maxHeartbeats 2000000 in
theorem rdInt {w : World} {r c k : Nat} {a : Option Addr} {bs : List Int} {stop : Bool} (h : RAt w r a c bs k stop) (hbb : ∀ x ∈ bs, 0 ≤ x ∧ x < 256) :
    Calls Try.prog 44 #[.pointer (some ⟨r, 0, none⟩)] w (RNatOut w r a c bs k stop fun n => .int .i64 (unsign n)) := by
  have hn := Lib.hid (rdNat h hbb)
  have hlt := rNat_lt (k := k) (stop := stop) hbb
  clear h hbb
  go_enter Try.func44, Try.ntmps44
  go_wp2_with fail
  refine hn.out.mono ?_
  rintro e w1 ⟨rfl, hR, hm⟩
  dsimp only
  have hfin : ∀ v, v = unsign (rNat bs k stop).1 → RNatOut w r a c bs k stop (fun n => .int .i64 (unsign n)) (.returned (.int .i64 v)) w1 := fun v hv => ⟨by rw [hv], hR, hm⟩
  have hfin' := Lib.hid hfin
  clear hfin hR hm hn
  generalize (rNat bs k stop).1 = n at *
  have ha := and1 n hlt
  obtain ⟨q, hq⟩ : ∃ q, q = n / 2 := ⟨_, rfl⟩
  have hq1 : q < 9223372036854775808 := by omega
  have hd2 : (n : Int) / 2 = (q : Int) := by omega
  have e0 := xor0 q hq1
  have e1 := xor1 q hq1
  have hw : IntKind.i64.wrap (q : Int) = (q : Int) := IntWalk.i64_in _ (by omega)
  by_cases hp : n % 2 = 0
  · have hu0 : unsign n = (q : Int) := by unfold unsign; rw [if_pos hp, hq]
    have hu := Lib.hid hu0
    rw [hp] at ha
    clear hp hu0 hq
    go_wp2_with fail
    go_ret
    exact hfin'.out _ hu.out.symm
  · have hu0 : unsign n = -(q : Int) - 1 := by unfold unsign; rw [if_neg hp, hq]
    have hu := Lib.hid hu0
    have hp1 : n % 2 = 1 := by omega
    rw [hp1] at ha
    clear hp hp1 hu0 hq
    go_wp2_with fail
    go_ret
    exact hfin'.out _ hu.out.symm
set_option maxHeartbeats 1000000 in
theorem rdAt {w : World} {r c k : Nat} {a : Option Addr} {bs : List Int} {stop : Bool} (h : RAt w r a c bs k stop) :
    Calls Try.prog 49 #[.pointer (some ⟨r, 0, none⟩)] w fun e w' => e = .returned (.int .i64 k) ∧ w = w' := by
  have c1 := h.has.cell 1 rfl
  clear h
  go_enter Try.func49, Try.ntmps49
  go_wp2_with fail
  go_ret
  exact ⟨rfl, rfl⟩
/-- Is all read? -/
def rEnd (bs : List Int) (k : Nat) (stop : Bool) : Int := if stop || decide (k < bs.length) then 17 else 0
set_option maxHeartbeats 1000000 in
theorem rdEnd {w : World} {r c k : Nat} {a : Option Addr} {bs : List Int} {stop : Bool} (h : RAt w r a c bs k stop) :
    Calls Try.prog 47 #[.pointer (some ⟨r, 0, none⟩)] w fun e w' => e = .returned (.int .i64 (rEnd bs k stop)) ∧ Mod [] w w' := by
  have c2 := h.has.cell 2 rfl
  have hl := Lib.hid (left_any h)
  have hle := h.le
  have hlen : (bs.drop k).length = bs.length - k := List.length_drop
  have hm0 := Lib.hid (Mod.refl [] w)
  clear h
  cases stop with
  | true =>
    go_enter Try.func47, Try.ntmps47
    go_wp2_with fail
    go_ret
    exact ⟨rfl, hm0.out⟩
  | false =>
    by_cases hk : k < bs.length
    · have e1 : rEnd bs k false = 17 := by simp [rEnd, hk]
      rw [e1]
      generalize hxs : bs.drop k = xs at *
      have h0 : decide (0 < (xs.length : Int)) = true := by simp; omega
      have h0' : decide (0 < xs.length) = true := by simp; omega
      clear hxs hlen hk e1 hle
      go_enter Try.func47, Try.ntmps47
      go_wp2_with fail
      refine hl.out.mono ?_
      rintro e w1 ⟨v, rfl, hd, hr⟩
      obtain ⟨al, cl, rfl⟩ := hr.val
      have hfin := Lib.hid hd.mod
      clear hl hd hr
      dsimp only
      go_wp2_with fail
      go_ret
      exact ⟨rfl, hfin.out⟩
    · have e1 : rEnd bs k false = 0 := by simp [rEnd]; omega
      rw [e1]
      generalize hxs : bs.drop k = xs at *
      have h0 : decide (0 < (xs.length : Int)) = false := decide_eq_false (by omega)
      have h0' : decide (0 < xs.length) = false := decide_eq_false (by omega)
      clear hxs hlen hk e1 hle
      go_enter Try.func47, Try.ntmps47
      go_wp2_with fail
      refine hl.out.mono ?_
      rintro e w1 ⟨v, rfl, hd, hr⟩
      obtain ⟨al, cl, rfl⟩ := hr.val
      have hfin := Lib.hid hd.mod
      clear hl hd hr
      dsimp only
      go_wp2_with fail
      go_ret
      exact ⟨rfl, hfin.out⟩
end Code
end Go.Proofs.Ytmkbinbggiocaaa
