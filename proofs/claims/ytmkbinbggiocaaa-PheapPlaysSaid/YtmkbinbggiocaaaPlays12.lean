/- PheapPlays: the walk. -/
import Derived.Test.YtmkbinbggiocaaaDo12
set_option linter.unusedVariables false
set_option linter.unusedSimpArgs false
namespace Go.Proofs.Ytmkbinbggiocaaa
open Go.RowKit Arena
namespace Ref12
open Go.Proofs.Ytmkbinbggiocaaa.Code
open Go.Proofs.Ytmkbinbggiocaaa.Hp
abbrev OpV := Int × Int × Int
def encOp (o : OpV) : List Value := [.int .i64 o.1, .int .i64 o.2.1, .int .i64 o.2.2]
theorem encOp_len (o : OpV) : (encOp o).length = 3 := rfl
theorem op_cells {w : World} {ops : List OpV} {a : Option Addr} {c k : Nat} (h : Reads w 3 (.slice a ops.length c) ops.length (flat encOp ops)) (hk : k < ops.length) :
    ∃ g o K N X, a = some ⟨g, o, none⟩ ∧ g < w.heap.size ∧ ∀ w', Mod [] w w' → w'.cell? ⟨g, o + k * 3, none⟩ = some (.int .i64 K) ∧ w'.cell? ⟨g, o + k * 3 + 1, none⟩ = some (.int .i64 N) ∧ w'.cell? ⟨g, o + k * 3 + 2, none⟩ = some (.int .i64 X) := by
  rcases h.cases with ⟨_, h0, _⟩ | ⟨g, o, c', he, _, _⟩
  · omega
  · injection he with he _ hc
    subst he
    have k0 := flat_get encOp_len ops k 0 hk (by omega)
    have k1 := flat_get encOp_len ops k 1 hk (by omega)
    have k2 := flat_get encOp_len ops k 2 hk (by omega)
    refine ⟨g, o, ops[k].1, ops[k].2.1, ops[k].2.2, rfl, World.block_lt_of_cell? w ⟨g, o + (k * 3 + 0), none⟩ (h.cell (k * 3 + 0) (by rw [k0]; rfl)), fun w' m => ?_⟩
    have h' := h.keep m (by simp)
    exact ⟨by have := h'.cell (k * 3 + 0) (u := .int .i64 ops[k].1) (by rw [k0]; rfl); simpa using this, by have := h'.cell (k * 3 + 1) (u := .int .i64 ops[k].2.1) (by rw [k1]; rfl); simpa [Nat.add_assoc] using this, by have := h'.cell (k * 3 + 2) (u := .int .i64 ops[k].2.2) (by rw [k2]; rfl); simpa [Nat.add_assoc] using this⟩
def Yes (w : World) (e : Ending) (w' : World) : Prop := e = .returned (.bool true) ∧ Mod [] w w'
/-- Both heaps stand alike behind k calls. -/
structure St (w wr : World) (bh bx : Nat) (H : Hp) (I : List Bool) (X : List Int) (k : Nat) : Prop where
  sep : Sep w wr [HpP bh H, XP bx I X]
  ok : Ok H I X
  lo : 0 ≤ H.links
  hi : H.links ≤ 8193 * k
set_option maxRecDepth 100000 in
set_option maxHeartbeats 4000000 in
theorem plays_any (n : Int) (a : Option Addr) (c : Nat) (ops : List OpV) (w : World) (hl0 : 0 < ops.length → Reads w 3 (.slice a ops.length c) ops.length (flat encOp ops)) :
    Calls Try.prog 11 #[.int .i64 n, .slice a ops.length c] w (Yes w) := by
  have hl := Lib.hid hl0
  clear hl0
  by_cases hlen : 200 < ops.length
  · have hlen' : (200 : Int) < ops.length := by omega
    go_enter Try.func11, Try.ntmps11
    go_wp2_with (go_at_call 70; refine (awake12 _).mono ?_; rintro e w' ⟨rfl, hm⟩)
    go_ret
    exact ⟨rfl, hm⟩
  have hlen1 : (ops.length : Int) ≤ 200 := by omega
  have hlen2 : ops.length ≤ 200 := by omega
  clear hlen
  go_enter Try.func11, Try.ntmps11
  go_wp2_with fail
  refine (Hp.new_any n w).mono ?_
  rintro e w1 ⟨bh, F, rfl, h1, m1, hn⟩
  try dsimp only
  have hS1 := Lib.hid ((Sep.empty w).add (P := HpP bh (newH (min (max n 0) 4096).toNat)) m1 h1 hn)
  have hnx := Lib.hid (new_x n w1)
  have hr2 : (min (max n 0) 4096).toNat ≤ 4096 := by omega
  generalize (min (max n 0) 4096).toNat = r at *
  clear h1 m1 hn
  go_wp2_with fail
  refine hnx.out.mono ?_
  rintro e w2 ⟨bx, rfl, hx⟩
  try dsimp only
  obtain ⟨F2, x1, x2, x3⟩ := hx.ex
  have hS2 := (hS1.out.add (P := XP bx (List.replicate r false) (List.replicate r 0)) x2 x1 x3).swap
  have hst : St w w2 bh bx (newH r) (List.replicate r false) (List.replicate r 0) 0 := ⟨hS2, new_ok r hr2, Int.le_refl _, by show (0 : Int) ≤ _; omega⟩
  obtain ⟨gi, gk, hcx, _, _⟩ := x1.cells
  rw [List.length_replicate] at hcx
  have c0 := hcx.c0
  have cl := hcx.bl
  obtain ⟨Fh, hh, _, _⟩ := hS2.first
  have hrm : Hid (∀ n, Calls Try.prog 77 #[.pointer (some ⟨bh, 0, none⟩)] (w2.drewN n) fun e w' => e = .returned (.int .i64 r) ∧ w' = w2.drewN n) := Lib.hid (fun n => room_any (HAt.still hh ((Mod.refl [] w2).drewN n)))
  have hst' := Lib.hid hst
  clear hst hcx hh hS2 x1 x2 x3 hx hnx hS1
  go_wp2_with fail
  go_quiet ((go_at_call 77; exact Calls.quiet_of_same (hrm.out _)))
  have hst2 : Hid (∀ q, St w (w2.drewN q) bh bx (newH r) (List.replicate r false) (List.replicate r 0) 0) := Lib.hid (fun q => ⟨hst'.out.sep.still ((Mod.refl [] w2).drewN q), hst'.out.ok, hst'.out.lo, hst'.out.hi⟩)
  clear hst' hrm c0 cl hr2
  generalize hN : newH r = H0 at *
  have hN' := Lib.hid (show H0.links = 0 by rw [← hN]; rfl)
  clear hN
  go_wp2_with fail
  go_loopw [7, 8] (fun s7 i wr => ∃ (k : Nat) (H : Hp) (I : List Bool) (X : List Int), k ≤ ops.length ∧ i = .int .i64 k ∧ s7 = .int .i64 H.links ∧ Hid (St w wr bh bx H I X k)) (fun _ i _ => ops.length - (intOf i).toNat)
  case atStart => exact ⟨0, H0, _, _, Nat.zero_le _, rfl, by rw [hN'.out], Lib.hid (hst2.out _)⟩
  case round =>
    clear hst2 hN'
    obtain ⟨k, H, I, X, hk, rfl, rfl, hst⟩ := hrel
    by_cases hlt : k < ops.length
    · obtain ⟨g, o, K, N, Key, rfl, hg, hcells⟩ := op_cells (hl.out (by omega)) hlt
      have hS := hst.out.sep
      obtain ⟨q0, q1, q2⟩ := hcells _ hS.mod
      have hgl : g < wr.heap.size := Nat.lt_of_lt_of_le hg hS.mod.size
      have hlo := hst.out.lo
      have hhi := hst.out.hi
      have hk2 : (k : Int) < 200 := by omega
      have hd := Lib.hid (do_any hS hst.out.ok hlo (by omega) K N Key)
      have hcells' := Lib.hid hcells
      have hlo' := Lib.hid hlo
      have hhi' := Lib.hid hhi
      have hmeas := Lib.hid hlt
      clear hS hst hcells hlo hhi
      go_wp2_with fail
      refine hd.out.mono ?_
      rintro e w1 ⟨H', I', X', rfl, hS1, hok1, l1, l2, l3⟩
      try dsimp only
      clear hd q0 q1 q2
      obtain ⟨q0, q1, q2⟩ := hcells'.out _ hS1.mod
      obtain ⟨F1, hh1, _, _⟩ := hS1.first
      obtain ⟨G1, hx1, _, _⟩ := hS1.swap.first
      have hlenA := Lib.hid (len_any hh1)
      have hlenB := Lib.hid (len_x hx1)
      have hlk := Lib.hid (links_any hh1)
      have hkey := Lib.hid (key_any hh1 N _ _ (Hp.key_ok hok1 N))
      have hrl : I'.length ≤ 4096 := by have := hok1.len; omega
      have hcount : H'.A.count = I'.countP id := len_ok hok1
      rw [hcount] at hlenA
      have hS1' := Lib.hid hS1
      have hok1' := Lib.hid hok1
      have l0 : decide (H'.links < H.links) = false := by simp; omega
      clear hh1 hx1 hok1 hcount hS1
      go_wp2_with fail
      refine hlenA.out.mono ?_
      rintro e w1' ⟨rfl, rfl⟩
      try dsimp only
      go_wp2_with fail
      refine hlenB.out.mono ?_
      rintro e w1' ⟨rfl, rfl⟩
      try dsimp only
      go_wp2_with fail
      refine hlk.out.mono ?_
      rintro e w1' ⟨rfl, rfl⟩
      try dsimp only
      go_wp2_with fail
      refine hlk.out.mono ?_
      rintro e w1' ⟨rfl, rfl⟩
      try dsimp only
      clear hlenA hlenB hlk
      cases hin : inR I' N with
      | true =>
        have hr : 0 ≤ N ∧ N < I'.length := by
          unfold inR at hin
          rw [Bool.and_eq_true, decide_eq_true_eq] at hin
          exact hin.1
        obtain ⟨hv0, hv2⟩ := hr
        rw [hin] at hkey
        simp only [if_true] at hkey
        have hin' := Lib.hid hin
        clear hin
        go_wp2_with fail
        refine hkey.out.mono ?_
        rintro e w2 ⟨rfl, hm2⟩
        try dsimp only
        have hS2 := hS1'.out.still hm2
        obtain ⟨q0, q1, q2⟩ := hcells'.out _ hS2.mod
        obtain ⟨G2, hx2, _, _⟩ := hS2.swap.first
        have hhas : Hid (∀ n, Calls Try.prog 82 #[.pointer (some ⟨bx, 0, none⟩), .int .i64 N] (w2.drewN n) fun e w' => e = .returned (.bool true) ∧ w' = w2.drewN n) := Lib.hid (fun n => by rw [← hin'.out]; exact has_x (XAt.still hx2 ((Mod.refl [] w2).drewN n)) N)
        obtain ⟨gi, gk, hcx, _, _⟩ := XAt.cells hx2
        have c1 := hcx.c1
        have cl := hcx.bl
        have ck := hcx.ck N.toNat (by omega)
        generalize X'.getD N.toNat 0 = u at *
        generalize hnn : I'.length = nn at *
        have hnn' := Lib.hid hnn
        clear hnn
        have hS2' := Lib.hid hS2
        clear hcx hx2 hS2 hm2 hkey
        go_wp2_with fail
        go_quiet ((go_at_call 82; exact Calls.quiet_of_same (hhas.out _)))
        go_wp2_with fail
        go_roundw
        case rel => exact ⟨k + 1, H', I', X', by omega, by go_num, rfl, Lib.hid ⟨hS2'.out.still ((Mod.refl [] w2).drewN _), hok1'.out, by have := hlo'.out; omega, by have := hhi'.out; omega⟩⟩
        case measure => have := hmeas.out; simp [intOf]; omega
      | false =>
        rw [hin] at hkey
        simp only [Bool.false_eq_true, if_false] at hkey
        have hin' := Lib.hid hin
        clear hin
        go_wp2_with fail
        refine hkey.out.mono ?_
        rintro e w2 ⟨rfl, hm2⟩
        try dsimp only
        have hS2 := hS1'.out.still hm2
        obtain ⟨q0, q1, q2⟩ := hcells'.out _ hS2.mod
        obtain ⟨G2, hx2, _, _⟩ := hS2.swap.first
        have hhas : Hid (∀ n, Calls Try.prog 82 #[.pointer (some ⟨bx, 0, none⟩), .int .i64 N] (w2.drewN n) fun e w' => e = .returned (.bool false) ∧ w' = w2.drewN n) := Lib.hid (fun n => by rw [← hin'.out]; exact has_x (XAt.still hx2 ((Mod.refl [] w2).drewN n)) N)
        obtain ⟨gi, gk, hcx, _, _⟩ := XAt.cells hx2
        have c1 := hcx.c1
        have cl := hcx.bl
        skip
        have hS2' := Lib.hid hS2
        clear hcx hx2 hS2 hm2 hkey
        go_wp2_with fail
        go_quiet ((go_at_call 82; exact Calls.quiet_of_same (hhas.out _)))
        go_wp2_with fail
        go_roundw
        case rel => exact ⟨k + 1, H', I', X', by omega, by go_num, rfl, Lib.hid ⟨hS2'.out.still ((Mod.refl [] w2).drewN _), hok1'.out, by have := hlo'.out; omega, by have := hhi'.out; omega⟩⟩
        case measure => have := hmeas.out; simp [intOf]; omega
    · go_wp2_with (go_at_call 70; refine (awake12 _).mono ?_; rintro e w' ⟨rfl, hm⟩)
      go_ret
      exact ⟨rfl, hst.out.sep.mod.trans hm (by simp)⟩
end Ref12
end Go.Proofs.Ytmkbinbggiocaaa
