/- The reference's graph: Degree, Near. -/
import Derived.Test.YtkhbnopmeapfjaaRefN2
import Derived.Test.YtkhbnopmeapfjaaStepApp
set_option linter.unusedVariables false
set_option linter.unusedSimpArgs false
namespace Go.Proofs.Ytkhbnopmeapfjaa
open Go.RowKit
namespace Edge
theorem degree_part {n : Nat} {L : List Ed} (hG : GOk n L) (v : Int) {k : Nat} (hk : k ≤ n) : 0 ≤ sumTo (fun u => weight L u v) k ∧ sumTo (fun u => weight L u v) k ≤ 2251799813685248 := by
  have h1 := sumTo_mono (f := fun u => weight L u v) (fun u => weight_nonneg hG u v) hk
  have h2 := degree_sum (v := v) hG.rising.apart hG.ends
  have h3 := (degree_le (v := v) (L := L) (fun e he => (hG.ends e he).2.1) hG.pos).2
  have h4 := hG.tot
  omega
theorem upto_len (n : Nat) (p : Int → Bool) : (upto n p).length ≤ n := by
  unfold upto
  refine Nat.le_trans (List.length_filter_le _ _) ?_
  simp
theorem infoN : (Try.prog.info? 3).map (fun i => (i.zero, i.size, i.bytes)) = some (some (.int .i64 0), 1, 8) := by kernel_rfl
set_option maxRecDepth 100000 in
set_option maxHeartbeats 4000000 in
theorem rdegree_any {n : Nat} {L : List Ed} {a : Option Addr} {c : Nat} {w : World} (h : Rd w 3 (.slice a L.length c) L.length (flat encEd L)) (hG : GOk n L) (v : Int) :
    Calls Try.prog 23 #[netV n a L.length c, .int .i64 v] w fun e w' => e = .returned (.int .i64 (degree L v)) ∧ Mod [] w w' := by
  have hle := hG.le
  have hwt := Lib.hid (fun W (m : Mod [] w W) u => rweight_any n (h.still m) u v)
  have hdp := Lib.hid (fun k (hk : k ≤ n) => degree_part hG v hk)
  have hds := Lib.hid (degree_sum (v := v) hG.rising.apart hG.ends)
  obtain ⟨r, hr⟩ : ∃ r, degree L v = r := ⟨_, rfl⟩
  rw [hr] at hds ⊢
  have hB := Has.new w [.int .i64 n, .slice a L.length c] 36
  have hB' := Lib.hid hB
  have hmod := Lib.hid ((Mod.refl [] w).alloc (.cells #[.int .i64 n, .slice a L.length c] 36))
  unfold netV at hwt ⊢
  clear h hG hr hB
  go_enter Try.func23, Try.ntmps23
  go_wp2_with fail
  generalize w.alloc (.cells #[.int .i64 n, .slice a L.length c] 36) = w1 at *
  generalize w.heap.size = B at *
  go_loopw [5, 6] (fun s5 i wr => ∃ k : Nat, k ≤ n ∧ i = .int .i64 k ∧ s5 = .int .i64 (sumTo (fun u => weight L u v) k) ∧ Hid (Mod [] w1 wr)) (fun _ i _ => n - (intOf i).toNat)
  case atStart => exact ⟨0, Nat.zero_le _, rfl, rfl, Lib.hid (Mod.refl _ _)⟩
  case round =>
    obtain ⟨k, hk, rfl, rfl, hm1⟩ := hrel
    have hBk := hB'.out.keep hm1.out (by simp)
    have b0 := hBk.cell 0 rfl
    have b1 := hBk.cell 1 rfl
    have bl := hBk.lt
    by_cases hlt : k < n
    · have hlt1 : (k : Int) < n := by omega
      obtain ⟨p0, p1⟩ := hdp.out k hk
      obtain ⟨p2, p3⟩ := hdp.out (k + 1) (by omega)
      have hs : sumTo (fun u => weight L u v) (k + 1) = sumTo (fun u => weight L u v) k + weight L (k : Int) v := rfl
      rw [hs] at p2 p3
      have hs' := Lib.hid hs
      have hc := Lib.hid (hwt.out wr (hmod.out.trans hm1.out (by simp)) (k : Int))
      generalize sumTo (fun u => weight L u v) k = S at *
      generalize weight L (k : Int) v = z at *
      clear hs hBk
      go_wp2_with fail
      refine hc.out.mono ?_
      rintro e w2 ⟨rfl, hm2⟩
      try dsimp only
      have hm3 := Lib.hid (hm1.out.trans hm2 (by simp))
      clear hm2
      go_wp2_with fail
      go_roundw
      case rel => exact ⟨k + 1, by omega, by go_num, by rw [hs'.out], hm3⟩
      case measure => simp [intOf]; omega
    · obtain rfl : k = n := by omega
      rw [hds.out]
      clear hBk
      go_wp2_with fail
      go_ret
      exact ⟨rfl, hmod.out.trans hm1.out (by simp)⟩
set_option maxRecDepth 100000 in
set_option maxHeartbeats 4000000 in
theorem rnear_any {n : Nat} {L : List Ed} {a : Option Addr} {c : Nat} {w : World} (h : Rd w 3 (.slice a L.length c) L.length (flat encEd L)) (hle : n ≤ 4096) (v : Int) :
    Calls Try.prog 25 #[netV n a L.length c, .int .i64 v] w fun e w' => ∃ a1 c1, e = .returned (.slice a1 (near n L v).length c1) ∧ Made w w' 3 1 a1 (near n L v).length c1 (i64s (near n L v)) := by
  have hwt := Lib.hid (fun W (m : Mod [] w W) u => rweight_any n (h.still m) u v)
  have hst := Lib.hid (show Sep w (w.alloc (.cells #[.int .i64 n, .slice a L.length c] 36)) [Row 3 1 0 (.slice none 0 0) [], Blk w.heap.size [.int .i64 n, .slice a L.length c] 36] from by
    have h1 : Sep w w [Row 3 1 0 (.slice none 0 0) []] := (Sep.empty w).add (P := Row 3 1 0 (.slice none 0 0) []) (Mod.refl _ _) (F := []) ⟨World.ownsRow_nil w 0 _ 1, by simp [Value.ownBlock]⟩ (by simp)
    exact (h1.box [.int .i64 n, .slice a L.length c] 36).swap)
  obtain ⟨p, hp⟩ : ∃ p : Int → Bool, (fun u => decide (0 < weight L u v)) = p := ⟨_, rfl⟩
  have hpw := Lib.hid (fun u => (congrFun hp u : decide (0 < weight L u v) = p u))
  have hnr : near n L v = upto n p := by unfold near; rw [hp]
  rw [hnr]
  unfold netV at hwt ⊢
  clear h hp hnr
  go_enter Try.func25, Try.ntmps25
  go_wp2_with fail
  generalize w.alloc (.cells #[.int .i64 n, .slice a L.length c] 36) = w1 at *
  generalize w.heap.size = B at *
  go_loopw [5, 6] (fun s5 i wr => ∃ (k : Nat) (a5 : Option Addr) (c5 : Nat), k ≤ n ∧ i = .int .i64 k ∧ s5 = .slice a5 (upto k p).length c5 ∧ Hid (Sep w wr [Row 3 1 (upto k p).length (.slice a5 (upto k p).length c5) (i64s (upto k p)), Blk B [.int .i64 n, .slice a L.length c] 36])) (fun _ i _ => n - (intOf i).toNat)
  case atStart => exact ⟨0, none, 0, Nat.zero_le _, rfl, rfl, hst⟩
  case round =>
    clear hst
    obtain ⟨k, a5, c5, hk, rfl, rfl, hS⟩ := hrel
    have hBk := hS.out.swap.blk
    have b0 := hBk.cell 0 rfl
    have b1 := hBk.cell 1 rfl
    have bl := hBk.lt
    have hul := upto_len k p
    by_cases hlt : k < n
    · have hlt1 : (k : Int) < n := by omega
      have hc := Lib.hid (hwt.out wr hS.out.mod (k : Int))
      have hpk := hpw.out (k : Int)
      have hsc := upto_succ k p
      obtain ⟨U, hU⟩ : ∃ U, upto k p = U := ⟨_, rfl⟩
      obtain ⟨U2, hU2⟩ : ∃ U2, upto (k + 1) p = U2 := ⟨_, rfl⟩
      rw [hU, hU2] at hsc
      rw [hU] at hS hul ⊢
      have hU2' := Lib.hid hU2
      obtain ⟨m, hm⟩ : ∃ m, U.length = m := ⟨_, rfl⟩
      rw [hm] at hS hul ⊢
      have hm' := Lib.hid hm
      generalize weight L (k : Int) v = z at *
      clear hU hU2 hm hBk
      by_cases hz : 0 < z
      · rw [if_pos (by rw [← hpk]; simpa using hz)] at hsc
        have hsc' := Lib.hid hsc
        clear hpk hsc
        go_wp2_with fail
        refine hc.out.mono ?_
        rintro e w2 ⟨rfl, hm2⟩
        try dsimp only
        have hS2 := Lib.hid (hS.out.still hm2)
        clear hm2 hS
        go_wp2_with (at_builtin; refine app_own rfl (.tmp 18) (.tmp 20) 29 3 _ 1 8 rfl Try.underlying29 infoN rfl (by omega) (by omega) (.slice a5 m c5) m 1 (i64s U) [.int .i64 (k : Int)] rfl rfl (by simp [World.setCell]) rfl (by simp [Value.oneCell']) hS2.out.row (by omega) ?_; intro a6 c6 w6 ho6 hm6 hb6; have hS6 := Lib.hid (hS2.out.grow ho6 hm6 hb6); clear ho6 hm6 hb6)
        go_roundw
        case rel =>
          refine ⟨k + 1, a6, c6, by omega, by go_num, by rw [hU2'.out, hsc'.out]; simp [hm'.out], ?_⟩
          rw [hU2'.out, hsc'.out, i64s_append, List.length_append, hm'.out]
          exact hS6
        case measure => simp [intOf]; omega
      · rw [if_neg (by rw [← hpk]; simpa using hz), List.append_nil] at hsc
        have hsc' := Lib.hid hsc
        clear hpk hsc
        go_wp2_with fail
        refine hc.out.mono ?_
        rintro e w2 ⟨rfl, hm2⟩
        try dsimp only
        have hS2 := Lib.hid (hS.out.still hm2)
        clear hm2 hS
        go_wp2_with fail
        go_roundw
        case rel =>
          refine ⟨k + 1, a5, c5, by omega, by go_num, by rw [hU2'.out, hsc'.out]; simp [hm'.out], ?_⟩
          rw [hU2'.out, hsc'.out, hm'.out]
          exact hS2
        case measure => simp [intOf]; omega
    · obtain rfl : k = n := by omega
      have hfin := Lib.hid hS.out.toMade
      clear hS hBk
      go_wp2_with fail
      go_ret
      exact ⟨a5, c5, rfl, hfin.out⟩
end Edge
end Go.Proofs.Ytkhbnopmeapfjaa
