/- Edges that weigh too much are split. -/
import Derived.Test.YtkhbnopmeapfjaaCon1
import Derived.Test.YtkhbnopmeapfjaaEdRow
set_option linter.unusedVariables false
set_option linter.unusedSimpArgs false
namespace Go.Proofs.Ytkhbnopmeapfjaa
open Go.RowKit
namespace Edge
theorem pieces_any (u v x : Int) (w : World) (h0 : 0 < x) (h1 : x ≤ 2251799813685248) : Calls Try.prog 95 #[.agg #[.int .i64 u, .int .i64 v, .int .i64 x]] w fun e w' => e = .returned (.int .i64 ((pcs x : Nat) + 1)) ∧ Mod [] w w' := by
  have hp := (pcs_ok h0).1
  have hq : 0 ≤ x - 1 := by omega
  have hmod := Lib.hid ((Mod.refl [] w).alloc (.cells #[.int .i64 u, .int .i64 v, .int .i64 x] 41))
  rw [hp]
  have h2 : 0 ≤ (x - 1) / 2147483648 := by omega
  have h3 : (x - 1) / 2147483648 ≤ 1048576 := by omega
  have t1 : ¬ ((x - 1) / 2147483648 + 1 < 1) := by omega
  have t2 : (1 : Int) ≤ (x - 1) / 2147483648 + 1 := by omega
  have t3 : max 1 ((x - 1) / 2147483648 + 1) = (x - 1) / 2147483648 + 1 := by omega
  clear hp
  go_enter Try.func95, Try.ntmps95
  go_wp2_with fail
  all_goals
    go_ret
    refine ⟨?_, hmod.out⟩
    first
      | rfl
      | exact ret_i64 (by omega)
theorem put_any {w0 w : World} {b : Nat} {s x : Int} {R : List Part} (hS : Sep w0 w (Blk b [.int .i64 s, .bool false] 133 :: R)) (h0 : 0 ≤ s) (h1 : 0 ≤ x) (h2 : s + x ≤ 4611686018427387904) :
    Calls Try.prog 94 #[.pointer (some ⟨b, 0, none⟩), .int .i64 x] w fun e w' => e = .returned (.bool true) ∧ Sep w0 w' (Blk b [.int .i64 (s + x), .bool false] 133 :: R) := by
  have b0 := hS.blk.cell 0 rfl
  have b1 := hS.blk.cell 1 rfl
  have bl := hS.blk.lt
  have bf0 := hS.blk.free 0
  have bf1 := hS.blk.free 1
  have had := Lib.hid (fun W => add_any h0 h1 h2 W)
  have hfin := Lib.hid ((hS.set 0 (.int .i64 (s + x))).set 1 (.bool false))
  clear hS
  go_enter Try.func94, Try.ntmps94
  go_wp2_with (go_at_call 81; refine (had.out _).mono ?_; rintro e w1 ⟨rfl, hw1⟩; subst w1)
  go_ret
  exact ⟨rfl, hfin.out⟩
theorem value_any {w0 w : World} {b : Nat} {s : Int} {R : List Part} (hS : Sep w0 w (Blk b [.int .i64 s, .bool false] 133 :: R)) :
    Calls Try.prog 96 #[.pointer (some ⟨b, 0, none⟩)] w fun e w' => e = .returned (.tuple #[.int .i64 s, .bool true]) ∧ w' = w := by
  have b0 := hS.blk.cell 0 rfl
  have b1 := hS.blk.cell 1 rfl
  have bl := hS.blk.lt
  clear hS
  go_enter Try.func96, Try.ntmps96
  go_wp2_with fail
  exact bodyPost_ret (v := .tuple #[.int .i64 s, .bool true]) (by simp [results, Try.results96, go_sem]) rfl ⟨rfl, rfl⟩
theorem splitL_snoc {A : List Ed} {k : Nat} (hk : k < A.length) : splitL (A.take (k + 1)) = splitL (A.take k) ++ splitE A[k] := by
  unfold splitL
  rw [List.take_succ_eq_append_getElem hk, List.flatMap_append]
  simp only [List.flatMap_cons, List.flatMap_nil, List.append_nil]
theorem splitL_take (A : List Ed) (k : Nat) : (splitL (A.take k)).length ≤ (splitL A).length := by
  have e : splitL A = splitL (A.take k) ++ splitL (A.drop k) := by
    unfold splitL
    rw [← List.flatMap_append, List.take_append_drop]
  rw [e, List.length_append]; omega
set_option maxRecDepth 100000 in
set_option maxHeartbeats 8000000 in
theorem split_any {A : List Ed} {v : Value} {w : World} (h : Rd w 3 v A.length (flat encEd A)) (hp : ∀ e ∈ A, 0 < e.2.2) (hT : total A ≤ 2251799813685248) (hm : (splitL A).length ≤ 1048576) :
    Calls Try.prog 78 #[v] w fun e w' => ∃ a c, e = .returned (.tuple #[.slice a (splitL A).length c, .bool true]) ∧ Made w w' 41 3 a (splitL A).length c (flat encEd (splitL A)) := by
  obtain ⟨a0, c0, rfl⟩ := h.val
  have hle := h.le
  have h' := Lib.hid h
  have hp' := Lib.hid hp
  have hw' := Lib.hid (fun (k : Nat) (hk : k < A.length) => show 0 < A[k].2.2 ∧ A[k].2.2 ≤ 2251799813685248 from ⟨hp _ (List.getElem_mem hk), Int.le_trans ((tot_in (l := A) (fun e he => by have := hp e he; omega)).2 _ (List.getElem_mem hk)) hT⟩)
  have hsn := Lib.hid (fun (k : Nat) (hk : k < A.length) => splitL_snoc hk)
  have htk := Lib.hid (splitL_take A)
  have hS0 := Lib.hid ((Sep.empty w).box [.int .i64 0, .bool false] 133)
  clear h hp hT
  go_enter Try.func78, Try.ntmps78
  go_wp2_with fail
  generalize w.alloc (.cells [.int .i64 0, .bool false].toArray 133) = w1 at *
  generalize w.heap.size = bc at *
  go_loopw [14] (fun i wr => ∃ k : Nat, k ≤ A.length ∧ i = .int .i64 k ∧ Hid (Sep w wr [Blk bc [.int .i64 ((splitL (A.take k)).length : Nat), .bool false] 133])) (fun i _ => A.length - (intOf i).toNat)
  case atStart => exact ⟨0, Nat.zero_le _, rfl, hS0⟩
  case round =>
    clear hS0
    obtain ⟨k, hk, rfl, hS⟩ := hrel
    by_cases hlt : k < A.length
    · have hlt1 : (k : Int) < A.length := by omega
      obtain ⟨g, o, rfl, hg, hcell⟩ := ed_cells h'.out hlt
      obtain ⟨q0, q1, q2⟩ := hcell _ hS.out.mod
      have hgl : g < wr.heap.size := Nat.lt_of_lt_of_le hg hS.out.mod.size
      obtain ⟨w0', w1'⟩ := hw'.out k hlt
      have hln := hsn.out k hlt
      have ht1 := htk.out (k + 1)
      rw [hln, List.length_append, show (splitE A[k]).length = pcs A[k].2.2 + 1 by simp [splitE]] at ht1
      have hln2 : Hid (((splitL (A.take (k + 1))).length : Int) = ((splitL (A.take k)).length : Int) + ((pcs A[k].2.2 : Nat) + 1)) := Lib.hid (by rw [hln, List.length_append, show (splitE A[k]).length = pcs A[k].2.2 + 1 by simp [splitE]]; omega)
      generalize A[k] = e at *
      obtain ⟨eu, ev, ew⟩ := e
      simp only at q0 q1 q2 w0' w1' ht1 hln2
      have cp := Lib.hid (fun W => pieces_any eu ev ew W w0' w1')
      have hSb := Lib.hid (hS.out.still ((Mod.refl [] wr).alloc (.cells #[.int .i64 eu, .int .i64 ev, .int .i64 ew] 41)))
      generalize pcs ew = p at *
      generalize (splitL (A.take k)).length = s at *
      clear hS hcell hln
      go_wp2_with fail
      refine (cp.out _).mono ?_
      rintro e w2 ⟨rfl, hm2⟩
      have cpt := Lib.hid (put_any (hSb.out.still hm2) (x := (p : Int) + 1) (by omega) (by omega) (by omega))
      rw [← hln2.out] at cpt
      clear hSb hm2 cp
      try dsimp only
      go_wp2_with fail
      refine cpt.out.mono ?_
      rintro e w3 ⟨rfl, hS3⟩
      have hS3' := Lib.hid hS3
      clear hS3 cpt
      try dsimp only
      go_wp2_with fail
      go_roundw
      case rel => exact ⟨k + 1, by omega, by go_num, hS3'⟩
      case measure => simp [intOf]; omega
    · have hkA : k = A.length := by omega
      have hSA := Lib.hid (show Sep w wr [Blk bc [.int .i64 ((splitL A).length : Nat), .bool false] 133] by
        have h5 := hS.out
        rw [hkA, List.take_length] at h5
        exact h5)
      have cv := Lib.hid (value_any hSA.out)
      have hml : ¬ (1048576 : Int) < ((splitL A).length : Nat) := by omega
      have hSo := Lib.hid (show Sep w wr [Row 41 3 (splitL (A.take 0)).length (.slice none (splitL (A.take 0)).length 0) (flat encEd (splitL (A.take 0)))] from by
        have h5 := (hSA.out.tail).add (P := Row 41 3 0 (.slice none 0 0) []) (Mod.refl _ _) (F := []) ⟨World.ownsRow_nil wr 0 _ 3, by simp [Value.ownBlock]⟩ (by simp)
        exact h5)
      clear hS hSA hk hkA
      go_wp2_with (go_at_call 96; refine cv.out.mono ?_; rintro e w2 ⟨rfl, hw2⟩; subst w2)
      clear hlt
      go_loopw [9, 37] (fun s9 i wr => ∃ (k m : Nat) (a : Option Addr) (c : Nat), k ≤ A.length ∧ i = .int .i64 k ∧ s9 = .slice a m c ∧ m = (splitL (A.take k)).length ∧ Hid (Sep w wr [Row 41 3 m (.slice a m c) (flat encEd (splitL (A.take k)))])) (fun _ i _ => A.length - (intOf i).toNat)
      case atStart => exact ⟨0, 0, none, 0, Nat.zero_le _, rfl, rfl, rfl, hSo⟩
      case round =>
        clear hSo
        obtain ⟨k, m, a, c, hk, rfl, rfl, hmk, hS⟩ := hrel
        by_cases hlt : k < A.length
        · have hlt1 : (k : Int) < A.length := by omega
          obtain ⟨g, o, rfl, hg, hcell⟩ := ed_cells h'.out hlt
          obtain ⟨q0, q1, q2⟩ := hcell _ hS.out.mod
          have hgl : g < wr.heap.size := Nat.lt_of_lt_of_le hg hS.out.mod.size
          obtain ⟨w0', w1'⟩ := hw'.out k hlt
          have hln := Lib.hid (hsn.out k hlt)
          have ht1 := htk.out (k + 1)
          rw [hln.out, List.length_append, show (splitE A[k]).length = pcs A[k].2.2 + 1 by simp [splitE], ← hmk] at ht1
          have hpk := (pcs_ok w0').2
          generalize A[k] = e at *
          obtain ⟨eu, ev, ew⟩ := e
          simp only at q0 q1 q2 w0' w1' ht1 hln hpk
          have cp := Lib.hid (fun W => pieces_any eu ev ew W w0' w1')
          have hSb := Lib.hid (hS.out.box [.int .i64 eu, .int .i64 ev, .int .i64 ew] 41)
          have hpe : splitE (eu, ev, ew) = List.replicate (pcs ew) (eu, ev, 2147483648) ++ [(eu, ev, ew - 2147483648 * ((pcs ew : Nat) : Int))] := rfl
          rw [hpe] at hln
          generalize pcs ew = p at *
          have hmk' := Lib.hid hmk
          clear hmk
          generalize splitL (A.take k) = O at *
          have hbe := hSb.out.blk
          have e0 := hbe.cell 0 rfl
          have e1 := hbe.cell 1 rfl
          have e2 := hbe.cell 2 rfl
          have el := hbe.lt
          clear hS hcell hbe hpe
          go_wp2_with fail
          refine (cp.out _).mono ?_
          rintro e w2 ⟨rfl, hm2⟩
          have hS2 := Lib.hid (show Sep w w2 [Blk wr.heap.size [.int .i64 eu, .int .i64 ev, .int .i64 (ew - 2147483648 * ((0 : Nat) : Int))] 41, Row 41 3 m (.slice a m c) (flat encEd (O ++ List.replicate 0 (eu, ev, 2147483648)))] by
            have h5 := hSb.out.still hm2
            simpa using h5)
          clear hm2 cp hSb e0 e1 e2 el q0 q1 q2 hgl hg
          generalize wr.heap.size = be at *
          try dsimp only
          go_wp2_with fail
          go_loopw [9, 44] (fun s9 i wr => ∃ (q mm : Nat) (a : Option Addr) (c : Nat), q ≤ p ∧ i = .int .i64 q ∧ s9 = .slice a mm c ∧ mm = m + q ∧ Hid (Sep w wr [Blk be [.int .i64 eu, .int .i64 ev, .int .i64 (ew - 2147483648 * ((q : Nat) : Int))] 41, Row 41 3 mm (.slice a mm c) (flat encEd (O ++ List.replicate q (eu, ev, 2147483648)))])) (fun _ i _ => p - (intOf i).toNat)
          case atStart => exact ⟨0, m, a, c, Nat.zero_le _, rfl, rfl, rfl, hS2⟩
          case round =>
            clear hS2
            obtain ⟨q, mm, a, c, hq, rfl, rfl, hmm, hS⟩ := hrel
            have hmb : mm + 1 ≤ 1048576 := by omega
            replace hmm := Lib.hid hmm
            have hbe := hS.out.blkAt 0 rfl
            have e0 := hbe.cell 0 rfl
            have e1 := hbe.cell 1 rfl
            have e2 := hbe.cell 2 rfl
            have el := hbe.lt
            by_cases hlq : q < p
            · have hlq1 : (q : Int) < p := by omega
              clear hbe
              go_upto_region 19 with (at_builtin; refine app_own rfl (.tmp 46) (.tmp 52) 22 41 _ 3 24 rfl Try.underlying22 infoEd rfl (by omega) (by omega) (.slice a mm c) mm 1 (flat encEd (O ++ List.replicate q (eu, ev, 2147483648))) (encEd (eu, ev, 2147483648)) rfl rfl rfl rfl (by simp [encEd, Value.oneCell']) (hS.out.rowAt 1 rfl) (by omega) ?_; intro a1 c1 w6 ho6 hm6 hb6; have hS6 := Lib.hid (hS.out.growAt 1 rfl ho6 hm6 hb6); clear ho6 hm6 hb6)
              clear e0 e1 e2 el hS
              have hb6 := hS6.out.blkAt 0 rfl
              have e2 := hb6.cell 2 rfl
              have ef := hb6.free 2
              have el := hb6.lt
              have hq3 : 2147483648 * (q : Int) ≤ 2147483648 * (p : Int) := by omega
              have hS7 := Lib.hid (show Sep w (w6.setCell ⟨be, 2, none⟩ (.int .i64 (ew - 2147483648 * (q : Int) - 2147483648))) [Blk be [.int .i64 eu, .int .i64 ev, .int .i64 (ew - 2147483648 * ((q + 1 : Nat) : Int))] 41, Row 41 3 (mm + 1) (.slice a1 (mm + 1) c1) (flat encEd (O ++ List.replicate (q + 1) (eu, ev, 2147483648)))] by
                have h5 := hS6.out.setAt 0 rfl 2 (.int .i64 (ew - 2147483648 * (q : Int) - 2147483648))
                rw [List.replicate_succ', ← List.append_assoc, flat_append, flat_one, show ew - 2147483648 * ((q + 1 : Nat) : Int) = ew - 2147483648 * (q : Int) - 2147483648 by omega]
                exact h5)
              clear hb6 hS6
              go_wp2_with fail
              go_roundw
              case rel => exact ⟨q + 1, mm + 1, a1, c1, by omega, by go_num, rfl, by have := hmm.out; omega, hS7⟩
              case measure => simp [intOf]; omega
            · obtain rfl : q = p := by omega
              clear hbe
              obtain ⟨z, hz⟩ : ∃ z, ew - 2147483648 * ((q : Nat) : Int) = z := ⟨_, rfl⟩
              rw [hz] at hS e2 hln
              have hz' := Lib.hid hz
              clear hz hpk
              go_wp2_with (at_builtin; refine app_own rfl (.tmp 59) (.tmp 61) 22 41 _ 3 24 rfl Try.underlying22 infoEd rfl (by omega) (by omega) (.slice a mm c) mm 1 (flat encEd (O ++ List.replicate q (eu, ev, 2147483648))) (encEd (eu, ev, z)) rfl rfl rfl rfl (by simp [encEd, Value.oneCell']) (hS.out.rowAt 1 rfl) (by omega) ?_; intro a1 c1 w6 ho6 hm6 hb6; have hS6 := Lib.hid (hS.out.growAt 1 rfl ho6 hm6 hb6); clear ho6 hm6 hb6)
              have hfin : Hid (Sep w w6 [Row 41 3 (mm + 1) (.slice a1 (mm + 1) c1) (flat encEd (splitL (A.take (k + 1))))] ∧ mm + 1 = (splitL (A.take (k + 1))).length) := Lib.hid (by
                have h5 := hS6.out.tail
                rw [hln.out, ← List.append_assoc, flat_append, flat_one]
                refine ⟨h5, ?_⟩
                rw [List.length_append, List.length_append, List.length_replicate, ← hmk'.out]
                simp only [List.length_cons, List.length_nil]
                have := hmm.out
                omega)
              clear hS hS6 e0 e1 e2 el
              go_roundw
              case rel => exact ⟨k + 1, mm + 1, a1, c1, by omega, by go_num, rfl, hfin.out.2, Lib.hid hfin.out.1⟩
              case measure => simp [intOf]; omega
        · have hkA : k = A.length := by omega
          have hfin : Hid (Made w wr 41 3 a m c (flat encEd (splitL A)) ∧ m = (splitL A).length) := Lib.hid (by
            have h5 := hS.out
            rw [hkA, List.take_length] at h5
            refine ⟨h5.toMade, ?_⟩
            rw [hmk, hkA, List.take_length])
          clear hS hk hkA hmk
          go_wp2_with fail
          exact bodyPost_ret (v := .tuple #[.slice a m c, .bool true]) (by simp [results, Try.results78, go_sem]) rfl ⟨a, c, by rw [hfin.out.2], by have := hfin.out.1; rw [hfin.out.2] at this; exact this⟩
end Edge
end Go.Proofs.Ytkhbnopmeapfjaa
