/- NetTwice: a graph's degrees are the sums of its weights, and together twice all of them. -/
import Derived.Test.YtkhbnopmeapfjaaAwake16
import Derived.Test.YtkhbnopmeapfjaaTwiceLaw
import Derived.Laws.EntriesVeiled
set_option linter.unusedVariables false
set_option linter.unusedSimpArgs false
namespace Go.Proofs.Ytkhbnopmeapfjaa
open Go.RowKit
namespace Edge
theorem wsum_snoc {n : Nat} {L : List Ed} {v : Int} {nv : List Int} {j : Nat} (hj : j < nv.length) : wsum L v (nv.take (j + 1)) = wsum L v (nv.take j) + weight L v nv[j] := by
  rw [List.take_succ_eq_append_getElem hj, wsum_append]
  simp only [wsum]
  omega
set_option maxRecDepth 100000 in
set_option maxHeartbeats 4000000 in
theorem twice_any (n : Nat) (hn : n ≤ 255) {l : List Ed} {v : Value} {w : World} (h : Rd w 3 v l.length (flat encEd l)) :
    Calls Try.prog 3 #[.int .u8 n, v] w fun e w' => e = .returned (.bool true) ∧ Mod [] w w' := by
  obtain ⟨a, c, rfl⟩ := h.val
  have hle := h.le
  have haw := Lib.hid (fun w => awake16 w)
  have hnw := Lib.hid (new_net (n : Int) h)
  by_cases hbig : 100 < l.length
  · have hbig1 : (100 : Int) < l.length := by omega
    clear h hnw
    go_enter Try.func3, Try.ntmps3
    go_wp2_with fail
    refine (haw.out _).mono ?_
    rintro e w1 ⟨rfl, hm⟩
    try dsimp only
    go_wp2_with fail
    go_ret
    exact ⟨rfl, hm⟩
  have hbig1 : ¬ (100 : Int) < l.length := by omega
  clear h
  go_enter Try.func3, Try.ntmps3
  go_wp2_with fail
  refine hnw.out.mono ?_
  rintro e w1 hN
  rcases hN.out with ⟨hne, rfl, hm⟩ | ⟨he, b, rfl, hS⟩
  · obtain ⟨hz⟩ : Nonempty ((newE n l).1 ≠ 0) := ⟨fun hz => hne (by
      unfold newE at hz ⊢
      split at hz
      · cases hz
      · split at hz
        · cases hz
        · rw [if_neg (by assumption), if_neg (by assumption)]; exact checksE_at hz)⟩
    generalize (newE n l).1 = q at *
    generalize (newE n l).2 = q2 at *
    try dsimp only
    clear hN hne hnw
    have hz1 : (q == 0) = false := by simpa using hz
    go_wp2_with fail
    refine (haw.out _).mono ?_
    rintro e w2 ⟨rfl, hm2⟩
    try dsimp only
    go_wp2_with fail
    go_ret
    exact ⟨rfl, hm.trans hm2 (by simp)⟩
  have hG := Lib.hid (new_ok he)
  rw [Int.toNat_natCast] at hG hS
  generalize merged l = L at *
  have hS' := Lib.hid hS
  try dsimp only
  clear hN he hS hnw
  go_wp2_with fail
  go_loopw [8, 9] (fun s8 s9 wr => ∃ k : Nat, k ≤ n ∧ s8 = .int .i64 (sumTo (degree L) k) ∧ s9 = .int .i64 k ∧ Hid (Sep w wr [NetP b n L])) (fun _ s9 _ => n - (intOf s9).toNat)
  case atStart => exact ⟨0, Nat.zero_le _, rfl, rfl, hS'⟩
  case round =>
    clear hS'
    obtain ⟨k, hk, rfl, rfl, hS⟩ := hrel
    obtain ⟨hs1, hs2⟩ := degrees_some hG.out hk
    by_cases hlt : k < n
    · have hlt1 : (k : Int) < n := by omega
      obtain ⟨ht1, ht2⟩ := degrees_some hG.out (show k + 1 ≤ n by omega)
      have hdg := Lib.hid (degree_sep hS.out hG.out (k : Int))
      have hnr := Lib.hid (near_sep hS.out hG.out (k : Int))
      obtain ⟨S, hSk⟩ : ∃ S, sumTo (degree L) k = S := ⟨_, rfl⟩
      have hsk : sumTo (degree L) (k + 1) = S + degree L k := by rw [← hSk]; rfl
      rw [hsk] at ht1 ht2
      have hsk' := Lib.hid hsk
      rw [hSk] at hs1 hs2
      rw [hSk]
      have hw1 := Lib.hid (wsum_near hG.out (k : Int))
      have hw2 := Lib.hid (wsum_take hG.out (k : Int))
      have hw3 := Lib.hid (fun u hu => near_weight (n := n) (L := L) (v := (k : Int)) (u := u) hu)
      obtain ⟨D, hD⟩ : ∃ D, degree L k = D := ⟨_, rfl⟩
      rw [hD] at hdg ht1 ht2 hsk' hw1
      have hD' := Lib.hid hD
      clear hsk hS hD hSk
      go_wp2_with (go_at_call 12; refine hdg.out.mono ?_; rintro e w2 ⟨rfl, rfl⟩)
      refine hnr.out.mono ?_
      rintro e w3 ⟨an, cn, rfl, hS⟩
      have hS' := Lib.hid hS
      clear hS hnr
      obtain ⟨nv, hnv⟩ : ∃ nv, near n L k = nv := ⟨_, rfl⟩
      rw [hnv] at hS' hw1 hw2 hw3 ⊢
      try dsimp only
      clear hnv
      obtain ⟨m, hm⟩ : ∃ m, nv.length = m := ⟨_, rfl⟩
      have hle2 : m ≤ 9223372036854775807 := by rw [← hm]; exact (Rd.own hS'.out.row).le
      have hm' := Lib.hid hm
      rw [hm] at hS' ⊢
      clear hm
      go_wp2_with fail
      go_loopw [10, 12] (fun s10 s12 wr => ∃ j : Nat, j ≤ m ∧ s10 = .int .i64 (wsum L k (nv.take j)) ∧ s12 = .int .i64 j ∧ Hid (Sep w wr [Row 3 1 m (.slice an m cn) (i64s nv), NetP b n L])) (fun _ s12 _ => m - (intOf s12).toNat)
      case atStart => exact ⟨0, Nat.zero_le _, rfl, rfl, hS'⟩
      case round =>
        clear hS'
        obtain ⟨j, hj, rfl, rfl, hS⟩ := hrel
        by_cases hlt2 : j < m
        · have hlt3 : (j : Int) < m := by omega
          have hjn : j < nv.length := by rw [hm'.out]; exact hlt2
          obtain ⟨g, o, rfl, hg, hcell⟩ := rd_cell (Rd.own hS.out.row) hlt2
          have q0 := hcell wr j (.int .i64 nv[j]) (Mod.refl _ _) (i64s_get hjn)
          have hqq := Lib.hid (fun w' m => hcell w' j (.int .i64 nv[j]) m (i64s_get hjn))
          obtain ⟨hw4, hw5⟩ := hw3.out nv[j] (List.getElem_mem hjn)
          have hc1 := Lib.hid (weight_sep hS.out.swap hG.out k nv[j])
          have hc2 := Lib.hid (fun w' m => weight_sep (w := w') (hS.out.swap.still m) hG.out nv[j] k)
          have hsn := wsum_snoc (n := n) (L := L) (v := (k : Int)) hjn
          obtain ⟨hb1, hb2⟩ := hw2.out j
          obtain ⟨hb3, hb4⟩ := hw2.out (j + 1)
          rw [← hw5] at hc2
          have hst := Lib.hid (fun w' (m : Mod [] wr w') => hS.out.still m)
          generalize hX : wsum L (k : Int) (nv.take (j + 1)) = X at *
          generalize wsum L (k : Int) (nv.take j) = Y at *
          generalize weight L (k : Int) nv[j] = z at *
          generalize nv[j] = x at *
          have hX' := Lib.hid hX
          have hsn' := Lib.hid hsn
          rw [hsn] at hb3 hb4
          have hz2 : ¬ z ≤ 0 := by omega
          have hgl := hg
          clear hcell hw5 hX hsn hS hw2
          go_wp2_with fail
          refine hc1.out.mono ?_
          rintro e w4 ⟨rfl, hm4⟩
          have hc3 := Lib.hid (hc2.out _ hm4)
          have q1 := hqq.out _ hm4
          have hst4 := Lib.hid (fun w' (m : Mod [] w4 w') => hst.out w' (hm4.trans m (by simp)))
          have hg4 : g < w4.heap.size := Nat.lt_of_lt_of_le hg hm4.size
          try dsimp only
          clear hm4 hc2 hqq hst hc1 q0
          go_wp2_with fail
          refine hc3.out.mono ?_
          rintro e w5 ⟨rfl, hm5⟩
          have hS5 := Lib.hid (hst4.out _ hm5)
          try dsimp only
          clear hm5 hst4 hc3 q1
          go_wp2_with fail
          go_roundw
          case rel => exact ⟨j + 1, by omega, by rw [hX'.out, hsn'.out], by go_num, hS5⟩
          case measure => simp [intOf]; omega
        · obtain rfl : j = m := by omega
          rw [← hm'.out, List.take_length, hw1.out, hm'.out]
          have hdg2 := Lib.hid (degree_sep hS.out.swap hG.out (k : Int))
          rw [hD'.out] at hdg2
          have hS2 := Lib.hid hS.out.swap.second
          clear hS hw1 hw2 hw3 hdg
          go_wp2_with (go_at_call 12; refine hdg2.out.mono ?_; rintro e w5 ⟨rfl, rfl⟩)
          go_roundw
          case rel => exact ⟨k + 1, by omega, by rw [hsk'.out], by go_num, hS2⟩
          case measure => simp [intOf]; omega
    · obtain rfl : k = n := by omega
      have hdd := degrees (n := k) (L := L) hG.out.ends
      rw [hdd] at hs1 hs2 ⊢
      have htt := Lib.hid (total_sep hS.out)
      have hmm := Lib.hid hS.out.mod
      generalize total L = T at *
      clear hdd hS
      go_wp2_with (go_at_call 15; refine htt.out.mono ?_; rintro e w5 ⟨rfl, rfl⟩)
      refine (haw.out _).mono ?_
      rintro e w2 ⟨rfl, hm⟩
      try dsimp only
      go_wp2_with fail
      go_ret
      exact ⟨rfl, hmm.out.trans hm (by simp)⟩
end Edge
end Go.Proofs.Ytkhbnopmeapfjaa
