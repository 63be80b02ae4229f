/- What the reference tells of an arc's weight, and of the arcs that lead out of a vertex. -/
import Derived.Test.YtkhbnopmeapfjaaCsr1
set_option linter.unusedVariables false
set_option linter.unusedSimpArgs false
namespace Go.Proofs.Ytkhbnopmeapfjaa
open Go.RowKit
namespace Edge
set_option maxRecDepth 100000 in
set_option maxHeartbeats 2000000 in
theorem rcap_any {n : Nat} {L : List Ed} {a : Option Addr} {c : Nat} {w : World} (h : Rd w 3 (.slice a L.length c) L.length (flat encEd L)) (hG : GOk n L) (i : Int) (hi : i ≤ 9223372036854775807) :
    Calls Try.prog 37 #[netV n a L.length c, .int .i64 i] w fun e w' => e = .returned (.int .i64 (capI L i)) ∧ Mod [] w w' := by
  have hmod := Lib.hid ((Mod.refl [] w).alloc (.cells #[.int .i64 n, .slice a L.length c] 36))
  have hl := hG.len
  have htl := Lib.hid (rtail_any n (h.still hmod.out) hl i hi)
  have hB := Has.new w [.int .i64 n, .slice a L.length c] 36
  have hB' := Lib.hid hB
  have b0 := hB.cell 0 rfl
  have b1 := hB.cell 1 rfl
  have bl := hB.lt
  have h' := Lib.hid h
  unfold netV at htl ⊢
  clear h hB
  by_cases hin : 0 ≤ i ∧ i < 2 * L.length
  · obtain ⟨k, rfl⟩ := Int.eq_ofNat_of_zero_le hin.1
    have h1 : k < 2 * L.length := by omega
    have ht : tailI L (k : Int) = tailE L k := by unfold tailI; rw [if_neg (by omega), Int.toNat_natCast]
    have hc : capI L (k : Int) = capE L k := by unfold capI; rw [if_neg (by omega), Int.toNat_natCast]
    have ht2 := tail_in hG h1
    rw [ht] at htl
    rw [hc]
    have hk : k / 2 < L.length := by omega
    obtain ⟨g, o, rfl, hg, hcell⟩ := ed_cells h'.out hk
    have hcl := Lib.hid (fun W m => (hcell W m).2.2)
    have et := capE_get h1
    generalize L[k / 2] = x at *
    obtain ⟨xu, xv, xw⟩ := x
    simp only at et hcl
    rw [et]
    generalize tailE L k = t at *
    have hk1 : (k : Int) / 2 < L.length := by omega
    have ht3 : 0 ≤ t := ht2.1
    clear et hcell hin ht hc ht2 hi h'
    go_enter Try.func37, Try.ntmps37
    go_wp2_with fail
    refine htl.out.mono ?_
    rintro e w1 ⟨rfl, hm⟩
    have hB1 := hB'.out.keep hm (by simp)
    have c1 := hB1.cell 1 rfl
    have cl := hB1.lt
    have q2 := hcl.out w1 (hmod.out.trans hm (by simp))
    have hgl : g < w1.heap.size := Nat.lt_of_lt_of_le hg (hmod.out.trans hm (by simp)).size
    have hm' := Lib.hid (hmod.out.trans hm (by simp))
    clear b0 b1 bl hB1 hm htl
    try dsimp only
    go_wp2_with fail
    go_ret
    exact ⟨rfl, hm'.out⟩
  · have ht : tailI L i = -1 := by
      unfold tailI
      by_cases h0 : i < 0
      · rw [if_pos h0]
      · rw [if_neg h0, tailE_out (by omega)]
    have hc : capI L i = 0 := by
      unfold capI
      by_cases h0 : i < 0
      · rw [if_pos h0]
      · rw [if_neg h0, capE_out (by omega)]
    rw [ht] at htl
    rw [hc]
    clear ht hc hin hi
    go_enter Try.func37, Try.ntmps37
    go_wp2_with fail
    refine htl.out.mono ?_
    rintro e w1 ⟨rfl, hm⟩
    have hm' := Lib.hid (hmod.out.trans hm (by simp))
    try dsimp only
    go_wp2_with fail
    go_ret
    exact ⟨rfl, hm'.out⟩
/-- Is it an arc from v to u? -/
def isArc (L : List Ed) (v : Int) (u i : Nat) : Bool := decide (0 ≤ v ∧ tailE L i = v ∧ headE L i = (u : Int))
/-- The arcs that the reference has found so far. -/
def accO (L : List Ed) (v : Int) (u k : Nat) : List Nat := ((List.range u).flatMap fun (x : Nat) => (List.range (2 * L.length)).filter fun i => isArc L v x i) ++ (List.range k).filter fun i => isArc L v u i
theorem accO_step (L : List Ed) (v : Int) (u k : Nat) : accO L v u (k + 1) = accO L v u k ++ if isArc L v u k = true then [k] else [] := by
  unfold accO
  rw [List.range_succ, List.filter_append, List.append_assoc]
  congr 2
  by_cases h : isArc L v u k = true <;> simp [h]
theorem accO_next (L : List Ed) (v : Int) (u : Nat) : accO L v (u + 1) 0 = accO L v u (2 * L.length) := by
  unfold accO
  rw [List.range_succ, List.flatMap_append]
  simp
theorem accO_zero (L : List Ed) (v : Int) : accO L v 0 0 = [] := by simp [accO]
theorem accO_len (L : List Ed) (v : Int) : ∀ u k : Nat, (accO L v u k).length ≤ u * (2 * L.length) + k
  | 0, k => by
    have := List.length_filter_le (fun i => isArc L v 0 i) (List.range k)
    simp [accO] at this ⊢; exact this
  | u + 1, k => by
    have h1 := accO_len L v u (2 * L.length)
    have h2 := List.length_filter_le (fun i => isArc L v (u + 1) i) (List.range k)
    have e : accO L v (u + 1) k = accO L v (u + 1) 0 ++ (List.range k).filter fun i => isArc L v (u + 1) i := by simp [accO]
    have h3 : (u + 1) * (2 * L.length) = u * (2 * L.length) + 2 * L.length := Nat.succ_mul _ _
    rw [e, accO_next, List.length_append, h3]
    simp only [List.length_range] at h2
    omega
/-- The arcs out of any vertex, in the order of their heads; none of what is no vertex. -/
def outI (n : Nat) (L : List Ed) (v : Int) : List Int := ints (if 0 ≤ v ∧ v < n then ofS n L v.toNat else [])
theorem accO_all {n : Nat} {L : List Ed} (hG : GOk n L) (v : Int) : ints (accO L v n 0) = outI n L v := by
  have e0 : accO L v n 0 = (List.range n).flatMap fun (x : Nat) => (List.range (2 * L.length)).filter fun i => isArc L v x i := by simp [accO]
  unfold outI
  rw [e0]
  by_cases h : 0 ≤ v ∧ v < n
  · rw [if_pos h]
    congr 1
    unfold ofS
    congr 1
    funext u
    congr 1
    funext i
    unfold isArc
    congr 1
    apply propext
    constructor
    · rintro ⟨_, h2, h3⟩; exact ⟨by omega, h3⟩
    · rintro ⟨h2, h3⟩; exact ⟨h.1, by omega, h3⟩
  · rw [if_neg h]
    have : ((List.range n).flatMap fun (x : Nat) => (List.range (2 * L.length)).filter fun i => isArc L v x i) = [] := by
      rw [List.flatMap_eq_nil_iff]
      intro u _
      rw [List.filter_eq_nil_iff]
      intro i hi
      rw [List.mem_range] at hi
      have := tail_in hG hi
      unfold isArc
      simp only [decide_eq_true_eq]
      omega
    rw [this]
theorem ints_snoc (l : List Nat) (k : Nat) : i64s (ints (l ++ [k])) = i64s (ints l) ++ [.int .i64 (k : Int)] := by simp [i64s, ints]
set_option maxRecDepth 100000 in
set_option maxHeartbeats 8000000 in
theorem rout_any {n : Nat} {L : List Ed} {a : Option Addr} {c : Nat} {w : World} (h : Rd w 3 (.slice a L.length c) L.length (flat encEd L)) (hG : GOk n L) (v : Int) :
    Calls Try.prog 38 #[netV n a L.length c, .int .i64 v] w fun e w' => ∃ a1 c1, e = .returned (.slice a1 (outI n L v).length c1) ∧ Made w w' 3 1 a1 (outI n L v).length c1 (i64s (outI n L v)) := by
  have hl := hG.len
  have hn4 := hG.le
  have htl := Lib.hid (fun W (m : Mod [] w W) (k : Nat) (hk : (k : Int) ≤ 9223372036854775807) => rtail_any n (h.still m) hl (k : Int) hk)
  have hhd := Lib.hid (fun W (m : Mod [] w W) (k : Nat) (hk : (k : Int) ≤ 9223372036854775807) => rhead_any n (h.still m) hl (k : Int) hk)
  have e1 : ∀ k : Nat, tailI L (k : Int) = tailE L k := fun k => by unfold tailI; rw [if_neg (by omega), Int.toNat_natCast]
  have e2 : ∀ k : Nat, headI L (k : Int) = headE L k := fun k => by unfold headI; rw [if_neg (by omega), Int.toNat_natCast]
  simp only [e1] at htl
  simp only [e2] at hhd
  have hst := Lib.hid (show Sep w (w.alloc (.cells #[.int .i64 n, .slice a L.length c] 36)) [Row 3 1 (accO L v 0 0).length (.slice none (accO L v 0 0).length 0) (i64s (ints (accO L v 0 0))), Blk w.heap.size [.int .i64 n, .slice a L.length c] 36] from by
    have h1 : Sep w w [Row 3 1 0 (.slice none 0 0) []] := (Sep.empty w).add (P := Row 3 1 0 (.slice none 0 0) []) (Mod.refl _ _) (F := []) ⟨World.ownsRow_nil w 0 _ 1, by simp [Value.ownBlock]⟩ (by simp)
    rw [accO_zero]
    exact (h1.box [.int .i64 n, .slice a L.length c] 36).swap)
  have hall := Lib.hid (accO_all hG v)
  have hstep := Lib.hid (accO_step L v)
  have hnext := Lib.hid (accO_next L v)
  have hlen := Lib.hid (fun (u k : Nat) (hu : u ≤ n) (hk : k ≤ 2 * L.length) => show (accO L v u k).length ≤ 8592031744 by
    have h1 := accO_len L v u k
    have h2 : u * (2 * L.length) ≤ 4096 * 2097152 := Nat.mul_le_mul (by omega) (by omega)
    omega)
  have hz : (accO L v 0 0).length = 0 := by rw [accO_zero]; rfl
  rw [hz] at hst
  unfold netV at htl hhd ⊢
  clear h hG hz e1 e2
  go_enter Try.func38, Try.ntmps38
  go_wp2_with fail
  generalize w.alloc (.cells #[.int .i64 n, .slice a L.length c] 36) = w1 at *
  generalize w.heap.size = B at *
  go_loopw [5, 6] (fun s5 s6 wr => ∃ (u m : Nat) (a5 : Option Addr) (c5 : Nat), u ≤ n ∧ s6 = .int .i64 u ∧ s5 = .slice a5 m c5 ∧ m = (accO L v u 0).length ∧ Hid (Sep w wr [Row 3 1 m (.slice a5 m c5) (i64s (ints (accO L v u 0))), Blk B [.int .i64 n, .slice a L.length c] 36])) (fun _ s6 _ => n - (intOf s6).toNat)
  case atStart => exact ⟨0, 0, none, 0, Nat.zero_le _, rfl, rfl, by rw [accO_zero]; rfl, hst⟩
  case round =>
    clear hst
    obtain ⟨u, m, a5, c5, hu, rfl, rfl, hm, hS⟩ := hrel
    have hm' := Lib.hid hm
    have hBk := hS.out.swap.blk
    have b0 := hBk.cell 0 rfl
    have b1 := hBk.cell 1 rfl
    have bl := hBk.lt
    clear hBk hm
    by_cases hlt : u < n
    · have hlt1 : (u : Int) < n := by omega
      go_wp2_with fail
      go_loopw [5, 7] (fun s5 s7 wr => ∃ (k m : Nat) (a5 : Option Addr) (c5 : Nat), k ≤ 2 * L.length ∧ s7 = .int .i64 k ∧ s5 = .slice a5 m c5 ∧ m = (accO L v u k).length ∧ Hid (Sep w wr [Row 3 1 m (.slice a5 m c5) (i64s (ints (accO L v u k))), Blk B [.int .i64 n, .slice a L.length c] 36])) (fun _ s7 _ => 2 * L.length - (intOf s7).toNat)
      case atStart => exact ⟨0, m, a5, c5, Nat.zero_le _, rfl, rfl, hm'.out, hS⟩
      case round =>
        clear hS b0 b1 bl
        obtain ⟨k, m, a5, c5, hk, rfl, rfl, hm, hS⟩ := hrel
        have hml := hlen.out u k (by omega) hk
        rw [← hm] at hml
        have hm' := Lib.hid hm
        have hBk := hS.out.swap.blk
        have b0 := hBk.cell 0 rfl
        have b1 := hBk.cell 1 rfl
        have bl := hBk.lt
        clear hBk hm
        by_cases hlk : k < 2 * L.length
        · have hlk1 : (k : Int) < 2 * L.length := by omega
          have hs := hstep.out u k
          have ct := Lib.hid (htl.out _ hS.out.mod k (by omega))
          have chd := Lib.hid (fun W (mm : Mod [] wr W) => hhd.out W (hS.out.mod.trans mm (by simp)) k (by omega))
          obtain ⟨X, hX⟩ : ∃ X, accO L v u k = X := ⟨_, rfl⟩
          obtain ⟨Y, hY⟩ : ∃ Y, accO L v u (k + 1) = Y := ⟨_, rfl⟩
          rw [hX, hY] at hs
          rw [hX] at hS hm'
          have hY' := Lib.hid hY
          clear hX hY
          by_cases c0 : 0 ≤ v
          · have d0 : decide (0 ≤ v) = true := by simpa using c0
            by_cases c1 : tailE L k = v
            · have d1 : (tailE L k == v) = true := by simpa using c1
              by_cases c2 : headE L k = (u : Int)
              · have d2 : (headE L k == (u : Int)) = true := by simpa using c2
                rw [if_pos (by unfold isArc; simpa using ⟨c0, c1, c2⟩)] at hs
                have hs' := Lib.hid hs
                clear hs c1 c2
                generalize tailE L k = t at *
                generalize headE L k = hd at *
                go_wp2_with fail
                refine ct.out.mono ?_
                rintro e w2 ⟨rfl, hm2⟩
                have hS2 := Lib.hid (hS.out.still hm2)
                have cc := Lib.hid (chd.out _ hm2)
                clear hS hm2 ct chd b0 b1 bl
                have hBk := hS2.out.swap.blk
                have b0 := hBk.cell 0 rfl
                have b1 := hBk.cell 1 rfl
                have bl := hBk.lt
                clear hBk
                try dsimp only
                go_wp2_with fail
                refine cc.out.mono ?_
                rintro e w3 ⟨rfl, hm3⟩
                have hS3 := Lib.hid (hS2.out.still hm3)
                clear hS2 hm3 cc b0 b1 bl
                try dsimp only
                go_wp2_with (at_builtin; refine app_own rfl (.tmp 38) (.tmp 40) 29 3 _ 1 8 rfl Try.underlying29 infoN rfl (by omega) (by omega) (.slice a5 m c5) m 1 (i64s (ints X)) [.int .i64 (k : Int)] rfl rfl (by simp [World.setCell]) rfl (by simp [Value.oneCell']) hS3.out.row (by omega) ?_; intro a6 c6 w6 ho6 hm6 hb6; have hS6 := Lib.hid (hS3.out.grow ho6 hm6 hb6); clear ho6 hm6 hb6)
                go_roundw
                case rel =>
                  refine ⟨k + 1, m + 1, a6, c6, by omega, by go_num, rfl, by rw [hY'.out, hs'.out, List.length_append, ← hm'.out]; rfl, ?_⟩
                  rw [hY'.out, hs'.out, ints_snoc]
                  exact hS6
                case measure => simp [intOf]; omega
              · have d2 : (headE L k == (u : Int)) = false := by simpa using c2
                rw [if_neg (by unfold isArc; simp [c2])] at hs
                have hs' := Lib.hid hs
                clear hs c1 c2
                generalize tailE L k = t at *
                generalize headE L k = hd at *
                go_wp2_with fail
                refine ct.out.mono ?_
                rintro e w2 ⟨rfl, hm2⟩
                have hS2 := Lib.hid (hS.out.still hm2)
                have cc := Lib.hid (chd.out _ hm2)
                clear hS hm2 ct chd b0 b1 bl
                have hBk := hS2.out.swap.blk
                have b0 := hBk.cell 0 rfl
                have b1 := hBk.cell 1 rfl
                have bl := hBk.lt
                clear hBk
                try dsimp only
                go_wp2_with fail
                refine cc.out.mono ?_
                rintro e w3 ⟨rfl, hm3⟩
                have hS3 := Lib.hid (hS2.out.still hm3)
                clear hS2 hm3 cc b0 b1 bl
                try dsimp only
                go_wp2_with fail
                go_roundw
                case rel => exact ⟨k + 1, m, a5, c5, by omega, by go_num, rfl, by rw [hY'.out, hs'.out, List.append_nil, ← hm'.out], by rw [hY'.out, hs'.out, List.append_nil]; exact hS3⟩
                case measure => simp [intOf]; omega
            · have d1 : (tailE L k == v) = false := by simpa using c1
              rw [if_neg (by unfold isArc; simp [c1])] at hs
              have hs' := Lib.hid hs
              clear hs c1
              generalize tailE L k = t at *
              go_wp2_with fail
              refine ct.out.mono ?_
              rintro e w2 ⟨rfl, hm2⟩
              have hS2 := Lib.hid (hS.out.still hm2)
              clear hS hm2 ct chd b0 b1 bl
              try dsimp only
              go_wp2_with fail
              go_roundw
              case rel => exact ⟨k + 1, m, a5, c5, by omega, by go_num, rfl, by rw [hY'.out, hs'.out, List.append_nil, ← hm'.out], by rw [hY'.out, hs'.out, List.append_nil]; exact hS2⟩
              case measure => simp [intOf]; omega
          · have d0 : decide (0 ≤ v) = false := by simpa using c0
            rw [if_neg (by unfold isArc; simp [c0])] at hs
            have hs' := Lib.hid hs
            clear hs ct chd
            go_wp2_with fail
            go_roundw
            case rel => exact ⟨k + 1, m, a5, c5, by omega, by go_num, rfl, by rw [hY'.out, hs'.out, List.append_nil, ← hm'.out], by rw [hY'.out, hs'.out, List.append_nil]; exact hS⟩
            case measure => simp [intOf]; omega
        · have hk2 : k = 2 * L.length := by omega
          have hlk1 : ¬ (k : Int) < 2 * L.length := by omega
          go_wp2_with fail
          go_roundw
          case rel => exact ⟨u + 1, m, a5, c5, by omega, by go_num, rfl, by rw [hnext.out, ← hk2]; exact hm'.out, by rw [hnext.out, ← hk2]; exact hS⟩
          case measure => simp [intOf]; omega
    · obtain rfl : u = n := by omega
      go_wp2_with fail
      go_ret
      rw [hm'.out] at hS
      have hml : (accO L v u 0).length = (outI u L v).length := by rw [← hall.out, ints_len]
      refine ⟨a5, c5, by rw [hm'.out, hml]; rfl, ?_⟩
      have := hS.out.swap.tail.toMade
      rw [hall.out, hml] at this
      exact this
end Edge
end Go.Proofs.Ytkhbnopmeapfjaa
