/- Two vertices put together. -/
import Derived.Test.YtkhbnopmeapfjaaCon3
set_option linter.unusedVariables false
set_option linter.unusedSimpArgs false
namespace Go.Proofs.Ytkhbnopmeapfjaa
open Go.RowKit
namespace Edge
theorem infoInt0 : (Try.prog.info? 3).map (fun i => (i.zero, i.size, i.bytes)) = some (some (.int .i64 0), 1, 8) := by kernel_rfl
def pairV (u v : Int) (x : Nat) : Int := if (x : Int) = max u v then min u v else if max u v < (x : Int) then (x : Int) - 1 else (x : Int)
def pairK (n : Nat) (u v : Int) (k : Nat) : List Int := (List.range n).map fun (x : Nat) => if x < k then pairV u v x else 0
theorem pairK_len (n : Nat) (u v : Int) (k : Nat) : (pairK n u v k).length = n := by simp [pairK]
theorem pairK_zero (n : Nat) (u v : Int) : pairK n u v 0 = List.replicate n 0 := by
  apply List.eq_replicate_iff.2 ⟨pairK_len _ _ _ _, ?_⟩
  intro x hx
  simp only [pairK, List.mem_map] at hx
  obtain ⟨v, _, rfl⟩ := hx
  rw [if_neg (by omega)]
theorem pairK_step (n : Nat) (u v : Int) (k : Nat) : (pairK n u v k).set k (pairV u v k) = pairK n u v (k + 1) := by
  apply List.ext_getElem
  · simp [pairK]
  intro i g1 g2
  simp only [pairK, List.getElem_set, List.getElem_map, List.getElem_range]
  by_cases c : k = i
  · subst c; rw [if_pos rfl, if_pos (by omega)]
  · rw [if_neg c]
    by_cases h : i < k
    · rw [if_pos h, if_pos (by omega)]
    · rw [if_neg h, if_neg (by omega)]
theorem pairK_all (n : Nat) (u v : Int) : pairK n u v n = pairN n u v := by
  unfold pairK pairN
  apply List.map_congr_left
  intro x hx
  rw [List.mem_range] at hx
  rw [if_pos hx]; rfl
def pairE (n : Nat) (u v : Int) : Int := if u < 0 ∨ v < 0 ∨ (n : Int) ≤ u ∨ (n : Int) ≤ v then 4 else if u = v then 6 else 0
/-- What Pair answers. -/
structure PairOut (n : Nat) (L : List Ed) (u v : Int) (w : World) (e : Ending) (w' : World) : Prop where
  mk ::
  out : (pairE n u v ≠ 0 ∧ e = .returned (.tuple #[.pointer none, .slice none 0 0, .int .i64 (pairE n u v)]) ∧ Mod [] w w') ∨
    (pairE n u v = 0 ∧ isN ((n : Int) - 1) (pairN n u v) ∧ ∃ b2 a c, e = .returned (.tuple #[.pointer (some ⟨b2, 0, none⟩), .slice a n c, .int .i64 0]) ∧ Sep w w' [NetP b2 ((n : Int) - 1).toNat (merged (mapL (pairN n u v) L)), Row 3 1 n (.slice a n c) (i64s (pairN n u v))])
set_option maxRecDepth 100000 in
set_option maxHeartbeats 8000000 in
theorem pair_gen {w : World} {q : Option Addr} {n : Nat} {L : List Ed} (hG : GOk n L)
    (hN : ∀ W, Mod [] w W → Calls Try.prog 18 #[.pointer q] W fun e w' => e = .returned (.int .i64 n) ∧ w' = W)
    (hE : ∀ W, Mod [] w W → Calls Try.prog 21 #[.pointer q] W fun e w' => ∃ a c, e = .returned (.slice a L.length c) ∧ Made W w' 41 3 a L.length c (flat encEd L))
    (hP : (L.length : Int) * 2147483648 + total L ≤ 2251799813685248) (u v : Int) :
    Calls Try.prog 46 #[.pointer q, .int .i64 u, .int .i64 v] w (PairOut n L u v w) := by
  have hn4 := hG.le
  have hN' := Lib.hid hN
  have hOf := Lib.hid (fun W (m : Mod [] w W) va (hr : Rd W 1 va (pairN n u v).length (i64s (pairN n u v))) => of_gen (w := W) hG (fun W' m' => hN W' (m.trans m' (by simp))) (fun W' m' => hE W' (m.trans m' (by simp))) hP ((n : Int) - 1) hr)
  clear hN hE hP
  by_cases h1 : u < 0
  · have he : pairE n u v = 4 := by unfold pairE; rw [if_pos (by omega)]
    have hfin : Hid (∀ w', Mod [] w w' → PairOut n L u v w (.returned (.tuple #[.pointer none, .slice none 0 0, .int .i64 4])) w') := Lib.hid (fun w' m => ⟨.inl ⟨by rw [he]; decide, by rw [he], m⟩⟩)
    clear he hOf hG
    go_enter Try.func46, Try.ntmps46
    go_wp2_with fail
    refine (hN'.out _ (Mod.refl _ _)).mono ?_
    rintro e w1 ⟨rfl, hw1⟩
    subst w1
    try dsimp only
    go_wp2_with fail
    exact bodyPost_ret (v := .tuple #[.pointer none, .slice none 0 0, .int .i64 4]) (by simp [results, Try.results46, go_sem]) rfl (hfin.out _ (Mod.refl _ _))
  by_cases h2 : v < 0
  · have he : pairE n u v = 4 := by unfold pairE; rw [if_pos (by omega)]
    have hfin : Hid (∀ w', Mod [] w w' → PairOut n L u v w (.returned (.tuple #[.pointer none, .slice none 0 0, .int .i64 4])) w') := Lib.hid (fun w' m => ⟨.inl ⟨by rw [he]; decide, by rw [he], m⟩⟩)
    clear he hOf hG
    go_enter Try.func46, Try.ntmps46
    go_wp2_with fail
    refine (hN'.out _ (Mod.refl _ _)).mono ?_
    rintro e w1 ⟨rfl, hw1⟩
    subst w1
    try dsimp only
    go_wp2_with fail
    exact bodyPost_ret (v := .tuple #[.pointer none, .slice none 0 0, .int .i64 4]) (by simp [results, Try.results46, go_sem]) rfl (hfin.out _ (Mod.refl _ _))
  by_cases h3 : (n : Int) ≤ u
  · have he : pairE n u v = 4 := by unfold pairE; rw [if_pos (by omega)]
    have hfin : Hid (∀ w', Mod [] w w' → PairOut n L u v w (.returned (.tuple #[.pointer none, .slice none 0 0, .int .i64 4])) w') := Lib.hid (fun w' m => ⟨.inl ⟨by rw [he]; decide, by rw [he], m⟩⟩)
    clear he hOf hG
    go_enter Try.func46, Try.ntmps46
    go_wp2_with fail
    refine (hN'.out _ (Mod.refl _ _)).mono ?_
    rintro e w1 ⟨rfl, hw1⟩
    subst w1
    try dsimp only
    go_wp2_with fail
    exact bodyPost_ret (v := .tuple #[.pointer none, .slice none 0 0, .int .i64 4]) (by simp [results, Try.results46, go_sem]) rfl (hfin.out _ (Mod.refl _ _))
  by_cases h4 : (n : Int) ≤ v
  · have he : pairE n u v = 4 := by unfold pairE; rw [if_pos (by omega)]
    have hfin : Hid (∀ w', Mod [] w w' → PairOut n L u v w (.returned (.tuple #[.pointer none, .slice none 0 0, .int .i64 4])) w') := Lib.hid (fun w' m => ⟨.inl ⟨by rw [he]; decide, by rw [he], m⟩⟩)
    clear he hOf hG
    go_enter Try.func46, Try.ntmps46
    go_wp2_with fail
    refine (hN'.out _ (Mod.refl _ _)).mono ?_
    rintro e w1 ⟨rfl, hw1⟩
    subst w1
    try dsimp only
    go_wp2_with fail
    exact bodyPost_ret (v := .tuple #[.pointer none, .slice none 0 0, .int .i64 4]) (by simp [results, Try.results46, go_sem]) rfl (hfin.out _ (Mod.refl _ _))
  by_cases h5 : u = v
  · have t0 : (u == v) = true := by simpa using h5
    have he : pairE n u v = 6 := by unfold pairE; rw [if_neg (by omega), if_pos h5]
    have hfin : Hid (∀ w', Mod [] w w' → PairOut n L u v w (.returned (.tuple #[.pointer none, .slice none 0 0, .int .i64 6])) w') := Lib.hid (fun w' m => ⟨.inl ⟨by rw [he]; decide, by rw [he], m⟩⟩)
    clear he hOf hG
    go_enter Try.func46, Try.ntmps46
    go_wp2_with fail
    refine (hN'.out _ (Mod.refl _ _)).mono ?_
    rintro e w1 ⟨rfl, hw1⟩
    subst w1
    try dsimp only
    go_wp2_with fail
    exact bodyPost_ret (v := .tuple #[.pointer none, .slice none 0 0, .int .i64 6]) (by simp [results, Try.results46, go_sem]) rfl (hfin.out _ (Mod.refl _ _))
  have t0 : (u == v) = false := by simpa using h5
  have he : pairE n u v = 0 := by unfold pairE; rw [if_neg (by omega), if_neg h5]
  have hisN := pairN_ok hn4 ⟨by omega, by omega⟩ ⟨by omega, by omega⟩ h5
  have hdn : Hid (pairE n u v = 0 ∧ isN ((n : Int) - 1) (pairN n u v)) := Lib.hid ⟨he, hisN⟩
  have hmk := make_run (P := Try.prog) 29 3 (.int .i64 0) 8 Try.underlying29 infoInt0 rfl (by omega) n (by omega)
  have hpl : Hid ((pairN n u v).length = n) := Lib.hid (pairN_len n u v)
  have hst0 : Hid (Sep w (w.alloc (.cells (madeCells #[.int .i64 0] n) 3)) [Row 3 1 n (.slice (some ⟨w.heap.size, 0, none⟩) n n) (i64s (pairK n u v 0))]) := Lib.hid (by
    have h5 := (Sep.empty w).made (made_made w 3 (.int .i64 0) n (by omega))
    rw [pairK_zero]
    have e : i64s (List.replicate n 0) = List.replicate n (.int .i64 0) := by simp [i64s]
    rw [e]
    exact h5)
  have hstep := Lib.hid (pairK_step n u v)
  have hall := Lib.hid (pairK_all n u v)
  have hn0 : 0 < n := by omega
  clear he hisN hG
  rcases (show u < v ∨ v < u by omega) with hlt0 | hlt0
  · have hval : Hid (∀ x : Nat, pairV u v x = if (x : Int) = v then u else if v < (x : Int) then (x : Int) - 1 else (x : Int)) := Lib.hid (fun x => by unfold pairV; rw [show max u v = v by omega, show min u v = u by omega])
    have tm1 : min u v = u := by omega
    have tm2 : max u v = v := by omega
    clear t0
    have t0 : (u == v) = false := by simp; omega
    go_enter Try.func46, Try.ntmps46
    go_wp2_with fail
    refine (hN'.out _ (Mod.refl _ _)).mono ?_
    rintro e w1 ⟨rfl, hw1⟩
    subst w1
    try dsimp only
    go_wp2_with fail
    generalize w.alloc (.cells (madeCells #[.int .i64 0] n) 3) = w1 at *
    generalize w.heap.size = g at *
    clear hmk tm1 tm2
    go_loopw [43] (fun i wr => ∃ k : Nat, k ≤ n ∧ i = .int .i64 k ∧ Hid (Sep w wr [Row 3 1 n (.slice (some ⟨g, 0, none⟩) n n) (i64s (pairK n u v k))])) (fun i _ => n - (intOf i).toNat)
    case atStart => exact ⟨0, Nat.zero_le _, rfl, hst0⟩
    case round =>
      clear hst0
      obtain ⟨k, hk, rfl, hS⟩ := hrel
      by_cases hlt : k < n
      · have hlt1 : (k : Int) < n := by omega
        obtain ⟨x0, g0⟩ := row_cell (hS.out.rowAt 0 rfl) (i := k) (by omega)
        have z0 := (hS.out.rowAt 0 rfl).frozenAt k
        have gl := own_lt (hS.out.rowAt 0 rfl) (g := g) rfl
        have hS1 := Lib.hid (hS.out.rowsetAt 0 rfl k (.int .i64 (k : Int)))
        have hv := hval.out k
        have hst := hstep.out k
        rw [hv] at hst
        clear hS hv
        by_cases c1 : (k : Int) = v
        · have d1 : ((k : Int) == v) = true := by simpa using c1
          have d2 : ¬ v < (k : Int) := by omega
          rw [if_pos c1] at hst
          have hst' := Lib.hid hst
          clear hst c1
          go_upto_region 15 with fail
          generalize wr.setCell ⟨g, k, none⟩ (.int .i64 (k : Int)) = W1 at *
          clear g0 z0 gl
          obtain ⟨x1, g1⟩ := row_cell (hS1.out.rowAt 0 rfl) (i := k) (by omega)
          have z1 := (hS1.out.rowAt 0 rfl).frozenAt k
          have gl := own_lt (hS1.out.rowAt 0 rfl) (g := g) rfl
          have hS2 := hS1.out.rowsetAt 0 rfl k (.int .i64 u)
          rw [i64s_set, i64s_set, show ((pairK n u v k).set k (k : Int)).set k u = (pairK n u v k).set k u by simp, hst'.out] at hS2
          have hS2' := Lib.hid hS2
          clear hS1 hS2
          go_wp2_with fail
          go_roundw
          case rel => exact ⟨k + 1, by omega, by go_num, hS2'⟩
          case measure => simp [intOf]; omega
        · have d1 : ((k : Int) == v) = false := by simpa using c1
          rw [if_neg c1] at hst
          by_cases c2 : v < (k : Int)
          · rw [if_pos c2] at hst
            have hst' := Lib.hid hst
            have hk0 : (0 : Int) < (k : Int) := by omega
            clear hst c1
            go_upto_region 15 with fail
            generalize wr.setCell ⟨g, k, none⟩ (.int .i64 (k : Int)) = W1 at *
            clear g0 z0 gl
            obtain ⟨x1, g1⟩ := row_cell (hS1.out.rowAt 0 rfl) (i := k) (by omega)
            have z1 := (hS1.out.rowAt 0 rfl).frozenAt k
            have gl := own_lt (hS1.out.rowAt 0 rfl) (g := g) rfl
            have hS2 := hS1.out.rowsetAt 0 rfl k (.int .i64 ((k : Int) - 1))
            rw [i64s_set, i64s_set, show ((pairK n u v k).set k (k : Int)).set k ((k : Int) - 1) = (pairK n u v k).set k ((k : Int) - 1) by simp, hst'.out] at hS2
            have hS2' := Lib.hid hS2
            clear hS1 hS2
            go_wp2_with fail
            go_roundw
            case rel => exact ⟨k + 1, by omega, by go_num, hS2'⟩
            case measure => simp [intOf]; omega
          · rw [if_neg c2] at hst
            have hst' := Lib.hid hst
            have hS2' := Lib.hid (show Sep w (wr.setCell ⟨g, k, none⟩ (.int .i64 (k : Int))) [Row 3 1 n (.slice (some ⟨g, 0, none⟩) n n) (i64s (pairK n u v (k + 1)))] by
              have h5 := hS1.out
              rw [i64s_set, hst'.out] at h5
              exact h5)
            clear hst c1 hS1
            go_wp2_with fail
            go_roundw
            case rel => exact ⟨k + 1, by omega, by go_num, hS2'⟩
            case measure => simp [intOf]; omega
      · have hkn : k = n := by omega
        have hSn := Lib.hid (show Sep w wr [Row 3 1 n (.slice (some ⟨g, 0, none⟩) n n) (i64s (pairN n u v))] by
          have h5 := hS.out
          rw [hkn, hall.out] at h5
          exact h5)
        have cof := Lib.hid (hOf.out wr hSn.out.mod (.slice (some ⟨g, 0, none⟩) n n) (by rw [hpl.out]; exact Rd.own (hSn.out.rowAt 0 rfl)))
        clear hS hk hkn hOf
        go_wp2_with fail
        refine cof.out.mono ?_
        rintro e w5 hO
        rcases hO.out with ⟨hbad, _⟩ | ⟨_, b2, rfl, hS5⟩
        · exact absurd ⟨hpl.out, hdn.out.2⟩ hbad
        have hS6 := Lib.hid (show Sep w w5 [NetP b2 ((n : Int) - 1).toNat (merged (mapL (pairN n u v) L)), Row 3 1 n (.slice (some ⟨g, 0, none⟩) n n) (i64s (pairN n u v))] by
          obtain ⟨F, h1, h2, _⟩ := hS5.first
          exact hSn.out.add hS5.mod h1 (fun b hb => (h2 b hb).2))
        clear hO hS5 cof hSn
        try dsimp only
        go_wp2_with fail
        exact bodyPost_ret (v := .tuple #[.pointer (some ⟨b2, 0, none⟩), .slice (some ⟨g, 0, none⟩) n n, .int .i64 0]) (by simp [results, Try.results46, go_sem]) rfl ⟨.inr ⟨hdn.out.1, hdn.out.2, b2, _, _, rfl, hS6.out⟩⟩
  · have hval : Hid (∀ x : Nat, pairV u v x = if (x : Int) = u then v else if u < (x : Int) then (x : Int) - 1 else (x : Int)) := Lib.hid (fun x => by unfold pairV; rw [show max u v = u by omega, show min u v = v by omega])
    have tm1 : min u v = v := by omega
    have tm2 : max u v = u := by omega
    clear t0
    have t0 : (u == v) = false := by simp; omega
    go_enter Try.func46, Try.ntmps46
    go_wp2_with fail
    refine (hN'.out _ (Mod.refl _ _)).mono ?_
    rintro e w1 ⟨rfl, hw1⟩
    subst w1
    try dsimp only
    go_wp2_with fail
    generalize w.alloc (.cells (madeCells #[.int .i64 0] n) 3) = w1 at *
    generalize w.heap.size = g at *
    clear hmk tm1 tm2
    go_loopw [43] (fun i wr => ∃ k : Nat, k ≤ n ∧ i = .int .i64 k ∧ Hid (Sep w wr [Row 3 1 n (.slice (some ⟨g, 0, none⟩) n n) (i64s (pairK n u v k))])) (fun i _ => n - (intOf i).toNat)
    case atStart => exact ⟨0, Nat.zero_le _, rfl, hst0⟩
    case round =>
      clear hst0
      obtain ⟨k, hk, rfl, hS⟩ := hrel
      by_cases hlt : k < n
      · have hlt1 : (k : Int) < n := by omega
        obtain ⟨x0, g0⟩ := row_cell (hS.out.rowAt 0 rfl) (i := k) (by omega)
        have z0 := (hS.out.rowAt 0 rfl).frozenAt k
        have gl := own_lt (hS.out.rowAt 0 rfl) (g := g) rfl
        have hS1 := Lib.hid (hS.out.rowsetAt 0 rfl k (.int .i64 (k : Int)))
        have hv := hval.out k
        have hst := hstep.out k
        rw [hv] at hst
        clear hS hv
        by_cases c1 : (k : Int) = u
        · have d1 : ((k : Int) == u) = true := by simpa using c1
          have d2 : ¬ u < (k : Int) := by omega
          rw [if_pos c1] at hst
          have hst' := Lib.hid hst
          clear hst c1
          go_upto_region 15 with fail
          generalize wr.setCell ⟨g, k, none⟩ (.int .i64 (k : Int)) = W1 at *
          clear g0 z0 gl
          obtain ⟨x1, g1⟩ := row_cell (hS1.out.rowAt 0 rfl) (i := k) (by omega)
          have z1 := (hS1.out.rowAt 0 rfl).frozenAt k
          have gl := own_lt (hS1.out.rowAt 0 rfl) (g := g) rfl
          have hS2 := hS1.out.rowsetAt 0 rfl k (.int .i64 v)
          rw [i64s_set, i64s_set, show ((pairK n u v k).set k (k : Int)).set k v = (pairK n u v k).set k v by simp, hst'.out] at hS2
          have hS2' := Lib.hid hS2
          clear hS1 hS2
          go_wp2_with fail
          go_roundw
          case rel => exact ⟨k + 1, by omega, by go_num, hS2'⟩
          case measure => simp [intOf]; omega
        · have d1 : ((k : Int) == u) = false := by simpa using c1
          rw [if_neg c1] at hst
          by_cases c2 : u < (k : Int)
          · rw [if_pos c2] at hst
            have hst' := Lib.hid hst
            have hk0 : (0 : Int) < (k : Int) := by omega
            clear hst c1
            go_upto_region 15 with fail
            generalize wr.setCell ⟨g, k, none⟩ (.int .i64 (k : Int)) = W1 at *
            clear g0 z0 gl
            obtain ⟨x1, g1⟩ := row_cell (hS1.out.rowAt 0 rfl) (i := k) (by omega)
            have z1 := (hS1.out.rowAt 0 rfl).frozenAt k
            have gl := own_lt (hS1.out.rowAt 0 rfl) (g := g) rfl
            have hS2 := hS1.out.rowsetAt 0 rfl k (.int .i64 ((k : Int) - 1))
            rw [i64s_set, i64s_set, show ((pairK n u v k).set k (k : Int)).set k ((k : Int) - 1) = (pairK n u v k).set k ((k : Int) - 1) by simp, hst'.out] at hS2
            have hS2' := Lib.hid hS2
            clear hS1 hS2
            go_wp2_with fail
            go_roundw
            case rel => exact ⟨k + 1, by omega, by go_num, hS2'⟩
            case measure => simp [intOf]; omega
          · rw [if_neg c2] at hst
            have hst' := Lib.hid hst
            have hS2' := Lib.hid (show Sep w (wr.setCell ⟨g, k, none⟩ (.int .i64 (k : Int))) [Row 3 1 n (.slice (some ⟨g, 0, none⟩) n n) (i64s (pairK n u v (k + 1)))] by
              have h5 := hS1.out
              rw [i64s_set, hst'.out] at h5
              exact h5)
            clear hst c1 hS1
            go_wp2_with fail
            go_roundw
            case rel => exact ⟨k + 1, by omega, by go_num, hS2'⟩
            case measure => simp [intOf]; omega
      · have hkn : k = n := by omega
        have hSn := Lib.hid (show Sep w wr [Row 3 1 n (.slice (some ⟨g, 0, none⟩) n n) (i64s (pairN n u v))] by
          have h5 := hS.out
          rw [hkn, hall.out] at h5
          exact h5)
        have cof := Lib.hid (hOf.out wr hSn.out.mod (.slice (some ⟨g, 0, none⟩) n n) (by rw [hpl.out]; exact Rd.own (hSn.out.rowAt 0 rfl)))
        clear hS hk hkn hOf
        go_wp2_with fail
        refine cof.out.mono ?_
        rintro e w5 hO
        rcases hO.out with ⟨hbad, _⟩ | ⟨_, b2, rfl, hS5⟩
        · exact absurd ⟨hpl.out, hdn.out.2⟩ hbad
        have hS6 := Lib.hid (show Sep w w5 [NetP b2 ((n : Int) - 1).toNat (merged (mapL (pairN n u v) L)), Row 3 1 n (.slice (some ⟨g, 0, none⟩) n n) (i64s (pairN n u v))] by
          obtain ⟨F, h1, h2, _⟩ := hS5.first
          exact hSn.out.add hS5.mod h1 (fun b hb => (h2 b hb).2))
        clear hO hS5 cof hSn
        try dsimp only
        go_wp2_with fail
        exact bodyPost_ret (v := .tuple #[.pointer (some ⟨b2, 0, none⟩), .slice (some ⟨g, 0, none⟩) n n, .int .i64 0]) (by simp [results, Try.results46, go_sem]) rfl ⟨.inr ⟨hdn.out.1, hdn.out.2, b2, _, _, rfl, hS6.out⟩⟩
end Edge
end Go.Proofs.Ytkhbnopmeapfjaa
