/- The reference's sets as bytes. -/
import Derived.Test.YtmkbinbggiocaaaCode4
set_option linter.unusedVariables false
set_option linter.unusedSimpArgs false
namespace Go.Proofs.Ytmkbinbggiocaaa
open Go.RowKit
namespace Code
set_option maxRecDepth 100000 in
set_option maxHeartbeats 4000000 in
theorem refBits_ok {w : World} {vl : Value} (n : Int) (l : List Int) (hok : bitsOk n l = true) (hr : Rd w 1 vl l.length (vi64 l)) :
    Calls Try.prog 37 #[.int .i64 n, vl] w fun e w' => ∃ a c, e = .returned (.agg #[.slice a (bitsB (wideN n) l).length c, .bool true]) ∧ Made w w' 5 1 a (bitsB (wideN n) l).length c (u8s (bitsB (wideN n) l)) := by
  simp only [bitsOk, Bool.and_eq_true, decide_eq_true_eq] at hok
  obtain ⟨⟨h0, h1⟩, hrise⟩ := hok
  rw [rises_iff] at hrise
  obtain ⟨hris, hrng⟩ := hrise
  obtain ⟨al, cl, rfl⟩ := hr.val
  have hm : wideN n ≤ 513 := by unfold wideN; omega
  have hmk : ∀ W : World, (Instr.makeSlice 45 (.int .i64 ((n + 7) / 8)) (.int .i64 ((n + 7) / 8))).run Try.prog W = .ok (.slice (some ⟨W.heap.size, 0, none⟩) (wideN n) (wideN n)) (W.alloc (.cells (madeCells #[.int .u8 0] (wideN n)) 5)) := by
    rw [show (n + 7) / 8 = ((wideN n : Nat) : Int) from by unfold wideN; omega]
    exact make_run (P := Try.prog) 45 5 (.int .u8 0) 1 Try.underlying45 infoU8 rfl (by omega) (wideN n) (by omega)
  have hr' := Lib.hid hr
  have hrng' := Lib.hid hrng
  have hris' := Lib.hid hris
  have hll := hr.le
  have hd0 : decide (n < 0) = false := by simp; omega
  have hd1 : decide (4096 < n) = false := by simp; omega
  have hW : Hid (∀ v : Int, 0 ≤ v → v < n → v / 8 < wideN n ∧ (v / 8).toNat < wideN n) := fun v hv hvn => by unfold wideN; omega
  clear hr hrng hris
  have hmade := (made_made (w.alloc (.cells #[.slice none 0 0, .bool false] 58)) 5 (.int .u8 0) (wideN n) (by omega)).before ((Mod.refl [] w).alloc _)
  have e0 : List.replicate (wideN n) (Value.int .u8 0) = u8s (bitsB (wideN n) (l.take 0)) := by simp [bitsB_nil, u8s]
  rw [e0] at hmade
  simp only [World.size_alloc] at hmade
  have hmade' := Lib.hid hmade
  have hslot : Has ((w.alloc (.cells #[.slice none 0 0, .bool false] 58)).alloc (.cells (madeCells #[.int .u8 0] (wideN n)) 5)) w.heap.size [.slice none 0 0, .bool false] 58 := (Has.new w [.slice none 0 0, .bool false] 58).alloc _
  have hslot' := Lib.hid hslot
  clear hmade e0 hslot
  generalize hmm : wideN n = m at *
  have hmm' := Lib.hid hmm
  clear hmm
  go_enter Try.func37, Try.ntmps37
  go_wp2_with fail
  generalize hB : w.heap.size = B at *
  have hB' := Lib.hid hB
  clear hB
  go_loopw [6] (fun i wr => ∃ (k : Nat), k ≤ l.length ∧ i = .int .i64 k ∧ Made w wr 5 1 (some ⟨B + 1, 0, none⟩) m m (u8s (bitsB m (l.take k))) ∧ Has wr B [.slice none 0 0, .bool false] 58) (fun i _ => l.length - (intOf i).toNat)
  case atStart => exact ⟨0, Nat.zero_le _, rfl, hmade'.out, hslot'.out⟩
  case round =>
    clear hmade' hslot'
    obtain ⟨k, hk, rfl, hmd, hsl⟩ := hrel
    obtain ⟨wo, hwo⟩ : ∃ wo : World, wo = wr := ⟨_, rfl⟩
    clear hwo
    have hBl := hsl.lt
    by_cases hlt : k < l.length
    · obtain ⟨x, hx⟩ : ∃ x, l[k]? = some x := ⟨l[k], List.getElem?_eq_getElem hlt⟩
      have hxm : x ∈ l := List.mem_of_getElem? hx
      obtain ⟨g, o, rfl, _, _, hcell⟩ := (hr'.out.still hmd.mod).at (by rw [vi64_len]; omega)
      have hc := hcell k _ (vi64_get hx)
      have hx0 := (hrng'.out x hxm).1
      have hx1 := (hrng'.out x hxm).2
      have hq := hW.out x (by omega) hx1
      have hxx : 0 ≤ x := by omega
      have t1 : decide (x < 0) = false := by simp; omega
      have t2 : decide (n ≤ x) = false := by simp; omega
      obtain ⟨hq1, hq2⟩ := hq
      have hq0 : 0 ≤ x / 8 := by omega
      have hbyte := hmd.cell (x / 8).toNat (u := .int .u8 ((byteAt (l.take k) (x / 8).toNat : Nat) : Int)) (u8s_get (bitsB_get _ _ _ hq2))
      have hfr := hmd.own.frozenAt (x / 8).toNat
      have hbl := own_lt hmd.own (g := B + 1) rfl
      have hlow := byteAt_lt hris'.out (fun y hy => by have := (hrng'.out y hy).1; omega) k x hxx (fun i y hi hy => hris'.out i k y x hy hx hi)
      have hbx := bit_le x hxx
      have hval : ((byteAt (l.take k) (x / 8).toNat : Nat) : Int) + (2 : Int) ^ (x % 8).toNat = ((byteAt (l.take k) (x / 8).toNat + bit x : Nat) : Int) := by simp [bit]
      have hnew : ∀ (b0 nq : Nat), b0 = byteAt (l.take k) (x / 8).toNat → Made w ((wr.drewN nq).setCell ⟨B + 1, (x / 8).toNat, none⟩ (.int .u8 (((b0 : Int) + 2 ^ (x % 8).toNat) % 256))) 5 1 (some ⟨B + 1, 0, none⟩) m m (u8s (bitsB m (l.take (k + 1)))) := by
        rintro _ nq rfl
        rw [hval]
        rw [show ((byteAt (l.take k) (x / 8).toNat + bit x : Nat) : Int) % 256 = ((byteAt (l.take k) (x / 8).toNat + bit x : Nat) : Int) from by omega]
        have h := (hmd.drewN nq).store (x / 8).toNat (.int .u8 ((byteAt (l.take k) (x / 8).toNat + bit x : Nat) : Int))
        have e : l.take (k + 1) = l.take k ++ [x] := by rw [List.take_add_one, hx]; rfl
        rw [e, bitsB_snoc m _ x hxx hq2]
        rw [show (u8s (bitsB m (l.take k))).set (x / 8).toNat (.int .u8 ((byteAt (l.take k) (x / 8).toNat + bit x : Nat) : Int)) = u8s ((bitsB m (l.take k)).set (x / 8).toNat ((byteAt (l.take k) (x / 8).toNat + bit x : Nat) : Int)) from by simp [u8s, List.map_set]] at h
        exact h
      have hsl2 : ∀ (nq : Nat) (v : Value), Has ((wr.drewN nq).setCell ⟨B + 1, (x / 8).toNat, none⟩ v) B [.slice none 0 0, .bool false] 58 := fun nq v => (hsl.drewN nq).other _ _ (by simp)
      have hsl2' := Lib.hid hsl2
      clear hval hsl2
      have hnew' := Lib.hid hnew
      clear hnew
      generalize byteAt (l.take k) (x / 8).toNat = b0 at *
      by_cases hk0 : k = 0
      · subst hk0
        have t3 : decide ((0 : Int) < ((0 : Nat) : Int)) = false := by simp
        simp only [Nat.add_zero] at hc
        clear hcell hx
        go_wp2_with fail
        go_quiet (fail)
        go_wp2_with fail
        go_region
        go_wp2_with fail
        go_roundw
        case rel => exact ⟨1, by omega, by simp, hnew'.out _ _ rfl, hsl2'.out _ _⟩
        case measure => simp [intOf]; omega
      · obtain ⟨y, hy⟩ : ∃ y, l[k - 1]? = some y := ⟨l[k - 1], List.getElem?_eq_getElem (by omega)⟩
        have hyc := hcell (k - 1) _ (vi64_get hy)
        have hyx := hris'.out (k - 1) k y x hy hx (by omega)
        have t3 : decide (0 < (k : Int)) = true := by simp; omega
        have t3' : decide (0 < k) = true := by simp; omega
        have t4 : decide (x ≤ y) = false := by simp; omega
        have hkp : 1 ≤ k := by omega
        have hkk : ((k : Int) - 1).toNat = k - 1 := by omega
        have hw1 : IntKind.i64.wrap ((k : Int) - 1) = (k : Int) - 1 := IntWalk.i64_in _ (by omega)
        have hw2 : 0 ≤ (k : Int) - 1 := by omega
        have hw3 : (k : Int) - 1 < l.length := by omega
        have hw4 : k - 1 < l.length := by omega
        clear hcell hx hy hk0
        go_wp2_with fail
        go_quiet (fail)
        clear hkk hw1 hw2 hw3 hw4
        go_wp2_with fail
        go_region
        go_wp2_with fail
        go_roundw
        case rel => exact ⟨k + 1, by omega, by go_num, hnew'.out _ _ rfl, hsl2'.out _ _⟩
        case measure => simp [intOf]; omega
    · have hk' : k = l.length := by omega
      rw [hk', List.take_length] at hmd
      have hbl : (bitsB m l).length = m := bitsB_len m l
      have s0 := hsl.cell 0 rfl
      have s1 := hsl.cell 1 rfl
      have sf := hsl.free
      have hfin : ∀ u v, Made w ((wr.setCell ⟨B, 0, none⟩ u).setCell ⟨B, 1, none⟩ v) 5 1 (some ⟨B + 1, 0, none⟩) m m (u8s (bitsB m l)) := fun u v => by
        have e := hB'.out
        exact ⟨own_other (own_other hmd.own _ _ (by simp [Value.ownBlock])) _ _ (by simp [Value.ownBlock]), (hmd.mod.setCell _ _ (fun h => by simp only at h; omega)).setCell _ _ (fun h => by simp only at h; omega), hmd.new⟩
      have hfin' := Lib.hid hfin
      have hbl' := Lib.hid hbl
      clear hk' hfin hbl
      go_wp2_with fail
      refine bodyPost_ret (v := .agg #[.slice (some ⟨B + 1, 0, none⟩) m m, .bool true]) (by simp [results, Try.results37, go_sem, s0, s1]) rfl ?_
      rw [hbl'.out]
      exact ⟨_, _, rfl, hfin'.out _ _⟩
set_option maxHeartbeats 1000000 in
theorem refBits_out {w : World} {vl : Value} (n : Int) (h : n < 0 ∨ 4096 < n) :
    Calls Try.prog 37 #[.int .i64 n, vl] w fun e w' => e = .returned (.agg #[.slice none 0 0, .bool false]) ∧ Mod [] w w' := by
  have hm : ∀ o, Mod [] w (w.alloc o) := fun o => (Mod.refl _ _).alloc o
  have hm' := Lib.hid hm
  clear hm
  by_cases h0 : n < 0
  · have hd0 : decide (n < 0) = true := by simpa using h0
    go_enter Try.func37, Try.ntmps37
    go_wp2_with fail
    exact bodyPost_ret (v := .agg #[.slice none 0 0, .bool false]) (by simp [results, Try.results37, go_sem]) rfl ⟨rfl, hm'.out _⟩
  · have hd0 : decide (n < 0) = false := by simpa using h0
    have h1 : 4096 < n := by omega
    have hd1 : decide (4096 < n) = true := by simpa using h1
    go_enter Try.func37, Try.ntmps37
    go_wp2_with fail
    exact bodyPost_ret (v := .agg #[.slice none 0 0, .bool false]) (by simp [results, Try.results37, go_sem]) rfl ⟨rfl, hm'.out _⟩
set_option maxRecDepth 100000 in
set_option maxHeartbeats 8000000 in
theorem refBits_bad {w : World} {vl : Value} (n : Int) (l : List Int) (h0 : 0 ≤ n) (h1 : n ≤ 4096) (hbad : risesB n (-1) l = false) (hr : Rd w 1 vl l.length (vi64 l)) :
    Calls Try.prog 37 #[.int .i64 n, vl] w fun e w' => e = .returned (.agg #[.slice none 0 0, .bool false]) ∧ Mod [] w w' := by
  obtain ⟨K, X, hX, hrise, hfail⟩ := rises_fails n l (-1) hbad
  have hKl : K < l.length := (List.getElem?_eq_some_iff.1 hX).1
  rw [rises_iff] at hrise
  obtain ⟨hris, hrng⟩ := hrise
  obtain ⟨al, cl, rfl⟩ := hr.val
  have hm : wideN n ≤ 513 := by unfold wideN; omega
  have hmk : ∀ W : World, (Instr.makeSlice 45 (.int .i64 ((n + 7) / 8)) (.int .i64 ((n + 7) / 8))).run Try.prog W = .ok (.slice (some ⟨W.heap.size, 0, none⟩) (wideN n) (wideN n)) (W.alloc (.cells (madeCells #[.int .u8 0] (wideN n)) 5)) := by
    rw [show (n + 7) / 8 = ((wideN n : Nat) : Int) from by unfold wideN; omega]
    exact make_run (P := Try.prog) 45 5 (.int .u8 0) 1 Try.underlying45 infoU8 rfl (by omega) (wideN n) (by omega)
  have hget : ∀ k x, k < K → l[k]? = some x → (l.take K)[k]? = some x := fun k x hk hx => by rw [List.getElem?_take]; simp [hk, hx]
  have hr' := Lib.hid hr
  have hrng' : Hid (∀ (k : Nat) (x : Int), k < K → l[k]? = some x → -1 < x ∧ x < n) := fun k x hk hx => hrng x (List.mem_of_getElem? (hget k x hk hx))
  have hris' : Hid (∀ (i j : Nat) (x y : Int), j < K → l[i]? = some x → l[j]? = some y → i < j → x < y) := fun i j x y hj hx hy hij => hris i j x y (hget i x (by omega) hx) (hget j y hj hy) hij
  have hfail' : Hid (X ≤ (((-1 : Int) :: l)[K]?).getD 0 ∨ n ≤ X) := hfail
  have hll := hr.le
  have hd0 : decide (n < 0) = false := by simp; omega
  have hd1 : decide (4096 < n) = false := by simp; omega
  have hW : Hid (∀ v : Int, 0 ≤ v → v < n → v / 8 < wideN n ∧ (v / 8).toNat < wideN n) := fun v hv hvn => by unfold wideN; omega
  have hX' := Lib.hid hX
  have hmade : ∃ xs, Made w ((w.alloc (.cells #[.slice none 0 0, .bool false] 58)).alloc (.cells (madeCells #[.int .u8 0] (wideN n)) 5)) 5 1 (some ⟨w.heap.size + 1, 0, none⟩) (wideN n) (wideN n) (u8s xs) := ⟨List.replicate (wideN n) 0, by
    have h := (made_made (w.alloc (.cells #[.slice none 0 0, .bool false] 58)) 5 (.int .u8 0) (wideN n) (by omega)).before ((Mod.refl [] w).alloc _)
    simpa [u8s] using h⟩
  have hmade' := Lib.hid hmade
  have hslot : Has ((w.alloc (.cells #[.slice none 0 0, .bool false] 58)).alloc (.cells (madeCells #[.int .u8 0] (wideN n)) 5)) w.heap.size [.slice none 0 0, .bool false] 58 := (Has.new w [.slice none 0 0, .bool false] 58).alloc _
  have hslot' := Lib.hid hslot
  clear hmade hslot hr hrng hris hget hX hfail hbad
  generalize wideN n = m at *
  go_enter Try.func37, Try.ntmps37
  go_wp2_with fail
  generalize hB : w.heap.size = B at *
  have hB' := Lib.hid hB
  clear hB
  go_loopw [6] (fun i wr => ∃ (k : Nat), k ≤ K ∧ i = .int .i64 k ∧ (∃ xs, Made w wr 5 1 (some ⟨B + 1, 0, none⟩) m m (u8s xs)) ∧ Has wr B [.slice none 0 0, .bool false] 58) (fun i _ => l.length - (intOf i).toNat)
  case atStart => exact ⟨0, Nat.zero_le _, rfl, hmade'.out, hslot'.out⟩
  case round =>
    clear hmade' hslot'
    obtain ⟨k, hk, rfl, ⟨xs, hmd⟩, hsl⟩ := hrel
    obtain ⟨wo, hwo⟩ : ∃ wo : World, wo = wr := ⟨_, rfl⟩
    clear hwo
    have hBl := hsl.lt
    have hlt : k < l.length := by omega
    obtain ⟨x, hx⟩ : ∃ x, l[k]? = some x := ⟨l[k], List.getElem?_eq_getElem hlt⟩
    obtain ⟨g, o, rfl, _, _, hcell⟩ := (hr'.out.still hmd.mod).at (by rw [vi64_len]; omega)
    have hc := hcell k _ (vi64_get hx)
    by_cases hkK : k < K
    · have hx0 := (hrng'.out k x hkK hx).1
      have hx1 := (hrng'.out k x hkK hx).2
      have hq := hW.out x (by omega) hx1
      have hxx : 0 ≤ x := by omega
      have t1 : decide (x < 0) = false := by simp; omega
      have t2 : decide (n ≤ x) = false := by simp; omega
      obtain ⟨hq1, hq2⟩ := hq
      have hq0 : 0 ≤ x / 8 := by omega
      have hxl : xs.length = m := by have := hmd.own.1; simpa [u8s] using this
      obtain ⟨b0, hb0⟩ : ∃ b0, xs[(x / 8).toNat]? = some b0 := ⟨xs[(x / 8).toNat], List.getElem?_eq_getElem (by omega)⟩
      have hbyte := hmd.cell (x / 8).toNat (u := .int .u8 b0) (u8s_get hb0)
      have hfr := hmd.own.frozenAt (x / 8).toNat
      have hbl := own_lt hmd.own (g := B + 1) rfl
      have hnew : ∀ (nq : Nat) v, Made w ((wr.drewN nq).setCell ⟨B + 1, (x / 8).toNat, none⟩ (.int .u8 v)) 5 1 (some ⟨B + 1, 0, none⟩) m m (u8s (xs.set (x / 8).toNat v)) := fun nq v => by
        have h := (hmd.drewN nq).store (x / 8).toNat (.int .u8 v)
        rw [show (u8s xs).set (x / 8).toNat (.int .u8 v) = u8s (xs.set (x / 8).toNat v) from by simp [u8s, List.map_set]] at h
        exact h
      have hsl2 : ∀ (nq : Nat) (v : Value), Has ((wr.drewN nq).setCell ⟨B + 1, (x / 8).toNat, none⟩ v) B [.slice none 0 0, .bool false] 58 := fun nq v => (hsl.drewN nq).other _ _ (by simp)
      have hsl2' := Lib.hid hsl2
      have hnew' := Lib.hid hnew
      clear hsl2 hnew hb0 hxl
      by_cases hk0 : k = 0
      · subst hk0
        have t3 : decide ((0 : Int) < ((0 : Nat) : Int)) = false := by simp
        simp only [Nat.add_zero] at hc
        clear hcell hx
        go_wp2_with fail
        go_quiet (fail)
        go_wp2_with fail
        go_region
        go_wp2_with fail
        go_roundw
        case rel => exact ⟨1, by omega, by simp, ⟨_, hnew'.out _ _⟩, hsl2'.out _ _⟩
        case measure => simp [intOf]; omega
      · obtain ⟨y, hy⟩ : ∃ y, l[k - 1]? = some y := ⟨l[k - 1], List.getElem?_eq_getElem (by omega)⟩
        have hyc := hcell (k - 1) _ (vi64_get hy)
        have hyx := hris'.out (k - 1) k y x hkK hy hx (by omega)
        have t3 : decide (0 < (k : Int)) = true := by simp; omega
        have t3' : decide (0 < k) = true := by simp; omega
        have t4 : decide (x ≤ y) = false := by simp; omega
        have hkp : 1 ≤ k := by omega
        have hkk : ((k : Int) - 1).toNat = k - 1 := by omega
        have hw1 : IntKind.i64.wrap ((k : Int) - 1) = (k : Int) - 1 := IntWalk.i64_in _ (by omega)
        have hw2 : 0 ≤ (k : Int) - 1 := by omega
        have hw3 : (k : Int) - 1 < l.length := by omega
        have hw4 : k - 1 < l.length := by omega
        clear hcell hx hy hk0
        go_wp2_with fail
        go_quiet (fail)
        clear hkk hw1 hw2 hw3 hw4
        go_wp2_with fail
        go_region
        go_wp2_with fail
        go_roundw
        case rel => exact ⟨k + 1, by omega, by go_num, ⟨_, hnew'.out _ _⟩, hsl2'.out _ _⟩
        case measure => simp [intOf]; omega
    · have hkK' : k = K := by omega
      subst hkK'
      have hxX : x = X := by have := hX'.out; rw [hx] at this; simpa using this
      subst hxX
      have hmod : ∀ nq u v, Mod [] w (((wr.drewN nq).setCell ⟨B, 0, none⟩ u).setCell ⟨B, 1, none⟩ v) := fun nq u v => by
        have e := hB'.out
        exact ((hmd.mod.drewN nq).setCell _ _ (fun h => by simp only at h; omega)).setCell _ _ (fun h => by simp only at h; omega)
      have hmod' := Lib.hid hmod
      have hf := hfail'
      have s0 := hsl.cell 0 rfl
      have s1 := hsl.cell 1 rfl
      have sf := hsl.free
      clear hmod hkK
      by_cases hneg : x < 0
      · have t1 : decide (x < 0) = true := by simpa using hneg
        by_cases hk0 : k = 0
        · subst hk0
          simp only [Nat.add_zero] at hc
          clear hcell hx
          go_wp2_with fail
          go_quiet (fail)
          go_wp2_with fail
          exact bodyPost_ret (v := .agg #[.slice none 0 0, .bool false]) (by simp [results, Try.results37, go_sem, s0, s1]) rfl ⟨rfl, hmod'.out _ _ _⟩
        · clear hcell hx
          go_wp2_with fail
          go_quiet (fail)
          go_wp2_with fail
          exact bodyPost_ret (v := .agg #[.slice none 0 0, .bool false]) (by simp [results, Try.results37, go_sem, s0, s1]) rfl ⟨rfl, hmod'.out _ _ _⟩
      · have t1 : decide (x < 0) = false := by simpa using hneg
        by_cases hge : n ≤ x
        · have t2 : decide (n ≤ x) = true := by simpa using hge
          by_cases hk0 : k = 0
          · subst hk0
            simp only [Nat.add_zero] at hc
            clear hcell hx
            go_wp2_with fail
            go_quiet (fail)
            go_wp2_with fail
            exact bodyPost_ret (v := .agg #[.slice none 0 0, .bool false]) (by simp [results, Try.results37, go_sem, s0, s1]) rfl ⟨rfl, hmod'.out _ _ _⟩
          · clear hcell hx
            go_wp2_with fail
            go_quiet (fail)
            go_wp2_with fail
            exact bodyPost_ret (v := .agg #[.slice none 0 0, .bool false]) (by simp [results, Try.results37, go_sem, s0, s1]) rfl ⟨rfl, hmod'.out _ _ _⟩
        · have t2 : decide (n ≤ x) = false := by simpa using hge
          have hle : x ≤ (((-1 : Int) :: l)[k]?).getD 0 := by rcases hf.out with h | h; · exact h
                                                              · exact absurd h hge
          have hk0 : k ≠ 0 := by
            rintro rfl
            simp at hle; omega
          obtain ⟨y, hy⟩ : ∃ y, l[k - 1]? = some y := ⟨l[k - 1], List.getElem?_eq_getElem (by omega)⟩
          have hyc := hcell (k - 1) _ (vi64_get hy)
          have hxy : x ≤ y := by
            obtain ⟨j, rfl⟩ : ∃ j, k = j + 1 := ⟨k - 1, by omega⟩
            simp at hy hle
            simpa [hy] using hle
          have t3 : decide (0 < (k : Int)) = true := by simp; omega
          have t3' : decide (0 < k) = true := by simp; omega
          have t4 : decide (x ≤ y) = true := by simpa using hxy
          have hkp : 1 ≤ k := by omega
          have hkk : ((k : Int) - 1).toNat = k - 1 := by omega
          have hw1 : IntKind.i64.wrap ((k : Int) - 1) = (k : Int) - 1 := IntWalk.i64_in _ (by omega)
          have hw2 : 0 ≤ (k : Int) - 1 := by omega
          have hw3 : (k : Int) - 1 < l.length := by omega
          have hw4 : k - 1 < l.length := by omega
          clear hcell hx hy hk0 hle
          go_wp2_with fail
          go_quiet (fail)
          clear hkk hw1 hw2 hw3 hw4
          go_wp2_with fail
          exact bodyPost_ret (v := .agg #[.slice none 0 0, .bool false]) (by simp [results, Try.results37, go_sem, s0, s1]) rfl ⟨rfl, hmod'.out _ _ _⟩
/-- What the reference's Bits answers. -/
def RefBitsOut (n : Int) (l : List Int) (w : World) (e : Ending) (w' : World) : Prop :=
  if bitsOk n l then ∃ a c, e = .returned (.agg #[.slice a (bitsB (wideN n) l).length c, .bool true]) ∧ Made w w' 5 1 a (bitsB (wideN n) l).length c (u8s (bitsB (wideN n) l))
  else e = .returned (.agg #[.slice none 0 0, .bool false]) ∧ Mod [] w w'
theorem refBits_any {w : World} {vl : Value} (n : Int) (l : List Int) (hr : Rd w 1 vl l.length (vi64 l)) :
    Calls Try.prog 37 #[.int .i64 n, vl] w (RefBitsOut n l w) := by
  cases hok : bitsOk n l with
  | true =>
    refine (refBits_ok n l hok hr).mono fun e w' h => ?_
    simpa [RefBitsOut, hok] using h
  | false =>
    by_cases hn : n < 0 ∨ 4096 < n
    · refine (refBits_out n hn).mono fun e w' h => ?_
      simpa [RefBitsOut, hok] using h
    · have hbad : risesB n (-1) l = false := by
        have h0 : 0 ≤ n := by omega
        have h1 : n ≤ 4096 := by omega
        simpa [bitsOk, h0, h1] using hok
      refine (refBits_bad n l (by omega) (by omega) hbad hr).mono fun e w' h => ?_
      simpa [RefBitsOut, hok] using h
end Code
end Go.Proofs.Ytmkbinbggiocaaa
