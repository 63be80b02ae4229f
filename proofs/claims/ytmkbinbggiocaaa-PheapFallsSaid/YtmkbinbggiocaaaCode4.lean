/- Sets as bytes: code.wide, code.Bits; the reference's Bits. -/
import Derived.Test.YtmkbinbggiocaaaCode3
import Derived.Test.YtmkbinbggiocaaaBitsLaw
import Derived.Test.YtmkbinbggiocaaaKit3
set_option linter.unusedVariables false
set_option linter.unusedSimpArgs false
namespace Go.Proofs.Ytmkbinbggiocaaa
open Go.RowKit
namespace Code
def wideN (n : Int) : Nat := ((n + 7) / 8).toNat
set_option maxHeartbeats 1000000 in
theorem wide_any (n : Int) (w : World) (h0 : 0 ≤ n) (h1 : n ≤ 100000) :
    Calls Try.prog 98 #[.int .i64 n] w fun e w' => e = .returned (.int .i64 (wideN n)) ∧ w = w' := by
  have e : ((wideN n : Nat) : Int) = (n + 7) / 8 := by unfold wideN; omega
  have e' := Lib.hid e
  clear e
  go_enter Try.func98, Try.ntmps98
  go_wp2
  go_ret
  rw [e'.out]
  exact ⟨rfl, rfl⟩
/-- The set's bytes may be put? -/
def bitsOk (n : Int) (l : List Int) : Bool := decide (0 ≤ n) && decide (n ≤ 4096) && risesB n (-1) l
set_option maxHeartbeats 2000000 in
theorem bits_ok {w : World} {vb vl : Value} {bs : List Int} (n : Int) (l : List Int) (hok : bitsOk n l = true) (hb : Rd w 1 vb bs.length (u8s bs)) (hlen : bs.length ≤ 100000) (hr : Rd w 1 vl l.length (vi64 l)) :
    Calls Try.prog 36 #[vb, .int .i64 n, vl] w fun e w' => ∃ a c, e = .returned (.tuple #[.slice a (bs ++ bitsB (wideN n) l).length c, .bool true]) ∧ Made w w' 5 1 a (bs ++ bitsB (wideN n) l).length c (u8s (bs ++ bitsB (wideN n) l)) := by
  simp only [bitsOk, Bool.and_eq_true, decide_eq_true_eq] at hok
  obtain ⟨⟨h0, h1⟩, hrise⟩ := hok
  rw [rises_iff] at hrise
  obtain ⟨hris, hrng⟩ := hrise
  obtain ⟨al, cl, rfl⟩ := hr.val
  have hm : wideN n ≤ 513 := by unfold wideN; omega
  have hmk := make_run (P := Try.prog) 45 5 (.int .u8 0) 1 Try.underlying45 infoU8 rfl (by omega) (wideN n) (by omega)
  have hr' := Lib.hid hr
  have hb' := Lib.hid hb
  have hrng' := Lib.hid hrng
  have hris' := Lib.hid hris
  have hll := hr.le
  have hd0 : decide (n < 0) = false := by simp; omega
  have hd1 : decide (4096 < n) = false := by simp; omega
  have hW : Hid (∀ v : Int, 0 ≤ v → v < n → v / 8 < wideN n ∧ (v / 8).toNat < wideN n) := fun v hv hvn => by unfold wideN; omega
  clear hr hb hrng hris
  go_enter Try.func36, Try.ntmps36
  go_wp2_with fail
  refine (wide_any n w h0 (by omega)).mono ?_
  rintro e w1 ⟨rfl, rfl⟩
  dsimp only
  have hmade := made_made w 5 (.int .u8 0) (wideN n) (by omega)
  have e0 : List.replicate (wideN n) (Value.int .u8 0) = u8s (bitsB (wideN n) (l.take 0)) := by simp [bitsB_nil, u8s]
  rw [e0] at hmade
  have hmade' := Lib.hid hmade
  clear hmade e0
  have hwide := wide_any n w h0 (by omega)
  generalize hmm : wideN n = m at *
  have hmm' := Lib.hid hmm
  clear hmm hwide
  go_wp2_with fail
  generalize hB : w.heap.size = B at *
  have hB' := Lib.hid hB
  clear hB
  go_loopw [9, 23] (fun last i wr => ∃ (k : Nat) (lv : Int), k ≤ l.length ∧ i = .int .i64 k ∧ last = .int .i64 lv ∧ (∀ x, l[k]? = some x → lv < x) ∧ Made w wr 5 1 (some ⟨B, 0, none⟩) m m (u8s (bitsB m (l.take k)))) (fun _ i _ => l.length - (intOf i).toNat)
  case atStart => exact ⟨0, -1, Nat.zero_le _, rfl, rfl, fun x hx => (hrng'.out x (List.mem_of_getElem? hx)).1, hmade'.out⟩
  case round =>
    clear hmade'
    obtain ⟨k, lv, hk, rfl, rfl, hlv, hmd⟩ := hrel
    obtain ⟨wo, hwo⟩ : ∃ wo : World, wo = wr := ⟨_, rfl⟩
    clear hwo
    by_cases hlt : k < l.length
    · obtain ⟨x, hx⟩ : ∃ x, l[k]? = some x := ⟨l[k], List.getElem?_eq_getElem hlt⟩
      have hxm : x ∈ l := List.mem_of_getElem? hx
      obtain ⟨g, o, rfl, _, _, hcell⟩ := (hr'.out.still hmd.mod).at (by rw [vi64_len]; omega)
      have hc := hcell k _ (vi64_get hx)
      have hx0 := (hrng'.out x hxm).1
      have hx1 := (hrng'.out x hxm).2
      have hx2 := hlv x hx
      have hq := hW.out x (by omega) hx1
      have hxx : 0 ≤ x := by omega
      have t1 : decide (x ≤ lv) = false := by simp; omega
      have t2 : decide (n ≤ x) = false := by simp; omega
      obtain ⟨hq1, hq2⟩ := hq
      have hq0 : 0 ≤ x / 8 := by omega
      have hbyte := hmd.cell (x / 8).toNat (u := .int .u8 ((byteAt (l.take k) (x / 8).toNat : Nat) : Int)) (u8s_get (bitsB_get _ _ _ hq2))
      have hfr := hmd.own.frozenAt (x / 8).toNat
      have hbl := own_lt hmd.own (g := B) rfl
      have hlow := byteAt_lt hris'.out (fun y hy => by have := (hrng'.out y hy).1; omega) k x hxx (fun i y hi hy => hris'.out i k y x hy hx hi)
      have hor := Lib.hid (or_bit_walk x _ hxx hlow)
      have hfin : ∀ w1, w1 = (wr.setCell ⟨B, (x / 8).toNat, none⟩ (.int .u8 (bits .or .u8 ((byteAt (l.take k) (x / 8).toNat : Nat) : Int) (2 ^ (x % 8).toNat % 256)))).drew → ∀ x', l[k + 1]? = some x' → x < x' := fun w1 _ x' hx' => hris'.out k (k + 1) x x' hx hx' (by omega)
      have hfin2 : Made w ((wr.setCell ⟨B, (x / 8).toNat, none⟩ (.int .u8 (bits .or .u8 ((byteAt (l.take k) (x / 8).toNat : Nat) : Int) (2 ^ (x % 8).toNat % 256)))).drew) 5 1 (some ⟨B, 0, none⟩) m m (u8s (bitsB m (l.take (k + 1)))) := by
        have h := (hmd.store (x / 8).toNat (.int .u8 (bits .or .u8 ((byteAt (l.take k) (x / 8).toNat : Nat) : Int) (2 ^ (x % 8).toNat % 256)))).drewN 1
        have e : l.take (k + 1) = l.take k ++ [x] := by rw [List.take_add_one, hx]; rfl
        rw [e, bitsB_snoc m _ x hxx hq2, ← hor.out]
        rw [show (u8s (bitsB m (l.take k))).set (x / 8).toNat (.int .u8 (bits .or .u8 ((byteAt (l.take k) (x / 8).toNat : Nat) : Int) (2 ^ (x % 8).toNat % 256))) = u8s ((bitsB m (l.take k)).set (x / 8).toNat (bits .or .u8 ((byteAt (l.take k) (x / 8).toNat : Nat) : Int) (2 ^ (x % 8).toNat % 256))) from by simp [u8s, List.map_set]] at h
        exact h
      have hnx : Hid (∀ x', l[k + 1]? = some x' → x < x') := fun x' hx' => hris'.out k (k + 1) x x' hx hx' (by omega)
      have hfin2' := Lib.hid hfin2
      clear hcell hfin hfin2 hlow hor hlv hx
      generalize byteAt (l.take k) (x / 8).toNat = b0 at *
      go_wp2_with fail
      go_region
      go_wp2_with fail
      go_roundw
      case rel => exact ⟨k + 1, x, by omega, by go_num, rfl, hnx.out, hfin2'.out⟩
      case measure => simp [intOf]; omega
    · have hk' : k = l.length := by omega
      rw [hk', List.take_length] at hmd
      have hbl : (bitsB m l).length = m := bitsB_len m l
      have hcl := clone_any (hb'.out.still hmd.mod) (by omega)
      clear hk' hlv
      go_wp2_with fail
      refine hcl.mono ?_
      rintro e w2 ⟨a2, c2, rfl, hm2⟩
      dsimp only
      clear hcl
      have hsrc : Rd w2 1 (.slice (some ⟨B, 0, none⟩) m m) m (u8s (bitsB m l)) := (Rd.own hmd.own).still hm2.mod
      have hm2' := hm2.before hmd.mod
      have hbl' := Lib.hid hbl
      clear hbl hm2
      go_wp2_with (at_builtin; refine app_rd rfl (.tmp 48) (.tmp 49) 45 5 _ 1 1 rfl Try.underlying45 infoU8 rfl (by omega) (by omega) (.slice a2 bs.length c2) (.slice (some ⟨B, 0, none⟩) m m) bs.length m (u8s bs) (u8s (bitsB m l)) rfl rfl (u8s_one _) hm2'.own hsrc (by omega) ?_; intro aA cA wA hA mA vA)
      go_ret2
      rw [List.length_append, hmm'.out, hbl'.out, u8s_append]
      exact ⟨aA, cA, rfl, hm2'.push hA mA vA⟩
/-- Where it begins to fail: the first k are right, the next one is not. -/
theorem rises_fails (n : Int) : ∀ (l : List Int) (last : Int), risesB n last l = false → ∃ k x, l[k]? = some x ∧ risesB n last (l.take k) = true ∧ (x ≤ ((last :: l)[k]?).getD 0 ∨ n ≤ x)
  | [], last, h => by simp [risesB] at h
  | v :: l, last, h => by
    by_cases h1 : last < v ∧ v < n
    · simp only [risesB, h1.1, h1.2, decide_true, Bool.true_and] at h
      obtain ⟨k, x, hx, hr, hf⟩ := rises_fails n l v h
      exact ⟨k + 1, x, by simpa using hx, by simp [risesB, h1.1, h1.2, hr], by simpa using hf⟩
    · refine ⟨0, v, by simp, by simp [risesB], ?_⟩
      simp
      omega
set_option maxHeartbeats 1000000 in
theorem bits_out {w : World} {vb vl : Value} (n : Int) (h : n < 0 ∨ 4096 < n) :
    Calls Try.prog 36 #[vb, .int .i64 n, vl] w fun e w' => e = .returned (.tuple #[.slice none 0 0, .bool false]) ∧ Mod [] w w' := by
  by_cases h0 : n < 0
  · have hd0 : decide (n < 0) = true := by simpa using h0
    go_enter Try.func36, Try.ntmps36
    go_wp2_with fail
    go_ret2
    exact ⟨rfl, Mod.refl _ _⟩
  · have hd0 : decide (n < 0) = false := by simpa using h0
    have h1 : 4096 < n := by omega
    have hd1 : decide (4096 < n) = true := by simpa using h1
    go_enter Try.func36, Try.ntmps36
    go_wp2_with fail
    go_ret2
    exact ⟨rfl, Mod.refl _ _⟩
set_option maxHeartbeats 2000000 in
theorem bits_bad {w : World} {vb vl : Value} (n : Int) (l : List Int) (h0 : 0 ≤ n) (h1 : n ≤ 4096) (hbad : risesB n (-1) l = false) (hr : Rd w 1 vl l.length (vi64 l)) :
    Calls Try.prog 36 #[vb, .int .i64 n, vl] w fun e w' => e = .returned (.tuple #[.slice none 0 0, .bool false]) ∧ Mod [] w w' := by
  obtain ⟨K, X, hX, hrise, hfail⟩ := rises_fails n l (-1) hbad
  have hKl : K < l.length := (List.getElem?_eq_some_iff.1 hX).1
  rw [rises_iff] at hrise
  obtain ⟨hris, hrng⟩ := hrise
  obtain ⟨al, cl, rfl⟩ := hr.val
  have hm : wideN n ≤ 513 := by unfold wideN; omega
  have hmk := make_run (P := Try.prog) 45 5 (.int .u8 0) 1 Try.underlying45 infoU8 rfl (by omega) (wideN n) (by omega)
  have hget : ∀ k x, k < K → l[k]? = some x → (l.take K)[k]? = some x := fun k x hk hx => by rw [List.getElem?_take]; simp [hk, hx]
  have hr' := Lib.hid hr
  have hrng' : Hid (∀ (k : Nat) (x : Int), k < K → l[k]? = some x → -1 < x ∧ x < n) := fun k x hk hx => hrng x (List.mem_of_getElem? (hget k x hk hx))
  have hris' : Hid (∀ (i j : Nat) (x y : Int), j < K → l[i]? = some x → l[j]? = some y → i < j → x < y) := fun i j x y hj hx hy hij => hris i j x y (hget i x (by omega) hx) (hget j y hj hy) hij
  have hfail' : Hid (X ≤ (((-1 : Int) :: l)[K]?).getD 0 ∨ n ≤ X) := hfail
  have hll := hr.le
  have hd0 : decide (n < 0) = false := by simp; omega
  have hd1 : decide (4096 < n) = false := by simp; omega
  have hW : Hid (∀ v : Int, 0 ≤ v → v < n → v / 8 < wideN n ∧ (v / 8).toNat < wideN n) := fun v hv hvn => by unfold wideN; omega
  have hX' := Lib.hid hX
  clear hr hrng hris hget hX hfail hbad
  go_enter Try.func36, Try.ntmps36
  go_wp2_with fail
  refine (wide_any n w h0 (by omega)).mono ?_
  rintro e w1 ⟨rfl, rfl⟩
  dsimp only
  have hmade : ∃ xs, Made w (w.alloc (.cells (madeCells #[.int .u8 0] (wideN n)) 5)) 5 1 (some ⟨w.heap.size, 0, none⟩) (wideN n) (wideN n) (u8s xs) := ⟨List.replicate (wideN n) 0, by have h := made_made w 5 (.int .u8 0) (wideN n) (by omega); simpa [u8s] using h⟩
  have hmade' := Lib.hid hmade
  clear hmade
  generalize wideN n = m at *
  go_wp2_with fail
  generalize hB : w.heap.size = B at *
  have hB' := Lib.hid hB
  clear hB
  go_loopw [9, 23] (fun last i wr => ∃ (k : Nat) (lv : Int), k ≤ K ∧ i = .int .i64 k ∧ last = .int .i64 lv ∧ (((-1 : Int) :: l)[k]?).getD 0 = lv ∧ ∃ xs, Made w wr 5 1 (some ⟨B, 0, none⟩) m m (u8s xs)) (fun _ i _ => l.length - (intOf i).toNat)
  case atStart => exact ⟨0, -1, Nat.zero_le _, rfl, rfl, by simp, hmade'.out⟩
  case round =>
    clear hmade'
    obtain ⟨k, lv, hk, rfl, rfl, hlv, xs, hmd⟩ := hrel
    obtain ⟨wo, hwo⟩ : ∃ wo : World, wo = wr := ⟨_, rfl⟩
    clear hwo
    have hlt : k < l.length := by omega
    obtain ⟨x, hx⟩ : ∃ x, l[k]? = some x := ⟨l[k], List.getElem?_eq_getElem hlt⟩
    obtain ⟨g, o, rfl, _, _, hcell⟩ := (hr'.out.still hmd.mod).at (by rw [vi64_len]; omega)
    have hc := hcell k _ (vi64_get hx)
    by_cases hkK : k < K
    · have hx0 := (hrng'.out k x hkK hx).1
      have hx1 := (hrng'.out k x hkK hx).2
      have hx2 : lv < x := by
        cases k with
        | zero => simp at hlv; omega
        | succ j =>
          obtain ⟨y, hy⟩ : ∃ y, l[j]? = some y := ⟨l[j], List.getElem?_eq_getElem (by omega)⟩
          have := hris'.out j (j + 1) y x hkK hy hx (by omega)
          simp [hy] at hlv; omega
      have hq := hW.out x (by omega) hx1
      have hxx : 0 ≤ x := by omega
      have t1 : decide (x ≤ lv) = false := by simp; omega
      have t2 : decide (n ≤ x) = false := by simp; omega
      obtain ⟨hq1, hq2⟩ := hq
      have hq0 : 0 ≤ x / 8 := by omega
      have hxl : xs.length = m := by have := hmd.own.1; simpa [u8s] using this
      obtain ⟨b0, hb0⟩ : ∃ b0, xs[(x / 8).toNat]? = some b0 := ⟨xs[(x / 8).toNat], List.getElem?_eq_getElem (by omega)⟩
      have hbyte := hmd.cell (x / 8).toNat (u := .int .u8 b0) (u8s_get hb0)
      have hfr := hmd.own.frozenAt (x / 8).toNat
      have hbl := own_lt hmd.own (g := B) rfl
      have hfin2 : ∀ v, Made w ((wr.setCell ⟨B, (x / 8).toNat, none⟩ (.int .u8 v)).drew) 5 1 (some ⟨B, 0, none⟩) m m (u8s (xs.set (x / 8).toNat v)) := fun v => by
        have h := (hmd.store (x / 8).toNat (.int .u8 v)).drewN 1
        rw [show (u8s xs).set (x / 8).toNat (.int .u8 v) = u8s (xs.set (x / 8).toNat v) from by simp [u8s, List.map_set]] at h
        exact h
      have hfin2' := Lib.hid hfin2
      have hnx : Hid (((((-1 : Int) :: l)[k + 1]?).getD 0) = x) := by simp [hx, Hid]
      clear hcell hfin2 hlv hx hb0 hxl
      go_wp2_with fail
      go_region
      go_wp2_with fail
      go_roundw
      case rel => exact ⟨k + 1, x, by omega, by go_num, rfl, hnx.out, _, hfin2'.out _⟩
      case measure => simp [intOf]; omega
    · have hkK' : k = K := by omega
      subst hkK'
      have hxX : x = X := by have := hX'.out; rw [hx] at this; simpa using this
      subst hxX
      have hmod := hmd.mod
      have hf := hfail'.out
      rw [hlv] at hf
      clear hcell hlv hx hkK
      by_cases hle : x ≤ lv
      · have t1 : decide (x ≤ lv) = true := by simpa using hle
        go_wp2_with fail
        go_ret2
        exact ⟨rfl, hmod⟩
      · have t1 : decide (x ≤ lv) = false := by simpa using hle
        have hge : n ≤ x := by rcases hf with h | h; · exact absurd h hle
                               · exact h
        have t2 : decide (n ≤ x) = true := by simpa using hge
        clear hf
        go_wp2_with fail
        go_ret2
        exact ⟨rfl, hmod⟩
/-- What code.Bits answers. -/
def BitsOut (bs : List Int) (n : Int) (l : List Int) (w : World) (e : Ending) (w' : World) : Prop :=
  if bitsOk n l then ∃ a c, e = .returned (.tuple #[.slice a (bs ++ bitsB (wideN n) l).length c, .bool true]) ∧ Made w w' 5 1 a (bs ++ bitsB (wideN n) l).length c (u8s (bs ++ bitsB (wideN n) l))
  else e = .returned (.tuple #[.slice none 0 0, .bool false]) ∧ Mod [] w w'
theorem bits_any {w : World} {vb vl : Value} {bs : List Int} (n : Int) (l : List Int) (hb : Rd w 1 vb bs.length (u8s bs)) (hlen : bs.length ≤ 100000) (hr : Rd w 1 vl l.length (vi64 l)) :
    Calls Try.prog 36 #[vb, .int .i64 n, vl] w (BitsOut bs n l w) := by
  cases hok : bitsOk n l with
  | true =>
    refine (bits_ok n l hok hb hlen hr).mono fun e w' h => ?_
    simpa [BitsOut, hok] using h
  | false =>
    by_cases hn : n < 0 ∨ 4096 < n
    · refine (bits_out n hn).mono fun e w' h => ?_
      simpa [BitsOut, hok] using h
    · have hbad : risesB n (-1) l = false := by
        have h0 : 0 ≤ n := by omega
        have h1 : n ≤ 4096 := by omega
        simpa [bitsOk, h0, h1] using hok
      refine (bits_bad n l (by omega) (by omega) hbad hr).mono fun e w' h => ?_
      simpa [BitsOut, hok] using h
end Code
end Go.Proofs.Ytmkbinbggiocaaa
