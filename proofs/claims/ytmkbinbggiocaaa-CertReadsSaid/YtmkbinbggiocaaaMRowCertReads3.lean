/- Sets as bytes: code.wide, code.Bits; the reference's Bits. The reader: Bits. The reference's sets as bytes. Bytes as a string. The reference's reader: its object; Nat. The statements' own small test of coded numbers. -/
import Derived.Laws.BytesArg
import Derived.Laws.Concat
import Derived.Test.YtmkbinbggiocaaaMRowCertReads2
import Derived.Test.YtmkbinbggiocaaaMRowCertReads0
set_option linter.unusedVariables false
set_option linter.unusedSimpArgs false
namespace Go.Proofs.Ytmkbinbggiocaaa
open Go.RowKit
namespace Code
def wideN (n : Int) : Nat := ((n + 7) / 8).toNat
set_option maxHeartbeats 1000000 in
theorem wide_any (n : Int) (w : World) (h0 : 0 ≤ n) (h1 : n ≤ 100000) :
    Calls Try.prog 98 #[.int .i64 n] w fun e w' => e = .returned (.int .i64 (wideN n)) ∧ w = w' := by
  have e : ((wideN n : Nat) : Int) = (n + 7) / 8 := by unfold wideN; omega
  have e' := Lib.hid e
  clear e
  go_enter Try.func98, Try.ntmps98
  go_wp2
  go_ret
  rw [e'.out]
  exact ⟨rfl, rfl⟩
/-- The set's bytes may be put? -/
def bitsOk (n : Int) (l : List Int) : Bool := decide (0 ≤ n) && decide (n ≤ 4096) && risesB n (-1) l
set_option maxHeartbeats 2000000 in
theorem bits_ok {w : World} {vb vl : Value} {bs : List Int} (n : Int) (l : List Int) (hok : bitsOk n l = true) (hb : Rd w 1 vb bs.length (u8s bs)) (hlen : bs.length ≤ 100000) (hr : Rd w 1 vl l.length (vi64 l)) :
    Calls Try.prog 36 #[vb, .int .i64 n, vl] w fun e w' => ∃ a c, e = .returned (.tuple #[.slice a (bs ++ bitsB (wideN n) l).length c, .bool true]) ∧ Made w w' 5 1 a (bs ++ bitsB (wideN n) l).length c (u8s (bs ++ bitsB (wideN n) l)) := by
  simp only [bitsOk, Bool.and_eq_true, decide_eq_true_eq] at hok
  obtain ⟨⟨h0, h1⟩, hrise⟩ := hok
  rw [rises_iff] at hrise
  obtain ⟨hris, hrng⟩ := hrise
  obtain ⟨al, cl, rfl⟩ := hr.val
  have hm : wideN n ≤ 513 := by unfold wideN; omega
  have hmk := make_run (P := Try.prog) 45 5 (.int .u8 0) 1 Try.underlying45 infoU8 rfl (by omega) (wideN n) (by omega)
  have hr' := Lib.hid hr
  have hb' := Lib.hid hb
  have hrng' := Lib.hid hrng
  have hris' := Lib.hid hris
  have hll := hr.le
  have hd0 : decide (n < 0) = false := by simp; omega
  have hd1 : decide (4096 < n) = false := by simp; omega
  have hW : Hid (∀ v : Int, 0 ≤ v → v < n → v / 8 < wideN n ∧ (v / 8).toNat < wideN n) := fun v hv hvn => by unfold wideN; omega
  clear hr hb hrng hris
  go_enter Try.func36, Try.ntmps36
  go_wp2_with fail
  refine (wide_any n w h0 (by omega)).mono ?_
  rintro e w1 ⟨rfl, rfl⟩
  dsimp only
  have hmade := made_made w 5 (.int .u8 0) (wideN n) (by omega)
  have e0 : List.replicate (wideN n) (Value.int .u8 0) = u8s (bitsB (wideN n) (l.take 0)) := by simp [bitsB_nil, u8s]
  rw [e0] at hmade
  have hmade' := Lib.hid hmade
  clear hmade e0
  have hwide := wide_any n w h0 (by omega)
  generalize hmm : wideN n = m at *
  have hmm' := Lib.hid hmm
  clear hmm hwide
  go_wp2_with fail
  generalize hB : w.heap.size = B at *
  have hB' := Lib.hid hB
  clear hB
  go_loopw [9, 23] (fun last i wr => ∃ (k : Nat) (lv : Int), k ≤ l.length ∧ i = .int .i64 k ∧ last = .int .i64 lv ∧ (∀ x, l[k]? = some x → lv < x) ∧ Made w wr 5 1 (some ⟨B, 0, none⟩) m m (u8s (bitsB m (l.take k)))) (fun _ i _ => l.length - (intOf i).toNat)
  case atStart => exact ⟨0, -1, Nat.zero_le _, rfl, rfl, fun x hx => (hrng'.out x (List.mem_of_getElem? hx)).1, hmade'.out⟩
  case round =>
    clear hmade'
    obtain ⟨k, lv, hk, rfl, rfl, hlv, hmd⟩ := hrel
    obtain ⟨wo, hwo⟩ : ∃ wo : World, wo = wr := ⟨_, rfl⟩
    clear hwo
    by_cases hlt : k < l.length
    · obtain ⟨x, hx⟩ : ∃ x, l[k]? = some x := ⟨l[k], List.getElem?_eq_getElem hlt⟩
      have hxm : x ∈ l := List.mem_of_getElem? hx
      obtain ⟨g, o, rfl, _, _, hcell⟩ := (hr'.out.still hmd.mod).at (by rw [vi64_len]; omega)
      have hc := hcell k _ (vi64_get hx)
      have hx0 := (hrng'.out x hxm).1
      have hx1 := (hrng'.out x hxm).2
      have hx2 := hlv x hx
      have hq := hW.out x (by omega) hx1
      have hxx : 0 ≤ x := by omega
      have t1 : decide (x ≤ lv) = false := by simp; omega
      have t2 : decide (n ≤ x) = false := by simp; omega
      obtain ⟨hq1, hq2⟩ := hq
      have hq0 : 0 ≤ x / 8 := by omega
      have hbyte := hmd.cell (x / 8).toNat (u := .int .u8 ((byteAt (l.take k) (x / 8).toNat : Nat) : Int)) (u8s_get (bitsB_get _ _ _ hq2))
      have hfr := hmd.own.frozenAt (x / 8).toNat
      have hbl := own_lt hmd.own (g := B) rfl
      have hlow := byteAt_lt hris'.out (fun y hy => by have := (hrng'.out y hy).1; omega) k x hxx (fun i y hi hy => hris'.out i k y x hy hx hi)
      have hor := Lib.hid (or_bit_walk x _ hxx hlow)
      have hfin : ∀ w1, w1 = (wr.setCell ⟨B, (x / 8).toNat, none⟩ (.int .u8 (bits .or .u8 ((byteAt (l.take k) (x / 8).toNat : Nat) : Int) (2 ^ (x % 8).toNat % 256)))).drew → ∀ x', l[k + 1]? = some x' → x < x' := fun w1 _ x' hx' => hris'.out k (k + 1) x x' hx hx' (by omega)
      have hfin2 : Made w ((wr.setCell ⟨B, (x / 8).toNat, none⟩ (.int .u8 (bits .or .u8 ((byteAt (l.take k) (x / 8).toNat : Nat) : Int) (2 ^ (x % 8).toNat % 256)))).drew) 5 1 (some ⟨B, 0, none⟩) m m (u8s (bitsB m (l.take (k + 1)))) := by
        have h := (hmd.store (x / 8).toNat (.int .u8 (bits .or .u8 ((byteAt (l.take k) (x / 8).toNat : Nat) : Int) (2 ^ (x % 8).toNat % 256)))).drewN 1
        have e : l.take (k + 1) = l.take k ++ [x] := by rw [List.take_add_one, hx]; rfl
        rw [e, bitsB_snoc m _ x hxx hq2, ← hor.out]
        rw [show (u8s (bitsB m (l.take k))).set (x / 8).toNat (.int .u8 (bits .or .u8 ((byteAt (l.take k) (x / 8).toNat : Nat) : Int) (2 ^ (x % 8).toNat % 256))) = u8s ((bitsB m (l.take k)).set (x / 8).toNat (bits .or .u8 ((byteAt (l.take k) (x / 8).toNat : Nat) : Int) (2 ^ (x % 8).toNat % 256))) from by simp [u8s, List.map_set]] at h
        exact h
      have hnx : Hid (∀ x', l[k + 1]? = some x' → x < x') := fun x' hx' => hris'.out k (k + 1) x x' hx hx' (by omega)
      have hfin2' := Lib.hid hfin2
      clear hcell hfin hfin2 hlow hor hlv hx
      generalize byteAt (l.take k) (x / 8).toNat = b0 at *
      go_wp2_with fail
      go_region
      go_wp2_with fail
      go_roundw
      case rel => exact ⟨k + 1, x, by omega, by go_num, rfl, hnx.out, hfin2'.out⟩
      case measure => simp [intOf]; omega
    · have hk' : k = l.length := by omega
      rw [hk', List.take_length] at hmd
      have hbl : (bitsB m l).length = m := bitsB_len m l
      have hcl := clone_any (hb'.out.still hmd.mod) (by omega)
      clear hk' hlv
      go_wp2_with fail
      refine hcl.mono ?_
      rintro e w2 ⟨a2, c2, rfl, hm2⟩
      dsimp only
      clear hcl
      have hsrc : Rd w2 1 (.slice (some ⟨B, 0, none⟩) m m) m (u8s (bitsB m l)) := (Rd.own hmd.own).still hm2.mod
      have hm2' := hm2.before hmd.mod
      have hbl' := Lib.hid hbl
      clear hbl hm2
      go_wp2_with (at_builtin; refine app_rd rfl (.tmp 48) (.tmp 49) 45 5 _ 1 1 rfl Try.underlying45 infoU8 rfl (by omega) (by omega) (.slice a2 bs.length c2) (.slice (some ⟨B, 0, none⟩) m m) bs.length m (u8s bs) (u8s (bitsB m l)) rfl rfl (u8s_one _) hm2'.own hsrc (by omega) ?_; intro aA cA wA hA mA vA)
      go_ret2
      rw [List.length_append, hmm'.out, hbl'.out, u8s_append]
      exact ⟨aA, cA, rfl, hm2'.push hA mA vA⟩
/-- Where it begins to fail: the first k are right, the next one is not. -/
theorem rises_fails (n : Int) : ∀ (l : List Int) (last : Int), risesB n last l = false → ∃ k x, l[k]? = some x ∧ risesB n last (l.take k) = true ∧ (x ≤ ((last :: l)[k]?).getD 0 ∨ n ≤ x)
  | [], last, h => by simp [risesB] at h
  | v :: l, last, h => by
    by_cases h1 : last < v ∧ v < n
    · simp only [risesB, h1.1, h1.2, decide_true, Bool.true_and] at h
      obtain ⟨k, x, hx, hr, hf⟩ := rises_fails n l v h
      exact ⟨k + 1, x, by simpa using hx, by simp [risesB, h1.1, h1.2, hr], by simpa using hf⟩
    · refine ⟨0, v, by simp, by simp [risesB], ?_⟩
      simp
      omega
set_option maxHeartbeats 1000000 in
theorem bits_out {w : World} {vb vl : Value} (n : Int) (h : n < 0 ∨ 4096 < n) :
    Calls Try.prog 36 #[vb, .int .i64 n, vl] w fun e w' => e = .returned (.tuple #[.slice none 0 0, .bool false]) ∧ Mod [] w w' := by
  by_cases h0 : n < 0
  · have hd0 : decide (n < 0) = true := by simpa using h0
    go_enter Try.func36, Try.ntmps36
    go_wp2_with fail
    go_ret2
    exact ⟨rfl, Mod.refl _ _⟩
  · have hd0 : decide (n < 0) = false := by simpa using h0
    have h1 : 4096 < n := by omega
    have hd1 : decide (4096 < n) = true := by simpa using h1
    go_enter Try.func36, Try.ntmps36
    go_wp2_with fail
    go_ret2
    exact ⟨rfl, Mod.refl _ _⟩
set_option maxHeartbeats 2000000 in
theorem bits_bad {w : World} {vb vl : Value} (n : Int) (l : List Int) (h0 : 0 ≤ n) (h1 : n ≤ 4096) (hbad : risesB n (-1) l = false) (hr : Rd w 1 vl l.length (vi64 l)) :
    Calls Try.prog 36 #[vb, .int .i64 n, vl] w fun e w' => e = .returned (.tuple #[.slice none 0 0, .bool false]) ∧ Mod [] w w' := by
  obtain ⟨K, X, hX, hrise, hfail⟩ := rises_fails n l (-1) hbad
  have hKl : K < l.length := (List.getElem?_eq_some_iff.1 hX).1
  rw [rises_iff] at hrise
  obtain ⟨hris, hrng⟩ := hrise
  obtain ⟨al, cl, rfl⟩ := hr.val
  have hm : wideN n ≤ 513 := by unfold wideN; omega
  have hmk := make_run (P := Try.prog) 45 5 (.int .u8 0) 1 Try.underlying45 infoU8 rfl (by omega) (wideN n) (by omega)
  have hget : ∀ k x, k < K → l[k]? = some x → (l.take K)[k]? = some x := fun k x hk hx => by rw [List.getElem?_take]; simp [hk, hx]
  have hr' := Lib.hid hr
  have hrng' : Hid (∀ (k : Nat) (x : Int), k < K → l[k]? = some x → -1 < x ∧ x < n) := fun k x hk hx => hrng x (List.mem_of_getElem? (hget k x hk hx))
  have hris' : Hid (∀ (i j : Nat) (x y : Int), j < K → l[i]? = some x → l[j]? = some y → i < j → x < y) := fun i j x y hj hx hy hij => hris i j x y (hget i x (by omega) hx) (hget j y hj hy) hij
  have hfail' : Hid (X ≤ (((-1 : Int) :: l)[K]?).getD 0 ∨ n ≤ X) := hfail
  have hll := hr.le
  have hd0 : decide (n < 0) = false := by simp; omega
  have hd1 : decide (4096 < n) = false := by simp; omega
  have hW : Hid (∀ v : Int, 0 ≤ v → v < n → v / 8 < wideN n ∧ (v / 8).toNat < wideN n) := fun v hv hvn => by unfold wideN; omega
  have hX' := Lib.hid hX
  clear hr hrng hris hget hX hfail hbad
  go_enter Try.func36, Try.ntmps36
  go_wp2_with fail
  refine (wide_any n w h0 (by omega)).mono ?_
  rintro e w1 ⟨rfl, rfl⟩
  dsimp only
  have hmade : ∃ xs, Made w (w.alloc (.cells (madeCells #[.int .u8 0] (wideN n)) 5)) 5 1 (some ⟨w.heap.size, 0, none⟩) (wideN n) (wideN n) (u8s xs) := ⟨List.replicate (wideN n) 0, by have h := made_made w 5 (.int .u8 0) (wideN n) (by omega); simpa [u8s] using h⟩
  have hmade' := Lib.hid hmade
  clear hmade
  generalize wideN n = m at *
  go_wp2_with fail
  generalize hB : w.heap.size = B at *
  have hB' := Lib.hid hB
  clear hB
  go_loopw [9, 23] (fun last i wr => ∃ (k : Nat) (lv : Int), k ≤ K ∧ i = .int .i64 k ∧ last = .int .i64 lv ∧ (((-1 : Int) :: l)[k]?).getD 0 = lv ∧ ∃ xs, Made w wr 5 1 (some ⟨B, 0, none⟩) m m (u8s xs)) (fun _ i _ => l.length - (intOf i).toNat)
  case atStart => exact ⟨0, -1, Nat.zero_le _, rfl, rfl, by simp, hmade'.out⟩
  case round =>
    clear hmade'
    obtain ⟨k, lv, hk, rfl, rfl, hlv, xs, hmd⟩ := hrel
    obtain ⟨wo, hwo⟩ : ∃ wo : World, wo = wr := ⟨_, rfl⟩
    clear hwo
    have hlt : k < l.length := by omega
    obtain ⟨x, hx⟩ : ∃ x, l[k]? = some x := ⟨l[k], List.getElem?_eq_getElem hlt⟩
    obtain ⟨g, o, rfl, _, _, hcell⟩ := (hr'.out.still hmd.mod).at (by rw [vi64_len]; omega)
    have hc := hcell k _ (vi64_get hx)
    by_cases hkK : k < K
    · have hx0 := (hrng'.out k x hkK hx).1
      have hx1 := (hrng'.out k x hkK hx).2
      have hx2 : lv < x := by
        cases k with
        | zero => simp at hlv; omega
        | succ j =>
          obtain ⟨y, hy⟩ : ∃ y, l[j]? = some y := ⟨l[j], List.getElem?_eq_getElem (by omega)⟩
          have := hris'.out j (j + 1) y x hkK hy hx (by omega)
          simp [hy] at hlv; omega
      have hq := hW.out x (by omega) hx1
      have hxx : 0 ≤ x := by omega
      have t1 : decide (x ≤ lv) = false := by simp; omega
      have t2 : decide (n ≤ x) = false := by simp; omega
      obtain ⟨hq1, hq2⟩ := hq
      have hq0 : 0 ≤ x / 8 := by omega
      have hxl : xs.length = m := by have := hmd.own.1; simpa [u8s] using this
      obtain ⟨b0, hb0⟩ : ∃ b0, xs[(x / 8).toNat]? = some b0 := ⟨xs[(x / 8).toNat], List.getElem?_eq_getElem (by omega)⟩
      have hbyte := hmd.cell (x / 8).toNat (u := .int .u8 b0) (u8s_get hb0)
      have hfr := hmd.own.frozenAt (x / 8).toNat
      have hbl := own_lt hmd.own (g := B) rfl
      have hfin2 : ∀ v, Made w ((wr.setCell ⟨B, (x / 8).toNat, none⟩ (.int .u8 v)).drew) 5 1 (some ⟨B, 0, none⟩) m m (u8s (xs.set (x / 8).toNat v)) := fun v => by
        have h := (hmd.store (x / 8).toNat (.int .u8 v)).drewN 1
        rw [show (u8s xs).set (x / 8).toNat (.int .u8 v) = u8s (xs.set (x / 8).toNat v) from by simp [u8s, List.map_set]] at h
        exact h
      have hfin2' := Lib.hid hfin2
      have hnx : Hid (((((-1 : Int) :: l)[k + 1]?).getD 0) = x) := by simp [hx, Hid]
      clear hcell hfin2 hlv hx hb0 hxl
      go_wp2_with fail
      go_region
      go_wp2_with fail
      go_roundw
      case rel => exact ⟨k + 1, x, by omega, by go_num, rfl, hnx.out, _, hfin2'.out _⟩
      case measure => simp [intOf]; omega
    · have hkK' : k = K := by omega
      subst hkK'
      have hxX : x = X := by have := hX'.out; rw [hx] at this; simpa using this
      subst hxX
      have hmod := hmd.mod
      have hf := hfail'.out
      rw [hlv] at hf
      clear hcell hlv hx hkK
      by_cases hle : x ≤ lv
      · have t1 : decide (x ≤ lv) = true := by simpa using hle
        go_wp2_with fail
        go_ret2
        exact ⟨rfl, hmod⟩
      · have t1 : decide (x ≤ lv) = false := by simpa using hle
        have hge : n ≤ x := by rcases hf with h | h; · exact absurd h hle
                               · exact h
        have t2 : decide (n ≤ x) = true := by simpa using hge
        clear hf
        go_wp2_with fail
        go_ret2
        exact ⟨rfl, hmod⟩
/-- What code.Bits answers. -/
def BitsOut (bs : List Int) (n : Int) (l : List Int) (w : World) (e : Ending) (w' : World) : Prop :=
  if bitsOk n l then ∃ a c, e = .returned (.tuple #[.slice a (bs ++ bitsB (wideN n) l).length c, .bool true]) ∧ Made w w' 5 1 a (bs ++ bitsB (wideN n) l).length c (u8s (bs ++ bitsB (wideN n) l))
  else e = .returned (.tuple #[.slice none 0 0, .bool false]) ∧ Mod [] w w'
theorem bits_any {w : World} {vb vl : Value} {bs : List Int} (n : Int) (l : List Int) (hb : Rd w 1 vb bs.length (u8s bs)) (hlen : bs.length ≤ 100000) (hr : Rd w 1 vl l.length (vi64 l)) :
    Calls Try.prog 36 #[vb, .int .i64 n, vl] w (BitsOut bs n l w) := by
  cases hok : bitsOk n l with
  | true =>
    refine (bits_ok n l hok hb hlen hr).mono fun e w' h => ?_
    simpa [BitsOut, hok] using h
  | false =>
    by_cases hn : n < 0 ∨ 4096 < n
    · refine (bits_out n hn).mono fun e w' h => ?_
      simpa [BitsOut, hok] using h
    · have hbad : risesB n (-1) l = false := by
        have h0 : 0 ≤ n := by omega
        have h1 : n ≤ 4096 := by omega
        simpa [bitsOk, h0, h1] using hok
      refine (bits_bad n l (by omega) (by omega) hbad hr).mono fun e w' h => ?_
      simpa [BitsOut, hok] using h
end Code
end Go.Proofs.Ytmkbinbggiocaaa

set_option linter.unusedVariables false
set_option linter.unusedSimpArgs false
namespace Go.Proofs.Ytmkbinbggiocaaa
open Go.RowKit
namespace Code
theorem add_zero (ad : Addr) : ad.add 0 = ad := by
  obtain ⟨b, o, s⟩ := ad
  cases s <;> simp [Addr.add]
theorem slice_to {P : Program} {size : Nat} (t : TypeId) (ht : P.underlying t = some (.slice (P.elem t))) (hs : ∀ w : World, (sizeOf (P.elem t)).run P w = .ok size w) (a : Option Addr) (n c m : Nat) (h : m ≤ c) :
    ∀ w : World, (Instr.slice t (.slice a n c) none (some (.int .i64 (m : Int))) none).run P w = .ok (.slice a m c) w := by
  intro w
  rw [run_slice_h w t a n c ht .i64 m (by omega) (by omega), hs]
  cases a with
  | none => simp [Result.andThen, sliced]
  | some ad => simp [Result.andThen, sliced, add_zero]
theorem Rd_to {w : World} {n c m : Nat} {a : Option Addr} {xs : List Int} (h : Rd w 1 (.slice a n c) n (u8s xs)) (hm : m ≤ n) : Rd w 1 (.slice a m c) m (u8s (xs.take m)) := by
  have hl : xs.length = n := by have := h.1; simpa [u8s] using this
  refine ⟨by simp [u8s]; omega, ?_⟩
  rcases h.2 with ⟨he, h0⟩ | ⟨ad, c', he, h1, h2, h3⟩
  · simp only [Value.slice.injEq] at he
    obtain ⟨rfl, _, rfl⟩ := he
    exact .inl ⟨by rw [show m = 0 by omega], by omega⟩
  · simp only [Value.slice.injEq, true_and] at he
    obtain ⟨rfl, rfl⟩ := he
    refine .inr ⟨ad, c, rfl, by omega, h2, fun j u hu => h3 j u ?_⟩
    simp only [u8s, List.map_take, List.getElem?_take] at hu ⊢
    split at hu
    · exact hu
    · exact absurd hu (by simp)
/-- Is the last one below n? -/
def lastOk (n : Int) (l : List Int) : Bool := match l.getLast? with
  | none => true
  | some x => decide (x < n)
/-- What Bits reads, and where the reader is then. -/
def rBits (bs : List Int) (k : Nat) (stop : Bool) (n : Int) : List Int × Nat × Bool :=
  if n < 0 ∨ 4096 < n ∨ bs.length - k < wideN n then ([], k, true)
  else if stop || !lastOk n (setFrom 0 ((bs.drop k).take (wideN n))) then ([], k, true)
  else (setFrom 0 ((bs.drop k).take (wideN n)), k + wideN n, false)
def RBitsOut (w : World) (r : Nat) (a : Option Addr) (c : Nat) (bs : List Int) (k : Nat) (stop : Bool) (n : Int) (e : Ending) (w' : World) : Prop :=
  ∃ v, e = .returned v ∧ Rd w' 1 v (rBits bs k stop n).1.length (vi64 (rBits bs k stop n).1) ∧ (∀ g, v.ownBlock = some g → w.heap.size ≤ g) ∧ RAt w' r a c bs (rBits bs k stop n).2.1 (rBits bs k stop n).2.2 ∧ Mod [r] w w'
theorem rBits_no {w w' : World} {r c k : Nat} {a : Option Addr} {bs : List Int} {stop : Bool} {n : Int} (h : rBits bs k stop n = ([], k, true)) (hR : RAt w' r a c bs k true) (m : Mod [r] w w') : RBitsOut w r a c bs k stop n (.returned (.slice none 0 0)) w' := by
  unfold RBitsOut
  rw [h]
  exact ⟨_, rfl, Rd.nil _ _, by simp [Value.ownBlock], hR, m⟩
theorem stopped {w : World} {r c k : Nat} {a : Option Addr} {bs : List Int} {stop : Bool} (h : RAt w r a c bs k stop) : RAt (w.setCell ⟨r, 2, none⟩ (.bool true)) r a c bs k true ∧ Mod [r] w (w.setCell ⟨r, 2, none⟩ (.bool true)) := by
  have m : Mod [r] w (w.setCell ⟨r, 2, none⟩ (.bool true)) := (Mod.refl [r] w).setCell _ _ (by simp)
  exact ⟨h.moved m (h.has.set 2 (.bool true)) h.le, m⟩
set_option maxHeartbeats 2000000 in
theorem rdBits_out {w : World} {r c k : Nat} {a : Option Addr} {bs : List Int} {stop : Bool} (n : Int) (h : RAt w r a c bs k stop) (hn : n < 0 ∨ 4096 < n) :
    Calls Try.prog 46 #[.pointer (some ⟨r, 0, none⟩), .int .i64 n] w (RBitsOut w r a c bs k stop n) := by
  have e1 : rBits bs k stop n = ([], k, true) := by unfold rBits; rw [if_pos (by omega)]
  have hst := stopped h
  have hfin := Lib.hid (rBits_no e1 hst.1 hst.2)
  have fr := h.has.free 2
  have hlt := h.has.lt
  have c2 := h.has.cell 2 rfl
  clear h hst e1
  by_cases h0 : n < 0
  · have t1 : decide (n < 0) = true := by simpa using h0
    go_enter Try.func46, Try.ntmps46
    go_wp2_with fail
    go_ret
    exact hfin.out
  · have t1 : decide (n < 0) = false := by simpa using h0
    have t2 : decide (4096 < n) = true := by simp; omega
    go_enter Try.func46, Try.ntmps46
    go_wp2_with fail
    go_ret
    exact hfin.out
set_option maxHeartbeats 2000000 in
theorem rdBits_short {w : World} {r c k : Nat} {a : Option Addr} {bs : List Int} {stop : Bool} (n : Int) (h : RAt w r a c bs k stop) (h0 : 0 ≤ n) (h1 : n ≤ 4096) (hs : bs.length - k < wideN n) :
    Calls Try.prog 46 #[.pointer (some ⟨r, 0, none⟩), .int .i64 n] w (RBitsOut w r a c bs k stop n) := by
  have e1 : rBits bs k stop n = ([], k, true) := by unfold rBits; rw [if_pos (by omega)]
  have hl := Lib.hid (left_any h)
  have hlen : (bs.drop k).length = bs.length - k := List.length_drop
  have hfin : ∀ w1, Drawn w w1 → RAt w1 r a c bs k stop → ∀ w2, w2 = w1.setCell ⟨r, 2, none⟩ (.bool true) → RBitsOut w r a c bs k stop n (.returned (.slice none 0 0)) w2 := fun w1 hd hR w2 e => by
    subst e
    exact rBits_no e1 (stopped hR).1 (mod2 hd (stopped hR).2)
  have hfin' := Lib.hid hfin
  have h' := Lib.hid h
  have t1 : decide (n < 0) = false := by simp; omega
  have t2 : decide (4096 < n) = false := by simp; omega
  have hw := Lib.hid (fun W => wide_any n W h0 (by omega))
  clear hfin h e1
  generalize hxs : bs.drop k = xs at *
  have t3 : decide ((xs.length : Int) < (wideN n : Int)) = true := by simp; omega
  have t3' : decide (xs.length < wideN n) = true := by simp; omega
  clear hxs hlen
  go_enter Try.func46, Try.ntmps46
  go_wp2_with fail
  refine hl.out.mono ?_
  rintro e w1 ⟨v, rfl, hd, hr⟩
  obtain ⟨al, cl, rfl⟩ := hr.val
  dsimp only
  have hR1 := h'.out.still hd.mod
  have fr := hR1.has.free 2
  have hlt := hR1.has.lt
  have c2 := hR1.has.cell 2 rfl
  have hf := Lib.hid (hfin'.out w1 hd hR1)
  clear hr hd hR1 hl
  go_wp2_with fail
  refine (hw.out _).mono ?_
  rintro e w2 ⟨rfl, rfl⟩
  dsimp only
  go_wp2_with fail
  go_ret
  exact hf.out _ rfl
theorem infoInt : (Try.prog.info? 3).map (fun i => (i.zero, i.size, i.bytes)) = some (some (.int .i64 0), 1, 8) := by kernel_rfl
theorem low_len (b : Nat) : (low b).length ≤ 8 := by
  unfold low
  exact Nat.le_trans (List.length_filter_le _ _) (by simp)
theorem setFrom_len : ∀ (l : List Int) (i : Nat), (setFrom i l).length ≤ 8 * l.length
  | [], _ => by simp [setFrom]
  | x :: l, i => by
    have h1 := setFrom_len l (i + 1)
    have h2 := low_len x.toNat
    simp only [setFrom, List.length_append, List.length_map, List.length_cons]
    omega
theorem and_pred (b : Nat) (h0 : 0 < b) (h1 : b < 256) : bits .and .u8 (b : Int) ((b : Int) - 1) = ((b &&& (b - 1) : Nat) : Int) := by
  have h := u8_and (b : Int) ((b : Int) - 1) (by omega) (by omega) (by omega) (by omega)
  rw [h]
  congr 2
  omega
set_option maxRecDepth 100000 in
set_option maxHeartbeats 4000000 in
theorem rdBits_main {w : World} {r c k : Nat} {a : Option Addr} {bs : List Int} {stop : Bool} (n : Int) (h : RAt w r a c bs k stop) (hbb : ∀ x ∈ bs, 0 ≤ x ∧ x < 256) (h0 : 0 ≤ n) (h1 : n ≤ 4096) (hs : wideN n ≤ bs.length - k) :
    Calls Try.prog 46 #[.pointer (some ⟨r, 0, none⟩), .int .i64 n] w (RBitsOut w r a c bs k stop n) := by
  have hlen : (bs.drop k).length = bs.length - k := List.length_drop
  have hl := Lib.hid (fun W (h : RAt W r a c bs k stop) => left_any h)
  have hout : Hid (∀ w' v, Rd w' 1 v (setFrom 0 ((bs.drop k).take (wideN n))).length (vi64 (setFrom 0 ((bs.drop k).take (wideN n)))) → (∀ g, v.ownBlock = some g → w.heap.size ≤ g) → Mod [r] w w' →
      (stop = false → lastOk n (setFrom 0 ((bs.drop k).take (wideN n))) = true → RAt w' r a c bs (k + wideN n) false → RBitsOut w r a c bs k stop n (.returned v) w') ∧
      (stop = true ∨ lastOk n (setFrom 0 ((bs.drop k).take (wideN n))) = false → RAt w' r a c bs k true → RBitsOut w r a c bs k stop n (.returned (.slice none 0 0)) w')) := fun w' v hv hvn hm => by
    refine ⟨fun hst hlo hR => ?_, fun hno hR => ?_⟩
    · have e1 : rBits bs k stop n = (setFrom 0 ((bs.drop k).take (wideN n)), k + wideN n, false) := by
        unfold rBits; rw [if_neg (by omega), if_neg (by simp [hst, hlo])]
      unfold RBitsOut
      rw [e1]
      exact ⟨v, rfl, hv, hvn, hR, hm⟩
    · have e1 : rBits bs k stop n = ([], k, true) := by
        unfold rBits; rw [if_neg (by omega), if_pos (by rcases hno with h | h <;> simp [h])]
      exact rBits_no e1 hR hm
  have h' := Lib.hid h
  have hbd : Hid (∀ x ∈ (bs.drop k).take (wideN n), 0 ≤ x ∧ x < 256) := fun x hx => hbb x (List.mem_of_mem_drop (List.mem_of_mem_take hx))
  have t1 : decide (n < 0) = false := by simp; omega
  have t2 : decide (4096 < n) = false := by simp; omega
  have hw := Lib.hid (fun W => wide_any n W h0 (by omega))
  have hW : wideN n ≤ 513 := by unfold wideN; omega
  have hkw : Hid (k + wideN n ≤ bs.length) := by show k + wideN n ≤ bs.length; have := h.le; omega
  have hyl : ((bs.drop k).take (wideN n)).length = wideN n := by rw [List.length_take]; omega
  clear h hbb
  generalize hxs : bs.drop k = xs at *
  have t3 : decide ((xs.length : Int) < (wideN n : Int)) = false := by simp; omega
  have t3' : decide (xs.length < wideN n) = false := by simp; omega
  have hWx : Hid (wideN n ≤ xs.length) := by show wideN n ≤ xs.length; omega
  generalize hm : wideN n = m at *
  generalize hys : xs.take m = ys at *
  have hys' := Lib.hid hys
  have hyl' := Lib.hid hyl
  clear hxs hlen hs hm hys hyl
  go_enter Try.func46, Try.ntmps46
  go_wp2_with fail
  refine (hl.out _ h'.out).mono ?_
  rintro e w1 ⟨v, rfl, hd, hr⟩
  obtain ⟨al, cl, rfl⟩ := hr.val
  dsimp only
  have hd' := Lib.hid hd
  clear hr hd
  go_wp2_with fail
  refine (hw.out _).mono ?_
  rintro e w1' ⟨rfl, rfl⟩
  dsimp only
  go_wp2_with fail
  refine (hl.out _ (h'.out.still hd'.out.mod)).mono ?_
  rintro e w2 ⟨v, rfl, hd2, hr⟩
  obtain ⟨al2, cl2, rfl⟩ := hr.val
  dsimp only
  have hmc : m ≤ cl2 := by
    rcases hr.2 with ⟨he, hz⟩ | ⟨ad, c', he, hz, _⟩
    · have := hWx.out; omega
    · simp only [Value.slice.injEq, true_and] at he
      obtain ⟨_, rfl⟩ := he
      have := hWx.out; omega
  have hsl := slice_to (P := Try.prog) (size := 1) 45 (by kernel_rfl) (fun w => by kernel_rfl) al2 xs.length cl2 m hmc
  have hry := Rd_to hr hWx.out
  rw [hys'.out] at hry
  have hry' := Lib.hid hry
  have hm12 := Lib.hid (hd'.out.mod.trans hd2.mod (by simp))
  clear hr hd2 hry
  go_wp2_with fail
  refine (hw.out _).mono ?_
  rintro e w2' ⟨rfl, rfl⟩
  dsimp only
  go_wp2_with fail
  go_loopw [6, 40] (fun ov iv wr => ∃ (i : Nat) (ao : Option Addr) (co : Nat), i ≤ m ∧ iv = .int .i64 i ∧ ov = .slice ao (setFrom 0 (ys.take i)).length co ∧ Made w2 wr 3 1 ao (setFrom 0 (ys.take i)).length co (vi64 (setFrom 0 (ys.take i)))) (fun ov iv _ => m - (intOf iv).toNat)
  case atStart => exact ⟨0, none, 0, Nat.zero_le _, rfl, rfl, ⟨World.ownsRow_nil _ _ _ _, Mod.refl _ _, by simp [Value.ownBlock]⟩⟩
  case round =>
    obtain ⟨i, ao, co, him, rfl, rfl, hmd⟩ := hrel
    obtain ⟨wo, hwo⟩ : ∃ wo : World, wo = wr := ⟨_, rfl⟩
    clear hwo
    by_cases hlt : i < m
    · obtain ⟨x, hx⟩ : ∃ x, ys[i]? = some x := ⟨ys[i]'(by rw [hyl'.out]; exact hlt), List.getElem?_eq_getElem _⟩
      have hxb := hbd.out x (List.mem_of_getElem? hx)
      obtain ⟨b0, rfl⟩ := Int.eq_ofNat_of_zero_le hxb.1
      have hb0 : b0 < 256 := by have := hxb.2; omega
      obtain ⟨g, o, rfl, _, _, hcell⟩ := (hry'.out.still hmd.mod).at (by rw [u8s_length, hyl'.out]; omega)
      have hc := hcell i _ (u8s_get hx)
      have hnext : setFrom 0 (ys.take (i + 1)) = setFrom 0 (ys.take i) ++ (low b0).map (fun k => ((8 * i + k : Nat) : Int)) := by
        rw [List.take_add_one, hx]
        simp only [Option.toList_some]
        rw [setFrom_append]
        have : (ys.take i).length = i := by rw [List.length_take, hyl'.out]; omega
        rw [this]
        simp [setFrom]
      have hblen := setFrom_len (ys.take i) 0
      rw [List.length_take, hyl'.out] at hblen
      generalize setFrom 0 (ys.take i) = B0 at *
      have hnext' := Lib.hid hnext
      clear hcell hx hxb hnext
      go_wp2_with fail
      go_loopw [6, 8] (fun ov xv wr' => ∃ (b : Nat) (L : List Int) (ao : Option Addr) (co : Nat), b < 256 ∧ xv = .int .u8 b ∧ ov = .slice ao L.length co ∧ L ++ (low b).map (fun k => ((8 * i + k : Nat) : Int)) = B0 ++ (low b0).map (fun k => ((8 * i + k : Nat) : Int)) ∧ Made w2 wr' 3 1 ao L.length co (vi64 L)) (fun ov xv _ => (intOf xv).toNat)
      case atStart => exact ⟨b0, B0, ao, co, hb0, rfl, rfl, rfl, hmd⟩
      case round =>
        clear hmd
        obtain ⟨b, L, ao1, co1, hb, rfl, rfl, hL, hmd⟩ := hrel
        obtain ⟨wo, hwo⟩ : ∃ wo : World, wo = wr := ⟨_, rfl⟩
        clear hwo
        by_cases hbz : b = 0
        · subst hbz
          have t4 : (((0 : Nat) : Int) != 0) = false := by simp
          rw [low_zero] at hL
          simp only [List.map_nil, List.append_nil] at hL
          have hL' := Lib.hid (hL.trans hnext'.out.symm)
          clear hL
          go_wp2_with fail
          go_roundw
          case rel => exact ⟨i + 1, ao1, co1, by omega, by go_num, by rw [← hL'.out], by rw [← hL'.out]; exact hmd⟩
          case measure => simp [intOf]; omega
        · have t4 : ((b : Int) != 0) = true := by simp; omega
          obtain ⟨q, hq1, hq2, hq3, hq4⟩ := low_and b (by omega) hb
          have htz := tz_any b hb
          rw [hq3] at htz
          simp only [Option.getD_some] at htz
          have htz' := Lib.hid htz
          have hap := and_pred b (by omega) hb
          have hLl : L.length ≤ 4200 := by
            have := congrArg List.length hL
            have h8 := low_len b0
            simp only [List.length_append, List.length_map] at this
            omega
          have hq1' := Lib.hid hq1
          have hL' := Lib.hid hL
          have hb1 : 1 ≤ b := by omega
          clear htz hq1 hL hbz hq3
          generalize hbb : b &&& (b - 1) = b' at *
          clear hbb
          go_wp2_with (first
            | (go_at_call 104; refine (htz'.out _).mono ?_; rintro e w3 ⟨rfl, rfl⟩)
            | (at_builtin; refine app_own rfl (.tmp 51) (.tmp 57) 36 3 _ 1 8 rfl Try.underlying36 infoInt rfl (by omega) (by omega) (.slice ao1 L.length co1) L.length 1 (vi64 L) [.int .i64 (8 * (i : Int) + (q : Int))] rfl rfl (by simp) rfl (by simp [Value.oneCell']) hmd.own (by omega) ?_; intro aA cA wA hA mA vA))
          go_roundw
          case rel =>
            refine ⟨b', L ++ [((8 * i + q : Nat) : Int)], aA, cA, by omega, by simp, by simp, ?_, ?_⟩
            · rw [← hL'.out, hq1'.out]; simp
            · have := hmd.push hA mA vA
              rw [List.length_append]
              rw [show vi64 (L ++ [((8 * i + q : Nat) : Int)]) = vi64 L ++ [.int .i64 (8 * (i : Int) + (q : Int))] from by simp [vi64]]
              exact this
          case measure => simp [intOf]; omega
    · have hie : m = i := by omega
      subst hie
      have htk : ys.take m = ys := List.take_of_length_le (by rw [hyl'.out]; omega)
      rw [htk] at hmd ⊢
      clear htk
      generalize hO : setFrom 0 ys = O at *
      clear hO
      have hOl : O.length ≤ 9223372036854775807 := (Rd.own hmd.own).le
      have hr2 : r < w2.heap.size := by have := h'.out.has.lt; have := hm12.out.size; omega
      have hne : Hid (∀ g, (Value.slice ao O.length co).ownBlock = some g → g ∉ [r]) := fun g hg hm => by
        have := hmd.new g hg
        simp only [List.mem_singleton] at hm
        omega
      have hmw := hm12.out.trans hmd.mod (by simp)
      have hRd := Lib.hid ((h'.out.still hmw).still (Mod.refl [] wr).drew)
      have hfo : Hid (∀ w3, Mod [r] wr.drew w3 →
          (stop = false → lastOk n O = true → RAt w3 r a c bs (k + m) false → RBitsOut w r a c bs k stop n (.returned (.slice ao O.length co)) w3) ∧
          (stop = true ∨ lastOk n O = false → RAt w3 r a c bs k true → RBitsOut w r a c bs k stop n (.returned (.slice none 0 0)) w3)) := fun w3 hm3 =>
        hout.out w3 (.slice ao O.length co) (((Rd.own hmd.own).still (Mod.refl [] wr).drew).keep hm3 hne.out) (fun g hg => by have := hmd.new g hg; have := hm12.out.size; omega) (((hmw.trans (Mod.refl [] wr).drew (by simp)).of0).trans hm3 (fun b hb _ => hb))
      by_cases hOe : O = []
      · subst hOe
        have hlo : Hid (lastOk n [] = true) := by show lastOk n [] = true; rfl
        have t5 : ((([] : List Int).length : Int) == 0) = true := rfl
        clear hmd hout hl
        go_wp2_with fail
        refine region_sched (G := Mod [r]) [([0,1,2,3,4,5,6,7,8,9,10,11,12,13,14,15,16,17],18)] [19] (by kernel_rfl) (by kernel_rfl) (by kernel_rfl) rfl (Mod.refl [r]) (trM r) ?_
        simp only [stages, pickO, nthO, headO, List.cons_append, List.nil_append]
        refine sched_step ?_
        repeat (go_big_quiet_step (fail))
        refine wpQuiet_nil ?_
        intro K hK
        rw [if_pos (by rfl)]
        go_simp
        cases stop with
        | true =>
          refine (take_no hRd.out (m : Int) true (.inl rfl)).mono ?_
          rintro e w3 ⟨rfl, hR, hm3⟩
          dsimp only
          refine hK.out _ _ hm3 ?_
          clear hK K
          refine sched_last ?_
          repeat (go_big_quiet_step (fail))
          refine wpQuiet_nil ?_
          have hfin := Lib.hid ((hfo.out w3 hm3).2 (.inl rfl) hR)
          clear hR hm3
          go_wp2_with fail
          go_ret
          exact hfin.out
        | false =>
          refine (take_yes hRd.out m hkw.out).mono ?_
          rintro e w3 ⟨rfl, hR, hm3⟩
          dsimp only
          refine hK.out _ _ hm3 ?_
          clear hK K
          refine sched_last ?_
          repeat (go_big_quiet_step (fail))
          refine wpQuiet_nil ?_
          have hfin := Lib.hid ((hfo.out w3 hm3).1 rfl hlo.out hR)
          clear hR hm3
          go_wp2_with fail
          go_ret
          exact hfin.out
      · have hOp : 0 < O.length := List.length_pos_iff.2 hOe
        obtain ⟨x, hx⟩ : ∃ x, O[O.length - 1]? = some x := ⟨O[O.length - 1], List.getElem?_eq_getElem (by omega)⟩
        have hlast : O.getLast? = some x := by rw [List.getLast?_eq_getElem?]; exact hx
        obtain ⟨gO, rfl⟩ := hmd.form hOp
        have t5 : ((O.length : Int) == 0) = false := by simp; exact hOe
        have hlc : ∀ mm : Fut (Mod [r]) wr.drew, mm.v.cell? ⟨gO, O.length - 1, none⟩ = some (.int .i64 x) := fun mm => by
          have := (((Rd.own hmd.own).still (Mod.refl [] wr).drew).keep mm.of hne.out).cellAt (O.length - 1) (vi64_get hx)
          rwa [Nat.zero_add] at this
        generalize hN : O.length = NN at *
        have hw1 : IntKind.i64.wrap ((NN : Int) - 1) = (NN : Int) - 1 := IntWalk.i64_in _ (by omega)
        have hw2 : 0 ≤ (NN : Int) - 1 := by omega
        have hw3 : (NN : Int) - 1 < NN := by omega
        have hw4 : ((NN : Int) - 1).toNat = NN - 1 := by omega
        have hw5 : NN - 1 < NN := by omega
        have hw6 : 1 ≤ NN := hOp
        have hlo0 : lastOk n O = decide (x < n) := by unfold lastOk; rw [hlast]
        have hlo1 := Lib.hid hlo0
        have hN' := Lib.hid hN
        clear hmd hout hl hx hlast hOe hOp hlo0 hN
        by_cases hxn : x < n
        · have t6 : decide (x < n) = true := by simpa using hxn
          have hlo : Hid (lastOk n O = true) := by show lastOk n O = true; rw [hlo1.out, t6]
          clear hxn
          go_wp2_with fail
          refine region_sched (G := Mod [r]) [([0,1,2,3,4,5,6,7,8,9,10,11,12,13,14,15,16,17],18)] [19] (by kernel_rfl) (by kernel_rfl) (by kernel_rfl) rfl (Mod.refl [r]) (trM r) ?_
          simp only [stages, pickO, nthO, headO, List.cons_append, List.nil_append]
          refine sched_step ?_
          repeat (go_big_quiet_step (fail))
          refine wpQuiet_nil ?_
          intro K hK
          rw [if_pos (by rfl)]
          go_simp
          cases stop with
          | true =>
            refine (take_no hRd.out (m : Int) true (.inl rfl)).mono ?_
            rintro e w3 ⟨rfl, hR, hm3⟩
            dsimp only
            refine hK.out _ _ hm3 ?_
            clear hK K
            refine sched_last ?_
            repeat (go_big_quiet_step (fail))
            refine wpQuiet_nil ?_
            have hfin := Lib.hid ((hfo.out w3 hm3).2 (.inl rfl) hR)
            clear hR hm3
            go_wp2_with fail
            go_ret
            exact hfin.out
          | false =>
            refine (take_yes hRd.out m hkw.out).mono ?_
            rintro e w3 ⟨rfl, hR, hm3⟩
            dsimp only
            refine hK.out _ _ hm3 ?_
            clear hK K
            refine sched_last ?_
            repeat (go_big_quiet_step (fail))
            refine wpQuiet_nil ?_
            have hfin := Lib.hid ((hfo.out w3 hm3).1 rfl hlo.out hR)
            clear hR hm3
            go_wp2_with fail
            go_ret
            exact hfin.out
        · have t6 : decide (x < n) = false := by simpa using hxn
          have hlo : Hid (lastOk n O = false) := by show lastOk n O = false; rw [hlo1.out, t6]
          clear hxn
          go_wp2_with fail
          refine region_sched (G := Mod [r]) [([0,1,2,3,4,5,6,7,8,9,10,11,12,13,14,15,16,17],18)] [19] (by kernel_rfl) (by kernel_rfl) (by kernel_rfl) rfl (Mod.refl [r]) (trM r) ?_
          simp only [stages, pickO, nthO, headO, List.cons_append, List.nil_append]
          refine sched_step ?_
          repeat (go_big_quiet_step (fail))
          refine wpQuiet_nil ?_
          intro K hK
          rw [if_pos (by rfl)]
          go_simp
          refine (take_no hRd.out (m : Int) false (.inr rfl)).mono ?_
          rintro e w3 ⟨rfl, hR, hm3⟩
          dsimp only
          refine hK.out _ _ hm3 ?_
          clear hK K
          refine sched_last ?_
          repeat (go_big_quiet_step (fail))
          refine wpQuiet_nil ?_
          have hfin := Lib.hid ((hfo.out w3 hm3).2 (.inr hlo.out) hR)
          clear hR hm3
          go_wp2_with fail
          go_ret
          exact hfin.out
theorem rdBits {w : World} {r c k : Nat} {a : Option Addr} {bs : List Int} {stop : Bool} (n : Int) (h : RAt w r a c bs k stop) (hbb : ∀ x ∈ bs, 0 ≤ x ∧ x < 256) :
    Calls Try.prog 46 #[.pointer (some ⟨r, 0, none⟩), .int .i64 n] w (RBitsOut w r a c bs k stop n) := by
  by_cases hn : n < 0 ∨ 4096 < n
  · exact rdBits_out n h hn
  · by_cases hs : bs.length - k < wideN n
    · exact rdBits_short n h (by omega) (by omega) hs
    · exact rdBits_main n h hbb (by omega) (by omega) (by omega)
end Code
end Go.Proofs.Ytmkbinbggiocaaa

set_option linter.unusedVariables false
set_option linter.unusedSimpArgs false
namespace Go.Proofs.Ytmkbinbggiocaaa
open Go.RowKit
namespace Code
set_option maxRecDepth 100000 in
set_option maxHeartbeats 4000000 in
theorem refBits_ok {w : World} {vl : Value} (n : Int) (l : List Int) (hok : bitsOk n l = true) (hr : Rd w 1 vl l.length (vi64 l)) :
    Calls Try.prog 37 #[.int .i64 n, vl] w fun e w' => ∃ a c, e = .returned (.agg #[.slice a (bitsB (wideN n) l).length c, .bool true]) ∧ Made w w' 5 1 a (bitsB (wideN n) l).length c (u8s (bitsB (wideN n) l)) := by
  simp only [bitsOk, Bool.and_eq_true, decide_eq_true_eq] at hok
  obtain ⟨⟨h0, h1⟩, hrise⟩ := hok
  rw [rises_iff] at hrise
  obtain ⟨hris, hrng⟩ := hrise
  obtain ⟨al, cl, rfl⟩ := hr.val
  have hm : wideN n ≤ 513 := by unfold wideN; omega
  have hmk : ∀ W : World, (Instr.makeSlice 45 (.int .i64 ((n + 7) / 8)) (.int .i64 ((n + 7) / 8))).run Try.prog W = .ok (.slice (some ⟨W.heap.size, 0, none⟩) (wideN n) (wideN n)) (W.alloc (.cells (madeCells #[.int .u8 0] (wideN n)) 5)) := by
    rw [show (n + 7) / 8 = ((wideN n : Nat) : Int) from by unfold wideN; omega]
    exact make_run (P := Try.prog) 45 5 (.int .u8 0) 1 Try.underlying45 infoU8 rfl (by omega) (wideN n) (by omega)
  have hr' := Lib.hid hr
  have hrng' := Lib.hid hrng
  have hris' := Lib.hid hris
  have hll := hr.le
  have hd0 : decide (n < 0) = false := by simp; omega
  have hd1 : decide (4096 < n) = false := by simp; omega
  have hW : Hid (∀ v : Int, 0 ≤ v → v < n → v / 8 < wideN n ∧ (v / 8).toNat < wideN n) := fun v hv hvn => by unfold wideN; omega
  clear hr hrng hris
  have hmade := (made_made (w.alloc (.cells #[.slice none 0 0, .bool false] 58)) 5 (.int .u8 0) (wideN n) (by omega)).before ((Mod.refl [] w).alloc _)
  have e0 : List.replicate (wideN n) (Value.int .u8 0) = u8s (bitsB (wideN n) (l.take 0)) := by simp [bitsB_nil, u8s]
  rw [e0] at hmade
  simp only [World.size_alloc] at hmade
  have hmade' := Lib.hid hmade
  have hslot : Has ((w.alloc (.cells #[.slice none 0 0, .bool false] 58)).alloc (.cells (madeCells #[.int .u8 0] (wideN n)) 5)) w.heap.size [.slice none 0 0, .bool false] 58 := (Has.new w [.slice none 0 0, .bool false] 58).alloc _
  have hslot' := Lib.hid hslot
  clear hmade e0 hslot
  generalize hmm : wideN n = m at *
  have hmm' := Lib.hid hmm
  clear hmm
  go_enter Try.func37, Try.ntmps37
  go_wp2_with fail
  generalize hB : w.heap.size = B at *
  have hB' := Lib.hid hB
  clear hB
  go_loopw [6] (fun i wr => ∃ (k : Nat), k ≤ l.length ∧ i = .int .i64 k ∧ Made w wr 5 1 (some ⟨B + 1, 0, none⟩) m m (u8s (bitsB m (l.take k))) ∧ Has wr B [.slice none 0 0, .bool false] 58) (fun i _ => l.length - (intOf i).toNat)
  case atStart => exact ⟨0, Nat.zero_le _, rfl, hmade'.out, hslot'.out⟩
  case round =>
    clear hmade' hslot'
    obtain ⟨k, hk, rfl, hmd, hsl⟩ := hrel
    obtain ⟨wo, hwo⟩ : ∃ wo : World, wo = wr := ⟨_, rfl⟩
    clear hwo
    have hBl := hsl.lt
    by_cases hlt : k < l.length
    · obtain ⟨x, hx⟩ : ∃ x, l[k]? = some x := ⟨l[k], List.getElem?_eq_getElem hlt⟩
      have hxm : x ∈ l := List.mem_of_getElem? hx
      obtain ⟨g, o, rfl, _, _, hcell⟩ := (hr'.out.still hmd.mod).at (by rw [vi64_len]; omega)
      have hc := hcell k _ (vi64_get hx)
      have hx0 := (hrng'.out x hxm).1
      have hx1 := (hrng'.out x hxm).2
      have hq := hW.out x (by omega) hx1
      have hxx : 0 ≤ x := by omega
      have t1 : decide (x < 0) = false := by simp; omega
      have t2 : decide (n ≤ x) = false := by simp; omega
      obtain ⟨hq1, hq2⟩ := hq
      have hq0 : 0 ≤ x / 8 := by omega
      have hbyte := hmd.cell (x / 8).toNat (u := .int .u8 ((byteAt (l.take k) (x / 8).toNat : Nat) : Int)) (u8s_get (bitsB_get _ _ _ hq2))
      have hfr := hmd.own.frozenAt (x / 8).toNat
      have hbl := own_lt hmd.own (g := B + 1) rfl
      have hlow := byteAt_lt hris'.out (fun y hy => by have := (hrng'.out y hy).1; omega) k x hxx (fun i y hi hy => hris'.out i k y x hy hx hi)
      have hbx := bit_le x hxx
      have hval : ((byteAt (l.take k) (x / 8).toNat : Nat) : Int) + (2 : Int) ^ (x % 8).toNat = ((byteAt (l.take k) (x / 8).toNat + bit x : Nat) : Int) := by simp [bit]
      have hnew : ∀ (b0 nq : Nat), b0 = byteAt (l.take k) (x / 8).toNat → Made w ((wr.drewN nq).setCell ⟨B + 1, (x / 8).toNat, none⟩ (.int .u8 (((b0 : Int) + 2 ^ (x % 8).toNat) % 256))) 5 1 (some ⟨B + 1, 0, none⟩) m m (u8s (bitsB m (l.take (k + 1)))) := by
        rintro _ nq rfl
        rw [hval]
        rw [show ((byteAt (l.take k) (x / 8).toNat + bit x : Nat) : Int) % 256 = ((byteAt (l.take k) (x / 8).toNat + bit x : Nat) : Int) from by omega]
        have h := (hmd.drewN nq).store (x / 8).toNat (.int .u8 ((byteAt (l.take k) (x / 8).toNat + bit x : Nat) : Int))
        have e : l.take (k + 1) = l.take k ++ [x] := by rw [List.take_add_one, hx]; rfl
        rw [e, bitsB_snoc m _ x hxx hq2]
        rw [show (u8s (bitsB m (l.take k))).set (x / 8).toNat (.int .u8 ((byteAt (l.take k) (x / 8).toNat + bit x : Nat) : Int)) = u8s ((bitsB m (l.take k)).set (x / 8).toNat ((byteAt (l.take k) (x / 8).toNat + bit x : Nat) : Int)) from by simp [u8s, List.map_set]] at h
        exact h
      have hsl2 : ∀ (nq : Nat) (v : Value), Has ((wr.drewN nq).setCell ⟨B + 1, (x / 8).toNat, none⟩ v) B [.slice none 0 0, .bool false] 58 := fun nq v => (hsl.drewN nq).other _ _ (by simp)
      have hsl2' := Lib.hid hsl2
      clear hval hsl2
      have hnew' := Lib.hid hnew
      clear hnew
      generalize byteAt (l.take k) (x / 8).toNat = b0 at *
      by_cases hk0 : k = 0
      · subst hk0
        have t3 : decide ((0 : Int) < ((0 : Nat) : Int)) = false := by simp
        simp only [Nat.add_zero] at hc
        clear hcell hx
        go_wp2_with fail
        go_quiet (fail)
        go_wp2_with fail
        go_region
        go_wp2_with fail
        go_roundw
        case rel => exact ⟨1, by omega, by simp, hnew'.out _ _ rfl, hsl2'.out _ _⟩
        case measure => simp [intOf]; omega
      · obtain ⟨y, hy⟩ : ∃ y, l[k - 1]? = some y := ⟨l[k - 1], List.getElem?_eq_getElem (by omega)⟩
        have hyc := hcell (k - 1) _ (vi64_get hy)
        have hyx := hris'.out (k - 1) k y x hy hx (by omega)
        have t3 : decide (0 < (k : Int)) = true := by simp; omega
        have t3' : decide (0 < k) = true := by simp; omega
        have t4 : decide (x ≤ y) = false := by simp; omega
        have hkp : 1 ≤ k := by omega
        have hkk : ((k : Int) - 1).toNat = k - 1 := by omega
        have hw1 : IntKind.i64.wrap ((k : Int) - 1) = (k : Int) - 1 := IntWalk.i64_in _ (by omega)
        have hw2 : 0 ≤ (k : Int) - 1 := by omega
        have hw3 : (k : Int) - 1 < l.length := by omega
        have hw4 : k - 1 < l.length := by omega
        clear hcell hx hy hk0
        go_wp2_with fail
        go_quiet (fail)
        clear hkk hw1 hw2 hw3 hw4
        go_wp2_with fail
        go_region
        go_wp2_with fail
        go_roundw
        case rel => exact ⟨k + 1, by omega, by go_num, hnew'.out _ _ rfl, hsl2'.out _ _⟩
        case measure => simp [intOf]; omega
    · have hk' : k = l.length := by omega
      rw [hk', List.take_length] at hmd
      have hbl : (bitsB m l).length = m := bitsB_len m l
      have s0 := hsl.cell 0 rfl
      have s1 := hsl.cell 1 rfl
      have sf := hsl.free
      have hfin : ∀ u v, Made w ((wr.setCell ⟨B, 0, none⟩ u).setCell ⟨B, 1, none⟩ v) 5 1 (some ⟨B + 1, 0, none⟩) m m (u8s (bitsB m l)) := fun u v => by
        have e := hB'.out
        exact ⟨own_other (own_other hmd.own _ _ (by simp [Value.ownBlock])) _ _ (by simp [Value.ownBlock]), (hmd.mod.setCell _ _ (fun h => by simp only at h; omega)).setCell _ _ (fun h => by simp only at h; omega), hmd.new⟩
      have hfin' := Lib.hid hfin
      have hbl' := Lib.hid hbl
      clear hk' hfin hbl
      go_wp2_with fail
      refine bodyPost_ret (v := .agg #[.slice (some ⟨B + 1, 0, none⟩) m m, .bool true]) (by simp [results, Try.results37, go_sem, s0, s1]) rfl ?_
      rw [hbl'.out]
      exact ⟨_, _, rfl, hfin'.out _ _⟩
set_option maxHeartbeats 1000000 in
theorem refBits_out {w : World} {vl : Value} (n : Int) (h : n < 0 ∨ 4096 < n) :
    Calls Try.prog 37 #[.int .i64 n, vl] w fun e w' => e = .returned (.agg #[.slice none 0 0, .bool false]) ∧ Mod [] w w' := by
  have hm : ∀ o, Mod [] w (w.alloc o) := fun o => (Mod.refl _ _).alloc o
  have hm' := Lib.hid hm
  clear hm
  by_cases h0 : n < 0
  · have hd0 : decide (n < 0) = true := by simpa using h0
    go_enter Try.func37, Try.ntmps37
    go_wp2_with fail
    exact bodyPost_ret (v := .agg #[.slice none 0 0, .bool false]) (by simp [results, Try.results37, go_sem]) rfl ⟨rfl, hm'.out _⟩
  · have hd0 : decide (n < 0) = false := by simpa using h0
    have h1 : 4096 < n := by omega
    have hd1 : decide (4096 < n) = true := by simpa using h1
    go_enter Try.func37, Try.ntmps37
    go_wp2_with fail
    exact bodyPost_ret (v := .agg #[.slice none 0 0, .bool false]) (by simp [results, Try.results37, go_sem]) rfl ⟨rfl, hm'.out _⟩
set_option maxRecDepth 100000 in
set_option maxHeartbeats 8000000 in
theorem refBits_bad {w : World} {vl : Value} (n : Int) (l : List Int) (h0 : 0 ≤ n) (h1 : n ≤ 4096) (hbad : risesB n (-1) l = false) (hr : Rd w 1 vl l.length (vi64 l)) :
    Calls Try.prog 37 #[.int .i64 n, vl] w fun e w' => e = .returned (.agg #[.slice none 0 0, .bool false]) ∧ Mod [] w w' := by
  obtain ⟨K, X, hX, hrise, hfail⟩ := rises_fails n l (-1) hbad
  have hKl : K < l.length := (List.getElem?_eq_some_iff.1 hX).1
  rw [rises_iff] at hrise
  obtain ⟨hris, hrng⟩ := hrise
  obtain ⟨al, cl, rfl⟩ := hr.val
  have hm : wideN n ≤ 513 := by unfold wideN; omega
  have hmk : ∀ W : World, (Instr.makeSlice 45 (.int .i64 ((n + 7) / 8)) (.int .i64 ((n + 7) / 8))).run Try.prog W = .ok (.slice (some ⟨W.heap.size, 0, none⟩) (wideN n) (wideN n)) (W.alloc (.cells (madeCells #[.int .u8 0] (wideN n)) 5)) := by
    rw [show (n + 7) / 8 = ((wideN n : Nat) : Int) from by unfold wideN; omega]
    exact make_run (P := Try.prog) 45 5 (.int .u8 0) 1 Try.underlying45 infoU8 rfl (by omega) (wideN n) (by omega)
  have hget : ∀ k x, k < K → l[k]? = some x → (l.take K)[k]? = some x := fun k x hk hx => by rw [List.getElem?_take]; simp [hk, hx]
  have hr' := Lib.hid hr
  have hrng' : Hid (∀ (k : Nat) (x : Int), k < K → l[k]? = some x → -1 < x ∧ x < n) := fun k x hk hx => hrng x (List.mem_of_getElem? (hget k x hk hx))
  have hris' : Hid (∀ (i j : Nat) (x y : Int), j < K → l[i]? = some x → l[j]? = some y → i < j → x < y) := fun i j x y hj hx hy hij => hris i j x y (hget i x (by omega) hx) (hget j y hj hy) hij
  have hfail' : Hid (X ≤ (((-1 : Int) :: l)[K]?).getD 0 ∨ n ≤ X) := hfail
  have hll := hr.le
  have hd0 : decide (n < 0) = false := by simp; omega
  have hd1 : decide (4096 < n) = false := by simp; omega
  have hW : Hid (∀ v : Int, 0 ≤ v → v < n → v / 8 < wideN n ∧ (v / 8).toNat < wideN n) := fun v hv hvn => by unfold wideN; omega
  have hX' := Lib.hid hX
  have hmade : ∃ xs, Made w ((w.alloc (.cells #[.slice none 0 0, .bool false] 58)).alloc (.cells (madeCells #[.int .u8 0] (wideN n)) 5)) 5 1 (some ⟨w.heap.size + 1, 0, none⟩) (wideN n) (wideN n) (u8s xs) := ⟨List.replicate (wideN n) 0, by
    have h := (made_made (w.alloc (.cells #[.slice none 0 0, .bool false] 58)) 5 (.int .u8 0) (wideN n) (by omega)).before ((Mod.refl [] w).alloc _)
    simpa [u8s] using h⟩
  have hmade' := Lib.hid hmade
  have hslot : Has ((w.alloc (.cells #[.slice none 0 0, .bool false] 58)).alloc (.cells (madeCells #[.int .u8 0] (wideN n)) 5)) w.heap.size [.slice none 0 0, .bool false] 58 := (Has.new w [.slice none 0 0, .bool false] 58).alloc _
  have hslot' := Lib.hid hslot
  clear hmade hslot hr hrng hris hget hX hfail hbad
  generalize wideN n = m at *
  go_enter Try.func37, Try.ntmps37
  go_wp2_with fail
  generalize hB : w.heap.size = B at *
  have hB' := Lib.hid hB
  clear hB
  go_loopw [6] (fun i wr => ∃ (k : Nat), k ≤ K ∧ i = .int .i64 k ∧ (∃ xs, Made w wr 5 1 (some ⟨B + 1, 0, none⟩) m m (u8s xs)) ∧ Has wr B [.slice none 0 0, .bool false] 58) (fun i _ => l.length - (intOf i).toNat)
  case atStart => exact ⟨0, Nat.zero_le _, rfl, hmade'.out, hslot'.out⟩
  case round =>
    clear hmade' hslot'
    obtain ⟨k, hk, rfl, ⟨xs, hmd⟩, hsl⟩ := hrel
    obtain ⟨wo, hwo⟩ : ∃ wo : World, wo = wr := ⟨_, rfl⟩
    clear hwo
    have hBl := hsl.lt
    have hlt : k < l.length := by omega
    obtain ⟨x, hx⟩ : ∃ x, l[k]? = some x := ⟨l[k], List.getElem?_eq_getElem hlt⟩
    obtain ⟨g, o, rfl, _, _, hcell⟩ := (hr'.out.still hmd.mod).at (by rw [vi64_len]; omega)
    have hc := hcell k _ (vi64_get hx)
    by_cases hkK : k < K
    · have hx0 := (hrng'.out k x hkK hx).1
      have hx1 := (hrng'.out k x hkK hx).2
      have hq := hW.out x (by omega) hx1
      have hxx : 0 ≤ x := by omega
      have t1 : decide (x < 0) = false := by simp; omega
      have t2 : decide (n ≤ x) = false := by simp; omega
      obtain ⟨hq1, hq2⟩ := hq
      have hq0 : 0 ≤ x / 8 := by omega
      have hxl : xs.length = m := by have := hmd.own.1; simpa [u8s] using this
      obtain ⟨b0, hb0⟩ : ∃ b0, xs[(x / 8).toNat]? = some b0 := ⟨xs[(x / 8).toNat], List.getElem?_eq_getElem (by omega)⟩
      have hbyte := hmd.cell (x / 8).toNat (u := .int .u8 b0) (u8s_get hb0)
      have hfr := hmd.own.frozenAt (x / 8).toNat
      have hbl := own_lt hmd.own (g := B + 1) rfl
      have hnew : ∀ (nq : Nat) v, Made w ((wr.drewN nq).setCell ⟨B + 1, (x / 8).toNat, none⟩ (.int .u8 v)) 5 1 (some ⟨B + 1, 0, none⟩) m m (u8s (xs.set (x / 8).toNat v)) := fun nq v => by
        have h := (hmd.drewN nq).store (x / 8).toNat (.int .u8 v)
        rw [show (u8s xs).set (x / 8).toNat (.int .u8 v) = u8s (xs.set (x / 8).toNat v) from by simp [u8s, List.map_set]] at h
        exact h
      have hsl2 : ∀ (nq : Nat) (v : Value), Has ((wr.drewN nq).setCell ⟨B + 1, (x / 8).toNat, none⟩ v) B [.slice none 0 0, .bool false] 58 := fun nq v => (hsl.drewN nq).other _ _ (by simp)
      have hsl2' := Lib.hid hsl2
      have hnew' := Lib.hid hnew
      clear hsl2 hnew hb0 hxl
      by_cases hk0 : k = 0
      · subst hk0
        have t3 : decide ((0 : Int) < ((0 : Nat) : Int)) = false := by simp
        simp only [Nat.add_zero] at hc
        clear hcell hx
        go_wp2_with fail
        go_quiet (fail)
        go_wp2_with fail
        go_region
        go_wp2_with fail
        go_roundw
        case rel => exact ⟨1, by omega, by simp, ⟨_, hnew'.out _ _⟩, hsl2'.out _ _⟩
        case measure => simp [intOf]; omega
      · obtain ⟨y, hy⟩ : ∃ y, l[k - 1]? = some y := ⟨l[k - 1], List.getElem?_eq_getElem (by omega)⟩
        have hyc := hcell (k - 1) _ (vi64_get hy)
        have hyx := hris'.out (k - 1) k y x hkK hy hx (by omega)
        have t3 : decide (0 < (k : Int)) = true := by simp; omega
        have t3' : decide (0 < k) = true := by simp; omega
        have t4 : decide (x ≤ y) = false := by simp; omega
        have hkp : 1 ≤ k := by omega
        have hkk : ((k : Int) - 1).toNat = k - 1 := by omega
        have hw1 : IntKind.i64.wrap ((k : Int) - 1) = (k : Int) - 1 := IntWalk.i64_in _ (by omega)
        have hw2 : 0 ≤ (k : Int) - 1 := by omega
        have hw3 : (k : Int) - 1 < l.length := by omega
        have hw4 : k - 1 < l.length := by omega
        clear hcell hx hy hk0
        go_wp2_with fail
        go_quiet (fail)
        clear hkk hw1 hw2 hw3 hw4
        go_wp2_with fail
        go_region
        go_wp2_with fail
        go_roundw
        case rel => exact ⟨k + 1, by omega, by go_num, ⟨_, hnew'.out _ _⟩, hsl2'.out _ _⟩
        case measure => simp [intOf]; omega
    · have hkK' : k = K := by omega
      subst hkK'
      have hxX : x = X := by have := hX'.out; rw [hx] at this; simpa using this
      subst hxX
      have hmod : ∀ nq u v, Mod [] w (((wr.drewN nq).setCell ⟨B, 0, none⟩ u).setCell ⟨B, 1, none⟩ v) := fun nq u v => by
        have e := hB'.out
        exact ((hmd.mod.drewN nq).setCell _ _ (fun h => by simp only at h; omega)).setCell _ _ (fun h => by simp only at h; omega)
      have hmod' := Lib.hid hmod
      have hf := hfail'
      have s0 := hsl.cell 0 rfl
      have s1 := hsl.cell 1 rfl
      have sf := hsl.free
      clear hmod hkK
      by_cases hneg : x < 0
      · have t1 : decide (x < 0) = true := by simpa using hneg
        by_cases hk0 : k = 0
        · subst hk0
          simp only [Nat.add_zero] at hc
          clear hcell hx
          go_wp2_with fail
          go_quiet (fail)
          go_wp2_with fail
          exact bodyPost_ret (v := .agg #[.slice none 0 0, .bool false]) (by simp [results, Try.results37, go_sem, s0, s1]) rfl ⟨rfl, hmod'.out _ _ _⟩
        · clear hcell hx
          go_wp2_with fail
          go_quiet (fail)
          go_wp2_with fail
          exact bodyPost_ret (v := .agg #[.slice none 0 0, .bool false]) (by simp [results, Try.results37, go_sem, s0, s1]) rfl ⟨rfl, hmod'.out _ _ _⟩
      · have t1 : decide (x < 0) = false := by simpa using hneg
        by_cases hge : n ≤ x
        · have t2 : decide (n ≤ x) = true := by simpa using hge
          by_cases hk0 : k = 0
          · subst hk0
            simp only [Nat.add_zero] at hc
            clear hcell hx
            go_wp2_with fail
            go_quiet (fail)
            go_wp2_with fail
            exact bodyPost_ret (v := .agg #[.slice none 0 0, .bool false]) (by simp [results, Try.results37, go_sem, s0, s1]) rfl ⟨rfl, hmod'.out _ _ _⟩
          · clear hcell hx
            go_wp2_with fail
            go_quiet (fail)
            go_wp2_with fail
            exact bodyPost_ret (v := .agg #[.slice none 0 0, .bool false]) (by simp [results, Try.results37, go_sem, s0, s1]) rfl ⟨rfl, hmod'.out _ _ _⟩
        · have t2 : decide (n ≤ x) = false := by simpa using hge
          have hle : x ≤ (((-1 : Int) :: l)[k]?).getD 0 := by rcases hf.out with h | h; · exact h
                                                              · exact absurd h hge
          have hk0 : k ≠ 0 := by
            rintro rfl
            simp at hle; omega
          obtain ⟨y, hy⟩ : ∃ y, l[k - 1]? = some y := ⟨l[k - 1], List.getElem?_eq_getElem (by omega)⟩
          have hyc := hcell (k - 1) _ (vi64_get hy)
          have hxy : x ≤ y := by
            obtain ⟨j, rfl⟩ : ∃ j, k = j + 1 := ⟨k - 1, by omega⟩
            simp at hy hle
            simpa [hy] using hle
          have t3 : decide (0 < (k : Int)) = true := by simp; omega
          have t3' : decide (0 < k) = true := by simp; omega
          have t4 : decide (x ≤ y) = true := by simpa using hxy
          have hkp : 1 ≤ k := by omega
          have hkk : ((k : Int) - 1).toNat = k - 1 := by omega
          have hw1 : IntKind.i64.wrap ((k : Int) - 1) = (k : Int) - 1 := IntWalk.i64_in _ (by omega)
          have hw2 : 0 ≤ (k : Int) - 1 := by omega
          have hw3 : (k : Int) - 1 < l.length := by omega
          have hw4 : k - 1 < l.length := by omega
          clear hcell hx hy hk0 hle
          go_wp2_with fail
          go_quiet (fail)
          clear hkk hw1 hw2 hw3 hw4
          go_wp2_with fail
          exact bodyPost_ret (v := .agg #[.slice none 0 0, .bool false]) (by simp [results, Try.results37, go_sem, s0, s1]) rfl ⟨rfl, hmod'.out _ _ _⟩
/-- What the reference's Bits answers. -/
def RefBitsOut (n : Int) (l : List Int) (w : World) (e : Ending) (w' : World) : Prop :=
  if bitsOk n l then ∃ a c, e = .returned (.agg #[.slice a (bitsB (wideN n) l).length c, .bool true]) ∧ Made w w' 5 1 a (bitsB (wideN n) l).length c (u8s (bitsB (wideN n) l))
  else e = .returned (.agg #[.slice none 0 0, .bool false]) ∧ Mod [] w w'
theorem refBits_any {w : World} {vl : Value} (n : Int) (l : List Int) (hr : Rd w 1 vl l.length (vi64 l)) :
    Calls Try.prog 37 #[.int .i64 n, vl] w (RefBitsOut n l w) := by
  cases hok : bitsOk n l with
  | true =>
    refine (refBits_ok n l hok hr).mono fun e w' h => ?_
    simpa [RefBitsOut, hok] using h
  | false =>
    by_cases hn : n < 0 ∨ 4096 < n
    · refine (refBits_out n hn).mono fun e w' h => ?_
      simpa [RefBitsOut, hok] using h
    · have hbad : risesB n (-1) l = false := by
        have h0 : 0 ≤ n := by omega
        have h1 : n ≤ 4096 := by omega
        simpa [bitsOk, h0, h1] using hok
      refine (refBits_bad n l (by omega) (by omega) hbad hr).mono fun e w' h => ?_
      simpa [RefBitsOut, hok] using h
end Code
end Go.Proofs.Ytmkbinbggiocaaa

set_option linter.unusedVariables false
set_option linter.unusedSimpArgs false
namespace Go.Proofs.Ytmkbinbggiocaaa
open Go.RowKit
namespace Code
theorem strOfNums_nil : strOfNums [] = ByteArray.empty := rfl
theorem conv_nil (w : World) : (convert 45 9 (.slice none 0 0)).run Try.prog w = .ok (.string ByteArray.empty) w :=
  run_convert_bytes_nil (P := Try.prog) w 45 5 Try.underlying45 Try.underlying5 0 0 9 Try.underlying9
theorem conv_zero (w : World) (ad : Addr) (c : Nat) : (convert 45 9 (.slice (some ad) 0 c)).run Try.prog w = .ok (.string ByteArray.empty) w := by
  have h := run_convert_bytes_string (P := Try.prog) w 45 9 5 (some ad) 0 c Try.underlying45 Try.underlying5 Try.underlying9
  rw [run_bytesToString w ad 0 c [] (by simp [go_sem])] at h
  exact h
theorem conv_rd {w : World} {v : Value} {bs : List Int} (h : Rd w 1 v bs.length (u8s bs)) : (convert 45 9 v).run Try.prog w = .ok (.string (strOfNums bs)) w := by
  obtain ⟨a, c, rfl⟩ := h.val
  by_cases hn : bs = []
  · subst hn
    rcases h.2 with ⟨he, _⟩ | ⟨ad, c', he, _⟩
    · simp only [Value.slice.injEq] at he
      obtain ⟨rfl, _, rfl⟩ := he
      have k := conv_nil w
      rw [← strOfNums_nil] at k
      exact k
    · simp only [Value.slice.injEq] at he
      obtain ⟨rfl, _, rfl⟩ := he
      have k := conv_zero w ad c
      rw [← strOfNums_nil] at k
      exact k
  · have hp : 0 < bs.length := List.length_pos_iff.2 hn
    obtain ⟨g, o, rfl, _, _, h3⟩ := h.at (by rw [u8s_length]; exact hp)
    refine run_convert_bytes_arg w _ _ Try.underlying45 Try.underlying5 g o _ _ bs rfl (fun i hi => ?_) _ Try.underlying9
    rw [h3 i (.int .u8 bs[i]) (u8s_get (List.getElem?_eq_getElem hi))]
    simp [List.getD, List.getElem?_eq_getElem hi]
theorem str_add (a b : List Int) : strOfNums a ++ strOfNums b = strOfNums (a ++ b) := by
  apply ByteArray.ext
  simp [strOfNums, ByteArray.data_append]
end Code
end Go.Proofs.Ytmkbinbggiocaaa

set_option linter.unusedVariables false
set_option linter.unusedSimpArgs false
namespace Go.Proofs.Ytmkbinbggiocaaa
open Go.RowKit
namespace Code
/-- The reference's reader at block r; its bytes lie where they lay in w0, ahead of it. -/
structure XAt (w0 w : World) (r : Nat) (vb : Value) (bs : List Int) (k : Nat) (stop : Bool) : Prop where
  has : Has w r [vb, .int .i64 k, .bool stop] 75
  rd : Rd w0 1 vb bs.length (u8s bs)
  base : Mod [] w0 w
  new : w0.heap.size ≤ r
  le : k ≤ bs.length
  big : bs.length ≤ 1000000
theorem fresh0 {w0 w1 w2 : World} {r : Nat} (h : Mod [] w0 w1) (m : Mod [r] w1 w2) (hr : w0.heap.size ≤ r) : Mod [] w0 w2 := h.trans m (fun b hb hlt => by simp only [List.mem_singleton] at hb; omega)
theorem XAt.still {w0 w w' : World} {r k : Nat} {vb : Value} {bs : List Int} {stop : Bool} (h : XAt w0 w r vb bs k stop) (m : Mod [] w w') : XAt w0 w' r vb bs k stop :=
  ⟨h.has.keep m (by simp), h.rd, h.base.trans m (by simp), h.new, h.le, h.big⟩
theorem XAt.moved {w0 w w' : World} {r k : Nat} {vb : Value} {bs : List Int} {stop : Bool} (h : XAt w0 w r vb bs k stop) (m : Mod [r] w w') {k' : Nat} {s' : Bool} (hh : Has w' r [vb, .int .i64 k', .bool s'] 75) (hk : k' ≤ bs.length) : XAt w0 w' r vb bs k' s' :=
  ⟨hh, h.rd, fresh0 h.base m h.new, h.new, hk, h.big⟩
theorem XAt.read {w0 w : World} {r k : Nat} {vb : Value} {bs : List Int} {stop : Bool} (h : XAt w0 w r vb bs k stop) : Rd w 1 vb bs.length (u8s bs) := h.rd.still h.base
theorem XAt.halt {w0 w : World} {r k : Nat} {vb : Value} {bs : List Int} {stop : Bool} (h : XAt w0 w r vb bs k stop) : XAt w0 (w.setCell ⟨r, 2, none⟩ (.bool true)) r vb bs k true ∧ Mod [r] w (w.setCell ⟨r, 2, none⟩ (.bool true)) := by
  have m : Mod [r] w (w.setCell ⟨r, 2, none⟩ (.bool true)) := (Mod.refl [r] w).setCell _ _ (by simp)
  exact ⟨h.moved m (h.has.set 2 (.bool true)) h.le, m⟩
theorem XAt.go {w0 w : World} {r k : Nat} {vb : Value} {bs : List Int} {stop : Bool} (h : XAt w0 w r vb bs k stop) (k' : Nat) (hk : k' ≤ bs.length) : XAt w0 (w.setCell ⟨r, 1, none⟩ (.int .i64 k')) r vb bs k' stop ∧ Mod [r] w (w.setCell ⟨r, 1, none⟩ (.int .i64 k')) := by
  have m : Mod [r] w (w.setCell ⟨r, 1, none⟩ (.int .i64 k')) := (Mod.refl [r] w).setCell _ _ (by simp)
  exact ⟨h.moved m (h.has.set 1 (.int .i64 k')) hk, m⟩
def XNatOut (w0 w : World) (r : Nat) (vb : Value) (bs : List Int) (k : Nat) (stop : Bool) (f : Nat → Value) (e : Ending) (w' : World) : Prop :=
  e = .returned (f (rNat bs k stop).1) ∧ XAt w0 w' r vb bs (rNat bs k stop).2.1 (rNat bs k stop).2.2 ∧ Mod [r] w w'
set_option maxRecDepth 100000 in
set_option maxHeartbeats 4000000 in
theorem xEnd {w0 w : World} {r k : Nat} {vb : Value} {bs : List Int} {stop : Bool} (h : XAt w0 w r vb bs k stop) :
    Calls Try.prog 52 #[.pointer (some ⟨r, 0, none⟩)] w fun e w' => e = .returned (.int .i64 (rEnd bs k stop)) ∧ Mod [] w w' := by
  obtain ⟨ab, cb, rfl⟩ := h.rd.val
  have c0 := h.has.cell 0 rfl
  have c1 := h.has.cell 1 rfl
  have c2 := h.has.cell 2 rfl
  have hle := h.le
  have hm := Lib.hid (fun n => (Mod.refl [] w).drewN n)
  clear h
  cases stop with
  | true =>
    go_enter Try.func52, Try.ntmps52
    go_wp2_with fail
    go_quiet (fail)
    go_wp2_with fail
    go_ret
    exact ⟨rfl, hm.out _⟩
  | false =>
    by_cases hk : k = bs.length
    · have t : ((k : Int) != (bs.length : Int)) = false := by simp [hk]
      have e1 : rEnd bs k false = 0 := by simp [rEnd]; omega
      rw [e1]
      clear hk e1
      go_enter Try.func52, Try.ntmps52
      go_wp2_with fail
      go_quiet (fail)
      go_wp2_with fail
      go_ret
      exact ⟨rfl, hm.out _⟩
    · have t : ((k : Int) != (bs.length : Int)) = true := by simp; omega
      have e1 : rEnd bs k false = 17 := by simp [rEnd]; omega
      rw [e1]
      clear hk e1
      go_enter Try.func52, Try.ntmps52
      go_wp2_with fail
      go_quiet (fail)
      go_wp2_with fail
      go_ret
      exact ⟨rfl, hm.out _⟩
end Code
end Go.Proofs.Ytmkbinbggiocaaa

set_option linter.unusedVariables false
set_option linter.unusedSimpArgs false
namespace Go.Proofs.Ytmkbinbggiocaaa
open Go.RowKit
namespace Code
theorem lit300 : ([] : List Int) ++ natB 300 = [172, 2] := by rw [natB_big (by omega), natB_small (by omega)]; rfl
theorem lit1 : [172, 2] ++ natB (signN (-1)) = [172, 2, 1] := by rw [show signN (-1) = 1 from by decide, natB_small (by omega)]; rfl
theorem read1 : rNat [172, 2, 1] 0 false = (300, 2, false) := by decide
theorem read2 : rNat [172, 2, 1] 2 false = (1, 3, false) := by decide
theorem bits09 : bitsOk 10 [0, 9] = true ∧ ([] : List Int) ++ bitsB (wideN 10) [0, 9] = [1, 2] := by decide
theorem lit_bytes : ∀ x ∈ ([172, 2, 1] : List Int), 0 ≤ x ∧ x < 256 := by decide
set_option maxHeartbeats 2000000 in
theorem awake_true (w : World) : Calls Try.prog 31 #[] w fun e w' => e = .returned (.bool true) ∧ Mod [] w w' := by
  have k1 : ∀ W, Calls Try.prog 32 #[.slice none 0 0, .int .u64 300] W (MadeOut 5 1 2 (u8s [172, 2]) W) := fun W => by
    have h := nat_any (w := W) (vb := .slice none 0 0) (bs := []) 300 (by omega) (Rd.nil W 1) (by simp)
    rw [lit300] at h; exact h
  have k2 : ∀ W v, Rd W 1 v 2 (u8s [172, 2]) → Calls Try.prog 34 #[v, .int .i64 (-1)] W (MadeOut 5 1 3 (u8s [172, 2, 1]) W) := fun W v hv => by
    have h := int_any (w := W) (vb := v) (bs := [172, 2]) (-1) (by omega) (by omega) hv (by simp)
    rw [lit1] at h; exact h
  have k3 : ∀ W v, Rd W 1 v 3 (u8s [172, 2, 1]) → _ := fun W v hv => new_any (w := W) (vb := v) (bs := [172, 2, 1]) hv (by simp)
  have k4 : ∀ W v, Rd W 1 v 2 (vi64 [0, 9]) → Calls Try.prog 36 #[.slice none 0 0, .int .i64 10, v] W fun e w' => ∃ a c, e = .returned (.tuple #[.slice a 2 c, .bool true]) ∧ Made W w' 5 1 a 2 c (u8s [1, 2]) := fun W v hv => by
    refine (bits_any (w := W) (vb := .slice none 0 0) (vl := v) (bs := []) 10 [0, 9] (Rd.nil W 1) (by simp) hv).mono fun e w' h => ?_
    simp only [BitsOut, bits09.1, if_true] at h
    rw [bits09.2] at h
    exact h
  go_enter Try.func31, Try.ntmps31
  go_wp2_with fail
  refine (k1 _).mono ?_
  rintro e w1 ⟨a1, c1, rfl, h1⟩
  dsimp only
  go_wp2_with fail
  refine (k2 _ _ (Rd.own h1.own)).mono ?_
  rintro e w2 ⟨a2, c2, rfl, h2⟩
  dsimp only
  go_wp2_with fail
  refine (k3 _ _ (Rd.own h2.own)).mono ?_
  rintro e w3 ⟨r, a3, c3, rfl, hR, h3, hr3, _⟩
  dsimp only
  go_wp2_with fail
  have hlit := made_lit w3 3 [.int .i64 0, .int .i64 9] (by simp)
  refine (k4 _ _ (Rd.own hlit.own)).mono ?_
  rintro e w4 ⟨a4, c4, rfl, h4⟩
  dsimp only
  have m34 := hlit.mod.trans h4.mod (by simp)
  have hR4 := hR.still m34
  go_wp2_with fail
  refine (rdNat hR4 lit_bytes).mono ?_
  intro e w5 h5
  unfold RNatOut at h5
  rw [read1] at h5
  obtain ⟨rfl, hR5, m5⟩ := h5
  dsimp only
  go_wp2_with fail
  refine (rdInt hR5 lit_bytes).mono ?_
  intro e w6 h6
  unfold RNatOut at h6
  rw [read2] at h6
  obtain ⟨rfl, hR6, m6⟩ := h6
  dsimp only
  have mr : r < w3.heap.size := hR.has.lt
  have n4 : ∀ g, (Value.slice a4 2 c4).ownBlock = some g → g ∉ [r] := fun g hg hm => by
    have h1 := h4.new g hg
    have h2 := hlit.mod.size
    simp only [List.mem_singleton] at hm
    omega
  have r4 := ((Rd.own h4.own).keep m5 n4).keep m6 n4
  have hw5 : Mod [] w w6 := ((((h1.mod.trans h2.mod (by simp)).trans h3 (by simp)).trans m34 (by simp)).trans m5 (fun b hb hlt => by have := h1.mod.size; have := h2.mod.size; simp only [List.mem_singleton] at hb; omega)).trans m6 (fun b hb hlt => by have := h1.mod.size; have := h2.mod.size; simp only [List.mem_singleton] at hb; omega)
  have q7 := Lib.hid (rdEnd hR6)
  have hR6' := Lib.hid r4
  have hw5' := Lib.hid hw5
  have u1 : unsign 1 = -1 := by decide
  clear hR hR4 hR5 hR6 hlit h1 h2 h3 h4 m34 m5 m6 mr n4 r4 hw5 k1 k2 k3 k4 hr3
  go_wp2_with fail
  refine q7.out.mono ?_
  rintro e w7 ⟨rfl, m7⟩
  have e7 : rEnd [172, 2, 1] 3 false = 0 := by decide
  rw [e7]
  dsimp only
  have hc := conv_rd (bs := [1, 2]) (hR6'.out.still m7)
  have hs : strOfNums [1, 2] = ⟨#[1, 2]⟩ := by decide
  rw [hs] at hc
  have hw7 := Lib.hid (hw5'.out.trans m7 (by simp))
  clear e7 hs m7
  go_wp2_with fail
  go_ret
  exact ⟨rfl, hw7.out⟩
end Code
end Go.Proofs.Ytmkbinbggiocaaa
