/- The reader: Bits. -/
import Derived.Test.YtmkbinbggiocaaaTz
import Derived.Test.YtmkbinbggiocaaaSched
import Derived.Test.YtmkbinbggiocaaaReader3
import Derived.Test.YtmkbinbggiocaaaCode4
set_option linter.unusedVariables false
set_option linter.unusedSimpArgs false
namespace Go.Proofs.Ytmkbinbggiocaaa
open Go.RowKit
namespace Code
theorem add_zero (ad : Addr) : ad.add 0 = ad := by
  obtain ⟨b, o, s⟩ := ad
  cases s <;> simp [Addr.add]
theorem slice_to {P : Program} {size : Nat} (t : TypeId) (ht : P.underlying t = some (.slice (P.elem t))) (hs : ∀ w : World, (sizeOf (P.elem t)).run P w = .ok size w) (a : Option Addr) (n c m : Nat) (h : m ≤ c) :
    ∀ w : World, (Instr.slice t (.slice a n c) none (some (.int .i64 (m : Int))) none).run P w = .ok (.slice a m c) w := by
  intro w
  rw [run_slice_h w t a n c ht .i64 m (by omega) (by omega), hs]
  cases a with
  | none => simp [Result.andThen, sliced]
  | some ad => simp [Result.andThen, sliced, add_zero]
theorem Rd_to {w : World} {n c m : Nat} {a : Option Addr} {xs : List Int} (h : Rd w 1 (.slice a n c) n (u8s xs)) (hm : m ≤ n) : Rd w 1 (.slice a m c) m (u8s (xs.take m)) := by
  have hl : xs.length = n := by have := h.1; simpa [u8s] using this
  refine ⟨by simp [u8s]; omega, ?_⟩
  rcases h.2 with ⟨he, h0⟩ | ⟨ad, c', he, h1, h2, h3⟩
  · simp only [Value.slice.injEq] at he
    obtain ⟨rfl, _, rfl⟩ := he
    exact .inl ⟨by rw [show m = 0 by omega], by omega⟩
  · simp only [Value.slice.injEq, true_and] at he
    obtain ⟨rfl, rfl⟩ := he
    refine .inr ⟨ad, c, rfl, by omega, h2, fun j u hu => h3 j u ?_⟩
    simp only [u8s, List.map_take, List.getElem?_take] at hu ⊢
    split at hu
    · exact hu
    · exact absurd hu (by simp)
/-- Is the last one below n? -/
def lastOk (n : Int) (l : List Int) : Bool := match l.getLast? with
  | none => true
  | some x => decide (x < n)
/-- What Bits reads, and where the reader is then. -/
def rBits (bs : List Int) (k : Nat) (stop : Bool) (n : Int) : List Int × Nat × Bool :=
  if n < 0 ∨ 4096 < n ∨ bs.length - k < wideN n then ([], k, true)
  else if stop || !lastOk n (setFrom 0 ((bs.drop k).take (wideN n))) then ([], k, true)
  else (setFrom 0 ((bs.drop k).take (wideN n)), k + wideN n, false)
def RBitsOut (w : World) (r : Nat) (a : Option Addr) (c : Nat) (bs : List Int) (k : Nat) (stop : Bool) (n : Int) (e : Ending) (w' : World) : Prop :=
  ∃ v, e = .returned v ∧ Rd w' 1 v (rBits bs k stop n).1.length (vi64 (rBits bs k stop n).1) ∧ (∀ g, v.ownBlock = some g → w.heap.size ≤ g) ∧ RAt w' r a c bs (rBits bs k stop n).2.1 (rBits bs k stop n).2.2 ∧ Mod [r] w w'
theorem rBits_no {w w' : World} {r c k : Nat} {a : Option Addr} {bs : List Int} {stop : Bool} {n : Int} (h : rBits bs k stop n = ([], k, true)) (hR : RAt w' r a c bs k true) (m : Mod [r] w w') : RBitsOut w r a c bs k stop n (.returned (.slice none 0 0)) w' := by
  unfold RBitsOut
  rw [h]
  exact ⟨_, rfl, Rd.nil _ _, by simp [Value.ownBlock], hR, m⟩
theorem stopped {w : World} {r c k : Nat} {a : Option Addr} {bs : List Int} {stop : Bool} (h : RAt w r a c bs k stop) : RAt (w.setCell ⟨r, 2, none⟩ (.bool true)) r a c bs k true ∧ Mod [r] w (w.setCell ⟨r, 2, none⟩ (.bool true)) := by
  have m : Mod [r] w (w.setCell ⟨r, 2, none⟩ (.bool true)) := (Mod.refl [r] w).setCell _ _ (by simp)
  exact ⟨h.moved m (h.has.set 2 (.bool true)) h.le, m⟩
set_option maxHeartbeats 2000000 in
theorem rdBits_out {w : World} {r c k : Nat} {a : Option Addr} {bs : List Int} {stop : Bool} (n : Int) (h : RAt w r a c bs k stop) (hn : n < 0 ∨ 4096 < n) :
    Calls Try.prog 46 #[.pointer (some ⟨r, 0, none⟩), .int .i64 n] w (RBitsOut w r a c bs k stop n) := by
  have e1 : rBits bs k stop n = ([], k, true) := by unfold rBits; rw [if_pos (by omega)]
  have hst := stopped h
  have hfin := Lib.hid (rBits_no e1 hst.1 hst.2)
  have fr := h.has.free 2
  have hlt := h.has.lt
  have c2 := h.has.cell 2 rfl
  clear h hst e1
  by_cases h0 : n < 0
  · have t1 : decide (n < 0) = true := by simpa using h0
    go_enter Try.func46, Try.ntmps46
    go_wp2_with fail
    go_ret
    exact hfin.out
  · have t1 : decide (n < 0) = false := by simpa using h0
    have t2 : decide (4096 < n) = true := by simp; omega
    go_enter Try.func46, Try.ntmps46
    go_wp2_with fail
    go_ret
    exact hfin.out
set_option maxHeartbeats 2000000 in
theorem rdBits_short {w : World} {r c k : Nat} {a : Option Addr} {bs : List Int} {stop : Bool} (n : Int) (h : RAt w r a c bs k stop) (h0 : 0 ≤ n) (h1 : n ≤ 4096) (hs : bs.length - k < wideN n) :
    Calls Try.prog 46 #[.pointer (some ⟨r, 0, none⟩), .int .i64 n] w (RBitsOut w r a c bs k stop n) := by
  have e1 : rBits bs k stop n = ([], k, true) := by unfold rBits; rw [if_pos (by omega)]
  have hl := Lib.hid (left_any h)
  have hlen : (bs.drop k).length = bs.length - k := List.length_drop
  have hfin : ∀ w1, Drawn w w1 → RAt w1 r a c bs k stop → ∀ w2, w2 = w1.setCell ⟨r, 2, none⟩ (.bool true) → RBitsOut w r a c bs k stop n (.returned (.slice none 0 0)) w2 := fun w1 hd hR w2 e => by
    subst e
    exact rBits_no e1 (stopped hR).1 (mod2 hd (stopped hR).2)
  have hfin' := Lib.hid hfin
  have h' := Lib.hid h
  have t1 : decide (n < 0) = false := by simp; omega
  have t2 : decide (4096 < n) = false := by simp; omega
  have hw := Lib.hid (fun W => wide_any n W h0 (by omega))
  clear hfin h e1
  generalize hxs : bs.drop k = xs at *
  have t3 : decide ((xs.length : Int) < (wideN n : Int)) = true := by simp; omega
  have t3' : decide (xs.length < wideN n) = true := by simp; omega
  clear hxs hlen
  go_enter Try.func46, Try.ntmps46
  go_wp2_with fail
  refine hl.out.mono ?_
  rintro e w1 ⟨v, rfl, hd, hr⟩
  obtain ⟨al, cl, rfl⟩ := hr.val
  dsimp only
  have hR1 := h'.out.still hd.mod
  have fr := hR1.has.free 2
  have hlt := hR1.has.lt
  have c2 := hR1.has.cell 2 rfl
  have hf := Lib.hid (hfin'.out w1 hd hR1)
  clear hr hd hR1 hl
  go_wp2_with fail
  refine (hw.out _).mono ?_
  rintro e w2 ⟨rfl, rfl⟩
  dsimp only
  go_wp2_with fail
  go_ret
  exact hf.out _ rfl
theorem infoInt : (Try.prog.info? 3).map (fun i => (i.zero, i.size, i.bytes)) = some (some (.int .i64 0), 1, 8) := by kernel_rfl
theorem low_len (b : Nat) : (low b).length ≤ 8 := by
  unfold low
  exact Nat.le_trans (List.length_filter_le _ _) (by simp)
theorem setFrom_len : ∀ (l : List Int) (i : Nat), (setFrom i l).length ≤ 8 * l.length
  | [], _ => by simp [setFrom]
  | x :: l, i => by
    have h1 := setFrom_len l (i + 1)
    have h2 := low_len x.toNat
    simp only [setFrom, List.length_append, List.length_map, List.length_cons]
    omega
theorem and_pred (b : Nat) (h0 : 0 < b) (h1 : b < 256) : bits .and .u8 (b : Int) ((b : Int) - 1) = ((b &&& (b - 1) : Nat) : Int) := by
  have h := u8_and (b : Int) ((b : Int) - 1) (by omega) (by omega) (by omega) (by omega)
  rw [h]
  congr 2
  omega
set_option maxRecDepth 100000 in
set_option maxHeartbeats 4000000 in
theorem rdBits_main {w : World} {r c k : Nat} {a : Option Addr} {bs : List Int} {stop : Bool} (n : Int) (h : RAt w r a c bs k stop) (hbb : ∀ x ∈ bs, 0 ≤ x ∧ x < 256) (h0 : 0 ≤ n) (h1 : n ≤ 4096) (hs : wideN n ≤ bs.length - k) :
    Calls Try.prog 46 #[.pointer (some ⟨r, 0, none⟩), .int .i64 n] w (RBitsOut w r a c bs k stop n) := by
  have hlen : (bs.drop k).length = bs.length - k := List.length_drop
  have hl := Lib.hid (fun W (h : RAt W r a c bs k stop) => left_any h)
  have hout : Hid (∀ w' v, Rd w' 1 v (setFrom 0 ((bs.drop k).take (wideN n))).length (vi64 (setFrom 0 ((bs.drop k).take (wideN n)))) → (∀ g, v.ownBlock = some g → w.heap.size ≤ g) → Mod [r] w w' →
      (stop = false → lastOk n (setFrom 0 ((bs.drop k).take (wideN n))) = true → RAt w' r a c bs (k + wideN n) false → RBitsOut w r a c bs k stop n (.returned v) w') ∧
      (stop = true ∨ lastOk n (setFrom 0 ((bs.drop k).take (wideN n))) = false → RAt w' r a c bs k true → RBitsOut w r a c bs k stop n (.returned (.slice none 0 0)) w')) := fun w' v hv hvn hm => by
    refine ⟨fun hst hlo hR => ?_, fun hno hR => ?_⟩
    · have e1 : rBits bs k stop n = (setFrom 0 ((bs.drop k).take (wideN n)), k + wideN n, false) := by
        unfold rBits; rw [if_neg (by omega), if_neg (by simp [hst, hlo])]
      unfold RBitsOut
      rw [e1]
      exact ⟨v, rfl, hv, hvn, hR, hm⟩
    · have e1 : rBits bs k stop n = ([], k, true) := by
        unfold rBits; rw [if_neg (by omega), if_pos (by rcases hno with h | h <;> simp [h])]
      exact rBits_no e1 hR hm
  have h' := Lib.hid h
  have hbd : Hid (∀ x ∈ (bs.drop k).take (wideN n), 0 ≤ x ∧ x < 256) := fun x hx => hbb x (List.mem_of_mem_drop (List.mem_of_mem_take hx))
  have t1 : decide (n < 0) = false := by simp; omega
  have t2 : decide (4096 < n) = false := by simp; omega
  have hw := Lib.hid (fun W => wide_any n W h0 (by omega))
  have hW : wideN n ≤ 513 := by unfold wideN; omega
  have hkw : Hid (k + wideN n ≤ bs.length) := by show k + wideN n ≤ bs.length; have := h.le; omega
  have hyl : ((bs.drop k).take (wideN n)).length = wideN n := by rw [List.length_take]; omega
  clear h hbb
  generalize hxs : bs.drop k = xs at *
  have t3 : decide ((xs.length : Int) < (wideN n : Int)) = false := by simp; omega
  have t3' : decide (xs.length < wideN n) = false := by simp; omega
  have hWx : Hid (wideN n ≤ xs.length) := by show wideN n ≤ xs.length; omega
  generalize hm : wideN n = m at *
  generalize hys : xs.take m = ys at *
  have hys' := Lib.hid hys
  have hyl' := Lib.hid hyl
  clear hxs hlen hs hm hys hyl
  go_enter Try.func46, Try.ntmps46
  go_wp2_with fail
  refine (hl.out _ h'.out).mono ?_
  rintro e w1 ⟨v, rfl, hd, hr⟩
  obtain ⟨al, cl, rfl⟩ := hr.val
  dsimp only
  have hd' := Lib.hid hd
  clear hr hd
  go_wp2_with fail
  refine (hw.out _).mono ?_
  rintro e w1' ⟨rfl, rfl⟩
  dsimp only
  go_wp2_with fail
  refine (hl.out _ (h'.out.still hd'.out.mod)).mono ?_
  rintro e w2 ⟨v, rfl, hd2, hr⟩
  obtain ⟨al2, cl2, rfl⟩ := hr.val
  dsimp only
  have hmc : m ≤ cl2 := by
    rcases hr.2 with ⟨he, hz⟩ | ⟨ad, c', he, hz, _⟩
    · have := hWx.out; omega
    · simp only [Value.slice.injEq, true_and] at he
      obtain ⟨_, rfl⟩ := he
      have := hWx.out; omega
  have hsl := slice_to (P := Try.prog) (size := 1) 45 (by kernel_rfl) (fun w => by kernel_rfl) al2 xs.length cl2 m hmc
  have hry := Rd_to hr hWx.out
  rw [hys'.out] at hry
  have hry' := Lib.hid hry
  have hm12 := Lib.hid (hd'.out.mod.trans hd2.mod (by simp))
  clear hr hd2 hry
  go_wp2_with fail
  refine (hw.out _).mono ?_
  rintro e w2' ⟨rfl, rfl⟩
  dsimp only
  go_wp2_with fail
  go_loopw [6, 40] (fun ov iv wr => ∃ (i : Nat) (ao : Option Addr) (co : Nat), i ≤ m ∧ iv = .int .i64 i ∧ ov = .slice ao (setFrom 0 (ys.take i)).length co ∧ Made w2 wr 3 1 ao (setFrom 0 (ys.take i)).length co (vi64 (setFrom 0 (ys.take i)))) (fun ov iv _ => m - (intOf iv).toNat)
  case atStart => exact ⟨0, none, 0, Nat.zero_le _, rfl, rfl, ⟨World.ownsRow_nil _ _ _ _, Mod.refl _ _, by simp [Value.ownBlock]⟩⟩
  case round =>
    obtain ⟨i, ao, co, him, rfl, rfl, hmd⟩ := hrel
    obtain ⟨wo, hwo⟩ : ∃ wo : World, wo = wr := ⟨_, rfl⟩
    clear hwo
    by_cases hlt : i < m
    · obtain ⟨x, hx⟩ : ∃ x, ys[i]? = some x := ⟨ys[i]'(by rw [hyl'.out]; exact hlt), List.getElem?_eq_getElem _⟩
      have hxb := hbd.out x (List.mem_of_getElem? hx)
      obtain ⟨b0, rfl⟩ := Int.eq_ofNat_of_zero_le hxb.1
      have hb0 : b0 < 256 := by have := hxb.2; omega
      obtain ⟨g, o, rfl, _, _, hcell⟩ := (hry'.out.still hmd.mod).at (by rw [u8s_length, hyl'.out]; omega)
      have hc := hcell i _ (u8s_get hx)
      have hnext : setFrom 0 (ys.take (i + 1)) = setFrom 0 (ys.take i) ++ (low b0).map (fun k => ((8 * i + k : Nat) : Int)) := by
        rw [List.take_add_one, hx]
        simp only [Option.toList_some]
        rw [setFrom_append]
        have : (ys.take i).length = i := by rw [List.length_take, hyl'.out]; omega
        rw [this]
        simp [setFrom]
      have hblen := setFrom_len (ys.take i) 0
      rw [List.length_take, hyl'.out] at hblen
      generalize setFrom 0 (ys.take i) = B0 at *
      have hnext' := Lib.hid hnext
      clear hcell hx hxb hnext
      go_wp2_with fail
      go_loopw [6, 8] (fun ov xv wr' => ∃ (b : Nat) (L : List Int) (ao : Option Addr) (co : Nat), b < 256 ∧ xv = .int .u8 b ∧ ov = .slice ao L.length co ∧ L ++ (low b).map (fun k => ((8 * i + k : Nat) : Int)) = B0 ++ (low b0).map (fun k => ((8 * i + k : Nat) : Int)) ∧ Made w2 wr' 3 1 ao L.length co (vi64 L)) (fun ov xv _ => (intOf xv).toNat)
      case atStart => exact ⟨b0, B0, ao, co, hb0, rfl, rfl, rfl, hmd⟩
      case round =>
        clear hmd
        obtain ⟨b, L, ao1, co1, hb, rfl, rfl, hL, hmd⟩ := hrel
        obtain ⟨wo, hwo⟩ : ∃ wo : World, wo = wr := ⟨_, rfl⟩
        clear hwo
        by_cases hbz : b = 0
        · subst hbz
          have t4 : (((0 : Nat) : Int) != 0) = false := by simp
          rw [low_zero] at hL
          simp only [List.map_nil, List.append_nil] at hL
          have hL' := Lib.hid (hL.trans hnext'.out.symm)
          clear hL
          go_wp2_with fail
          go_roundw
          case rel => exact ⟨i + 1, ao1, co1, by omega, by go_num, by rw [← hL'.out], by rw [← hL'.out]; exact hmd⟩
          case measure => simp [intOf]; omega
        · have t4 : ((b : Int) != 0) = true := by simp; omega
          obtain ⟨q, hq1, hq2, hq3, hq4⟩ := low_and b (by omega) hb
          have htz := tz_any b hb
          rw [hq3] at htz
          simp only [Option.getD_some] at htz
          have htz' := Lib.hid htz
          have hap := and_pred b (by omega) hb
          have hLl : L.length ≤ 4200 := by
            have := congrArg List.length hL
            have h8 := low_len b0
            simp only [List.length_append, List.length_map] at this
            omega
          have hq1' := Lib.hid hq1
          have hL' := Lib.hid hL
          have hb1 : 1 ≤ b := by omega
          clear htz hq1 hL hbz hq3
          generalize hbb : b &&& (b - 1) = b' at *
          clear hbb
          go_wp2_with (first
            | (go_at_call 104; refine (htz'.out _).mono ?_; rintro e w3 ⟨rfl, rfl⟩)
            | (at_builtin; refine app_own rfl (.tmp 51) (.tmp 57) 36 3 _ 1 8 rfl Try.underlying36 infoInt rfl (by omega) (by omega) (.slice ao1 L.length co1) L.length 1 (vi64 L) [.int .i64 (8 * (i : Int) + (q : Int))] rfl rfl (by simp) rfl (by simp [Value.oneCell']) hmd.own (by omega) ?_; intro aA cA wA hA mA vA))
          go_roundw
          case rel =>
            refine ⟨b', L ++ [((8 * i + q : Nat) : Int)], aA, cA, by omega, by simp, by simp, ?_, ?_⟩
            · rw [← hL'.out, hq1'.out]; simp
            · have := hmd.push hA mA vA
              rw [List.length_append]
              rw [show vi64 (L ++ [((8 * i + q : Nat) : Int)]) = vi64 L ++ [.int .i64 (8 * (i : Int) + (q : Int))] from by simp [vi64]]
              exact this
          case measure => simp [intOf]; omega
    · have hie : m = i := by omega
      subst hie
      have htk : ys.take m = ys := List.take_of_length_le (by rw [hyl'.out]; omega)
      rw [htk] at hmd ⊢
      clear htk
      generalize hO : setFrom 0 ys = O at *
      clear hO
      have hOl : O.length ≤ 9223372036854775807 := (Rd.own hmd.own).le
      have hr2 : r < w2.heap.size := by have := h'.out.has.lt; have := hm12.out.size; omega
      have hne : Hid (∀ g, (Value.slice ao O.length co).ownBlock = some g → g ∉ [r]) := fun g hg hm => by
        have := hmd.new g hg
        simp only [List.mem_singleton] at hm
        omega
      have hmw := hm12.out.trans hmd.mod (by simp)
      have hRd := Lib.hid ((h'.out.still hmw).still (Mod.refl [] wr).drew)
      have hfo : Hid (∀ w3, Mod [r] wr.drew w3 →
          (stop = false → lastOk n O = true → RAt w3 r a c bs (k + m) false → RBitsOut w r a c bs k stop n (.returned (.slice ao O.length co)) w3) ∧
          (stop = true ∨ lastOk n O = false → RAt w3 r a c bs k true → RBitsOut w r a c bs k stop n (.returned (.slice none 0 0)) w3)) := fun w3 hm3 =>
        hout.out w3 (.slice ao O.length co) (((Rd.own hmd.own).still (Mod.refl [] wr).drew).keep hm3 hne.out) (fun g hg => by have := hmd.new g hg; have := hm12.out.size; omega) (((hmw.trans (Mod.refl [] wr).drew (by simp)).of0).trans hm3 (fun b hb _ => hb))
      by_cases hOe : O = []
      · subst hOe
        have hlo : Hid (lastOk n [] = true) := by show lastOk n [] = true; rfl
        have t5 : ((([] : List Int).length : Int) == 0) = true := rfl
        clear hmd hout hl
        go_wp2_with fail
        refine region_sched (G := Mod [r]) [([0,1,2,3,4,5,6,7,8,9,10,11,12,13,14,15,16,17],18)] [19] (by kernel_rfl) (by kernel_rfl) (by kernel_rfl) rfl (Mod.refl [r]) (trM r) ?_
        simp only [stages, pickO, nthO, headO, List.cons_append, List.nil_append]
        refine sched_step ?_
        repeat (go_big_quiet_step (fail))
        refine wpQuiet_nil ?_
        intro K hK
        rw [if_pos (by rfl)]
        go_simp
        cases stop with
        | true =>
          refine (take_no hRd.out (m : Int) true (.inl rfl)).mono ?_
          rintro e w3 ⟨rfl, hR, hm3⟩
          dsimp only
          refine hK.out _ _ hm3 ?_
          clear hK K
          refine sched_last ?_
          repeat (go_big_quiet_step (fail))
          refine wpQuiet_nil ?_
          have hfin := Lib.hid ((hfo.out w3 hm3).2 (.inl rfl) hR)
          clear hR hm3
          go_wp2_with fail
          go_ret
          exact hfin.out
        | false =>
          refine (take_yes hRd.out m hkw.out).mono ?_
          rintro e w3 ⟨rfl, hR, hm3⟩
          dsimp only
          refine hK.out _ _ hm3 ?_
          clear hK K
          refine sched_last ?_
          repeat (go_big_quiet_step (fail))
          refine wpQuiet_nil ?_
          have hfin := Lib.hid ((hfo.out w3 hm3).1 rfl hlo.out hR)
          clear hR hm3
          go_wp2_with fail
          go_ret
          exact hfin.out
      · have hOp : 0 < O.length := List.length_pos_iff.2 hOe
        obtain ⟨x, hx⟩ : ∃ x, O[O.length - 1]? = some x := ⟨O[O.length - 1], List.getElem?_eq_getElem (by omega)⟩
        have hlast : O.getLast? = some x := by rw [List.getLast?_eq_getElem?]; exact hx
        obtain ⟨gO, rfl⟩ := hmd.form hOp
        have t5 : ((O.length : Int) == 0) = false := by simp; exact hOe
        have hlc : ∀ mm : Fut (Mod [r]) wr.drew, mm.v.cell? ⟨gO, O.length - 1, none⟩ = some (.int .i64 x) := fun mm => by
          have := (((Rd.own hmd.own).still (Mod.refl [] wr).drew).keep mm.of hne.out).cellAt (O.length - 1) (vi64_get hx)
          rwa [Nat.zero_add] at this
        generalize hN : O.length = NN at *
        have hw1 : IntKind.i64.wrap ((NN : Int) - 1) = (NN : Int) - 1 := IntWalk.i64_in _ (by omega)
        have hw2 : 0 ≤ (NN : Int) - 1 := by omega
        have hw3 : (NN : Int) - 1 < NN := by omega
        have hw4 : ((NN : Int) - 1).toNat = NN - 1 := by omega
        have hw5 : NN - 1 < NN := by omega
        have hw6 : 1 ≤ NN := hOp
        have hlo0 : lastOk n O = decide (x < n) := by unfold lastOk; rw [hlast]
        have hlo1 := Lib.hid hlo0
        have hN' := Lib.hid hN
        clear hmd hout hl hx hlast hOe hOp hlo0 hN
        by_cases hxn : x < n
        · have t6 : decide (x < n) = true := by simpa using hxn
          have hlo : Hid (lastOk n O = true) := by show lastOk n O = true; rw [hlo1.out, t6]
          clear hxn
          go_wp2_with fail
          refine region_sched (G := Mod [r]) [([0,1,2,3,4,5,6,7,8,9,10,11,12,13,14,15,16,17],18)] [19] (by kernel_rfl) (by kernel_rfl) (by kernel_rfl) rfl (Mod.refl [r]) (trM r) ?_
          simp only [stages, pickO, nthO, headO, List.cons_append, List.nil_append]
          refine sched_step ?_
          repeat (go_big_quiet_step (fail))
          refine wpQuiet_nil ?_
          intro K hK
          rw [if_pos (by rfl)]
          go_simp
          cases stop with
          | true =>
            refine (take_no hRd.out (m : Int) true (.inl rfl)).mono ?_
            rintro e w3 ⟨rfl, hR, hm3⟩
            dsimp only
            refine hK.out _ _ hm3 ?_
            clear hK K
            refine sched_last ?_
            repeat (go_big_quiet_step (fail))
            refine wpQuiet_nil ?_
            have hfin := Lib.hid ((hfo.out w3 hm3).2 (.inl rfl) hR)
            clear hR hm3
            go_wp2_with fail
            go_ret
            exact hfin.out
          | false =>
            refine (take_yes hRd.out m hkw.out).mono ?_
            rintro e w3 ⟨rfl, hR, hm3⟩
            dsimp only
            refine hK.out _ _ hm3 ?_
            clear hK K
            refine sched_last ?_
            repeat (go_big_quiet_step (fail))
            refine wpQuiet_nil ?_
            have hfin := Lib.hid ((hfo.out w3 hm3).1 rfl hlo.out hR)
            clear hR hm3
            go_wp2_with fail
            go_ret
            exact hfin.out
        · have t6 : decide (x < n) = false := by simpa using hxn
          have hlo : Hid (lastOk n O = false) := by show lastOk n O = false; rw [hlo1.out, t6]
          clear hxn
          go_wp2_with fail
          refine region_sched (G := Mod [r]) [([0,1,2,3,4,5,6,7,8,9,10,11,12,13,14,15,16,17],18)] [19] (by kernel_rfl) (by kernel_rfl) (by kernel_rfl) rfl (Mod.refl [r]) (trM r) ?_
          simp only [stages, pickO, nthO, headO, List.cons_append, List.nil_append]
          refine sched_step ?_
          repeat (go_big_quiet_step (fail))
          refine wpQuiet_nil ?_
          intro K hK
          rw [if_pos (by rfl)]
          go_simp
          refine (take_no hRd.out (m : Int) false (.inr rfl)).mono ?_
          rintro e w3 ⟨rfl, hR, hm3⟩
          dsimp only
          refine hK.out _ _ hm3 ?_
          clear hK K
          refine sched_last ?_
          repeat (go_big_quiet_step (fail))
          refine wpQuiet_nil ?_
          have hfin := Lib.hid ((hfo.out w3 hm3).2 (.inr hlo.out) hR)
          clear hR hm3
          go_wp2_with fail
          go_ret
          exact hfin.out
theorem rdBits {w : World} {r c k : Nat} {a : Option Addr} {bs : List Int} {stop : Bool} (n : Int) (h : RAt w r a c bs k stop) (hbb : ∀ x ∈ bs, 0 ≤ x ∧ x < 256) :
    Calls Try.prog 46 #[.pointer (some ⟨r, 0, none⟩), .int .i64 n] w (RBitsOut w r a c bs k stop n) := by
  by_cases hn : n < 0 ∨ 4096 < n
  · exact rdBits_out n h hn
  · by_cases hs : bs.length - k < wideN n
    · exact rdBits_short n h (by omega) (by omega) hs
    · exact rdBits_main n h hbb (by omega) (by omega) (by omega)
end Code
end Go.Proofs.Ytmkbinbggiocaaa
