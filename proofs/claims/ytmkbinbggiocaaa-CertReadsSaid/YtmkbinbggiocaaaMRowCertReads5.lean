/- Mark of the reference's reader. A call of the program's reader, by its number. A call of the reference's reader, by its number. The reader's methods of nil. Whether two slices hold the same numbers; slices that are only read. CodeBack: the walk. CodeReads: where both readers stand; the operations that are read out of the list. Certificates: what they are, their bytes; how they lie in memory. Certificates: Right, of the program. Certificates: Right, of the reference. Certificates: how each part of a vertex is put. Certificates: the parts; Encode of the program. -/
import Derived.Test.YtmkbinbggiocaaaMRowCertReads4
import Derived.Test.YtmkbinbggiocaaaMRowCertReads2
set_option linter.unusedVariables false
set_option linter.unusedSimpArgs false
namespace Go.Proofs.Ytmkbinbggiocaaa
open Go.RowKit
namespace Code
theorem isPre_str {xs : List Int} (s : ByteArray) (hx : ∀ x ∈ xs, 0 ≤ x ∧ x < 256) : ((strOfNums (xs.take s.size)).toList == s.toList) = isPre xs (bytesI s) := by
  have h := str_beq (a := xs.take s.size) (b := bytesI s) (fun x h => hx x (List.mem_of_mem_take h)) (bytesI_byte s)
  rw [str_bytesI] at h
  rw [h]
  unfold isPre
  rw [bytesI_len]
  by_cases e : xs.take s.size = bytesI s
  · rw [decide_eq_true e, decide_eq_true e.symm]
  · rw [decide_eq_false e, decide_eq_false (fun x => e x.symm)]
set_option maxRecDepth 100000 in
set_option maxHeartbeats 4000000 in
theorem xMark {w0 w : World} {r k : Nat} {vb : Value} {bs : List Int} {stop : Bool} (s : ByteArray) (hs : s.size ≤ 9223372036854775807) (h : XAt w0 w r vb bs k stop) (hbb : ∀ x ∈ bs, 0 ≤ x ∧ x < 256) :
    Calls Try.prog 110 #[.pointer (some ⟨r, 0, none⟩), .string s] w (XMarkOut w0 w r vb bs k stop (bytesI s)) := by
  obtain ⟨ab, cb, rfl⟩ := h.rd.val
  have hx : Hid (∀ x ∈ bs.drop k, 0 ≤ x ∧ x < 256) := fun x hx => hbb x (List.mem_of_mem_drop hx)
  have hdef : Hid (∀ b, isPre (bs.drop k) (bytesI s) = b → rMark bs k stop (bytesI s) = if stop || !b then (k, true) else (k + s.size, false)) := fun b hb => by
    unfold rMark
    rw [hb, bytesI_len]
  have hle := h.le
  have hbig := h.big
  have c0 := h.has.cell 0 rfl
  have c1 := h.has.cell 1 rfl
  have c2 := h.has.cell 2 rfl
  have fr1 := h.has.free 1
  have fr2 := h.has.free 2
  have hrl := h.has.lt
  have h' := Lib.hid h
  clear hbb
  by_cases hno : stop = true ∨ isPre (bs.drop k) (bytesI s) = false
  · have hfin : Hid (∀ nq, XMarkOut w0 w r (.slice ab bs.length cb) bs k stop (bytesI s) (.returned (.tuple #[])) ((w.drewN nq).setCell ⟨r, 2, none⟩ (.bool true))) := fun nq => by
      have hX := (h'.out.still ((Mod.refl [] w).drewN nq)).halt
      have e1 : rMark bs k stop (bytesI s) = (k, true) := by
        rw [hdef.out _ rfl]
        rcases hno with h | h <;> simp [h]
      unfold XMarkOut
      rw [e1]
      exact ⟨rfl, hX.1, trM r _ _ _ ((Mod.refl [r] w).drewN nq) hX.2⟩
    cases stop with
    | true =>
      clear hno hdef h
      go_enter Try.func110, Try.ntmps110
      go_wp2_with fail
      go_quiet (fail)
      go_wp2_with fail
      go_end0
      exact hfin.out _
    | false =>
      have hq0 : isPre (bs.drop k) (bytesI s) = false := by simpa using hno
      have hw3 : IntKind.i64.wrap ((bs.length : Int) - (k : Int)) = (bs.length : Int) - (k : Int) := IntWalk.i64_in _ (by omega)
      by_cases hsh : bs.length - k < s.size
      · have t3 : decide ((bs.length : Int) - (k : Int) < (s.size : Int)) = true := by simp; omega
        clear hno hdef h hq0 hsh
        go_enter Try.func110, Try.ntmps110
        go_wp2_with fail
        go_quiet (fail)
        go_wp2_with fail
        go_end0
        exact hfin.out _
      · have t3 : decide ((bs.length : Int) - (k : Int) < (s.size : Int)) = false := by simp; omega
        obtain ⟨a', c', hsl, hrd⟩ := slice_sub (P := Try.prog) 45 (by kernel_rfl) (fun w => by kernel_rfl) h.read k s.size (by omega) k ((k : Int) + s.size) rfl (by omega)
        have hyl : ((bs.drop k).take s.size).length = s.size := by rw [List.length_take, List.length_drop]; omega
        have hcv : ∀ n, (convert 45 9 (.slice a' s.size c')).run Try.prog (w.drewN n) = .ok (.string (strOfNums ((bs.drop k).take s.size))) (w.drewN n) := fun n => by
          have := hrd _ ((Mod.refl [] w).drewN n)
          exact conv_rd (by rw [hyl]; exact this)
        have hpre := isPre_str s hx.out
        rw [hq0] at hpre
        have hpre2 : ((strOfNums ((bs.drop k).take s.size)).toList != s.toList) = true := by rw [bne, hpre]; rfl
        have hw5 : IntKind.i64.wrap ((k : Int) + (s.size : Int)) = (k : Int) + (s.size : Int) := IntWalk.i64_in _ (by omega)
        generalize strOfNums ((bs.drop k).take s.size) = sx at *
        clear hno hdef h hq0 hsh hrd hyl
        go_enter Try.func110, Try.ntmps110
        go_wp2_with fail
        go_quiet (fail)
        go_wp2_with fail
        go_end0
        exact hfin.out _
  · have hs0 : stop = false := by cases stop <;> simp_all
    have hq0 : isPre (bs.drop k) (bytesI s) = true := by cases h : isPre (bs.drop k) (bytesI s) <;> simp_all
    subst hs0
    have hsl0 := isPre_len hq0
    rw [List.length_drop, bytesI_len] at hsl0
    have hks : k + s.size ≤ bs.length := by omega
    have hfin : Hid (∀ nq, ∀ v, v = (((k + s.size : Nat) : Int)) → XMarkOut w0 w r (.slice ab bs.length cb) bs k false (bytesI s) (.returned (.tuple #[])) ((w.drewN nq).setCell ⟨r, 1, none⟩ (.int .i64 v))) := fun nq v e => by
      subst e
      have hX := (h'.out.still ((Mod.refl [] w).drewN nq)).go (k + s.size) hks
      unfold XMarkOut
      rw [hdef.out _ hq0]
      exact ⟨rfl, by simpa using hX.1, trM r _ _ _ ((Mod.refl [r] w).drewN nq) hX.2⟩
    have hw3 : IntKind.i64.wrap ((bs.length : Int) - (k : Int)) = (bs.length : Int) - (k : Int) := IntWalk.i64_in _ (by omega)
    have t3 : decide ((bs.length : Int) - (k : Int) < (s.size : Int)) = false := by simp; omega
    obtain ⟨a', c', hsl, hrd⟩ := slice_sub (P := Try.prog) 45 (by kernel_rfl) (fun w => by kernel_rfl) h.read k s.size (by omega) k ((k : Int) + s.size) rfl (by omega)
    have hyl : ((bs.drop k).take s.size).length = s.size := by rw [List.length_take, List.length_drop]; omega
    have hcv : ∀ n, (convert 45 9 (.slice a' s.size c')).run Try.prog (w.drewN n) = .ok (.string (strOfNums ((bs.drop k).take s.size))) (w.drewN n) := fun n => by
      have := hrd _ ((Mod.refl [] w).drewN n)
      exact conv_rd (by rw [hyl]; exact this)
    have hpre := isPre_str s hx.out
    rw [hq0] at hpre
    have hpre2 : ((strOfNums ((bs.drop k).take s.size)).toList != s.toList) = false := by rw [bne, hpre]; rfl
    have hw5 : IntKind.i64.wrap ((k : Int) + (s.size : Int)) = (k : Int) + (s.size : Int) := IntWalk.i64_in _ (by omega)
    generalize strOfNums ((bs.drop k).take s.size) = sx at *
    clear hno hdef h hq0 hsl0 hrd hyl
    go_enter Try.func110, Try.ntmps110
    go_wp2_with fail
    go_quiet (fail)
    go_wp2_with fail
    go_end0
    exact hfin.out _ _ (by omega)
end Code
end Go.Proofs.Ytmkbinbggiocaaa

set_option linter.unusedVariables false
set_option linter.unusedSimpArgs false
namespace Go.Proofs.Ytmkbinbggiocaaa
open Go.RowKit
namespace Code
/-- What a call of a reader answers, as numbers, and where the reader is then. -/
def rDo (bs : List Int) (k : Nat) (stop : Bool) (K N : Int) (ss : List Int) : List Int × Nat × Bool :=
  if K = 0 then ([IntKind.i64.wrap ((rNat bs k stop).1 : Int)], (rNat bs k stop).2)
  else if K = 1 then ([unsign (rNat bs k stop).1], (rNat bs k stop).2)
  else if K = 2 then ([((rCount bs k stop).1 : Int)], (rCount bs k stop).2)
  else if K = 3 then rBits bs k stop N
  else ([], rMark bs k stop ss)
def RDoOut (w : World) (r : Nat) (a : Option Addr) (c : Nat) (bs : List Int) (k : Nat) (stop : Bool) (K N : Int) (ss : List Int) (e : Ending) (w' : World) : Prop :=
  ∃ v, e = .returned v ∧ Rd w' 1 v (rDo bs k stop K N ss).1.length (vi64 (rDo bs k stop K N ss).1) ∧ (∀ g, v.ownBlock = some g → w.heap.size ≤ g) ∧ RAt w' r a c bs (rDo bs k stop K N ss).2.1 (rDo bs k stop K N ss).2.2 ∧ Mod [r] w w'
theorem rddo_one {w : World} {r c k : Nat} {a : Option Addr} {bs : List Int} {stop : Bool} {K N : Int} {ss : List Int} {w1 : World} (x : Int) (h : (rDo bs k stop K N ss).1 = [x]) (hR : RAt w1 r a c bs (rDo bs k stop K N ss).2.1 (rDo bs k stop K N ss).2.2) (m : Mod [r] w w1) (hr : r < w.heap.size) :
    ∀ v, v = x → RDoOut w r a c bs k stop K N ss (.returned (.slice (some ⟨w1.heap.size, 0, none⟩) 1 1)) (w1.alloc (.cells #[.int .i64 v] 3)) := by
  intro v e
  subst e
  have hm := made_lit w1 3 [.int .i64 v] (by simp)
  unfold RDoOut
  rw [h]
  refine ⟨_, rfl, Rd.own hm.own, fun g hg => ?_, hR.still ((Mod.refl [] w1).alloc _), m.alloc _⟩
  exact Nat.le_trans m.size (hm.new g hg)
set_option maxHeartbeats 4000000 in
theorem rdDo {w : World} {r c k : Nat} {a : Option Addr} {bs : List Int} {stop : Bool} (K N : Int) (s : ByteArray) (hs : s.size ≤ 9223372036854775807) (h : RAt w r a c bs k stop) (hbb : ∀ x ∈ bs, 0 ≤ x ∧ x < 256) :
    Calls Try.prog 50 #[.pointer (some ⟨r, 0, none⟩), .agg #[.int .i64 K, .int .i64 N, .string s]] w (RDoOut w r a c bs k stop K N (bytesI s)) := by
  obtain ⟨wb, hwb⟩ : ∃ wb, wb = w.alloc (.cells #[.int .i64 K, .int .i64 N, .string s] 78) := ⟨_, rfl⟩
  obtain ⟨B, hB⟩ : ∃ B, B = w.heap.size := ⟨_, rfl⟩
  have hbox : Has wb B [.int .i64 K, .int .i64 N, .string s] 78 := by rw [hwb, hB]; exact Has.new w _ _
  have hmw : Mod [] w wb := by rw [hwb]; exact (Mod.refl [] w).alloc _
  have hrl := h.has.lt
  have h' := Lib.hid (h.still hmw)
  have hmw' := Lib.hid hmw
  have b0 := hbox.cell 0 rfl
  have b1 := hbox.cell 1 rfl
  have b2 := hbox.cell 2 rfl
  have hBl := hbox.lt
  have hwb' := Lib.hid hwb
  have hB' := Lib.hid hB
  have hlt := rNat_lt (k := k) (stop := stop) hbb
  have hbb' := Lib.hid hbb
  clear h hbb hmw hwb hB hbox
  by_cases k0 : K = 0
  · have t0 : (K == 0) = true := by simp [k0]
    have e1 : rDo bs k stop K N (bytesI s) = ([IntKind.i64.wrap ((rNat bs k stop).1 : Int)], (rNat bs k stop).2) := by unfold rDo; rw [if_pos k0]
    have k0' := Lib.hid k0
    have e1' := Lib.hid e1
    clear k0 e1
    go_enter Try.func50, Try.ntmps50
    go_wp2_with fail
    rw [← hB'.out, ← hwb'.out]
    go_wp2_with fail
    refine (rdNat h'.out hbb'.out).mono ?_
    rintro e w1 ⟨rfl, hR, hm⟩
    try dsimp only
    have hfin := Lib.hid (rddo_one (K := K) (N := N) (ss := bytesI s) (IntKind.i64.wrap ((rNat bs k stop).1 : Int)) (by rw [e1'.out]) (by rw [e1'.out]; exact hR) (hmw'.out.of0.trans hm (fun b hb _ => hb)) hrl)
    clear hR hm
    generalize (rNat bs k stop).1 = n at *
    go_wp2_with fail
    go_ret
    exact hfin.out _ (by first | rfl | exact (IntWalk.i64_left _).symm)
  have t0 : (K == 0) = false := by simpa using k0
  by_cases k1 : K = 1
  · have t1 : (K == 1) = true := by simp [k1]
    have e1 : rDo bs k stop K N (bytesI s) = ([unsign (rNat bs k stop).1], (rNat bs k stop).2) := by unfold rDo; rw [if_neg k0]; rw [if_pos k1]
    have k1' := Lib.hid k1
    have e1' := Lib.hid e1
    clear k1 e1
    go_enter Try.func50, Try.ntmps50
    go_wp2_with fail
    rw [← hB'.out, ← hwb'.out]
    go_wp2_with fail
    refine (rdInt h'.out hbb'.out).mono ?_
    rintro e w1 ⟨rfl, hR, hm⟩
    try dsimp only
    have hfin := Lib.hid (rddo_one (K := K) (N := N) (ss := bytesI s) (unsign (rNat bs k stop).1) (by rw [e1'.out]) (by rw [e1'.out]; exact hR) (hmw'.out.of0.trans hm (fun b hb _ => hb)) hrl)
    clear hR hm
    generalize (rNat bs k stop).1 = n at *
    go_wp2_with fail
    go_ret
    exact hfin.out _ (by first | rfl | exact (IntWalk.i64_left _).symm)
  have t1 : (K == 1) = false := by simpa using k1
  by_cases k2 : K = 2
  · have t2 : (K == 2) = true := by simp [k2]
    have e1 : rDo bs k stop K N (bytesI s) = ([((rCount bs k stop).1 : Int)], (rCount bs k stop).2) := by unfold rDo; rw [if_neg k0]; rw [if_neg k1]; rw [if_pos k2]
    have k2' := Lib.hid k2
    have e1' := Lib.hid e1
    clear k2 e1
    go_enter Try.func50, Try.ntmps50
    go_wp2_with fail
    rw [← hB'.out, ← hwb'.out]
    go_wp2_with fail
    refine (rdCount h'.out hbb'.out).mono ?_
    rintro e w1 ⟨rfl, hR, hm⟩
    try dsimp only
    have hfin := Lib.hid (rddo_one (K := K) (N := N) (ss := bytesI s) (((rCount bs k stop).1 : Int)) (by rw [e1'.out]) (by rw [e1'.out]; exact hR) (hmw'.out.of0.trans hm (fun b hb _ => hb)) hrl)
    clear hR hm
    generalize (rCount bs k stop).1 = n at *
    go_wp2_with fail
    go_ret
    exact hfin.out _ (by first | rfl | exact (IntWalk.i64_left _).symm)
  have t2 : (K == 2) = false := by simpa using k2
  by_cases k3 : K = 3
  · have t3 : (K == 3) = true := by simp [k3]
    have e1 : rDo bs k stop K N (bytesI s) = rBits bs k stop N := by unfold rDo; rw [if_neg k0]; rw [if_neg k1]; rw [if_neg k2]; rw [if_pos k3]
    have k3' := Lib.hid k3
    have e1' := Lib.hid e1
    clear k0 k1 k2 k3 e1
    go_enter Try.func50, Try.ntmps50
    go_wp2_with fail
    rw [← hB'.out, ← hwb'.out]
    go_wp2_with fail
    refine (rdBits N h'.out hbb'.out).mono ?_
    rintro e w1 ⟨v, rfl, hv, hn, hR, hm⟩
    try dsimp only
    have hfin : RDoOut w r a c bs k stop K N (bytesI s) (.returned v) w1 := by
      unfold RDoOut
      rw [e1'.out]
      exact ⟨_, rfl, hv, fun g hg => Nat.le_trans hmw'.out.size (hn g hg), hR, hmw'.out.of0.trans hm (fun b hb _ => hb)⟩
    have hfin' := Lib.hid hfin
    clear hfin hv hn hR hm
    go_wp2_with fail
    go_ret
    exact hfin'.out
  have t3 : (K == 3) = false := by simpa using k3
  have e1 : rDo bs k stop K N (bytesI s) = ([], rMark bs k stop (bytesI s)) := by unfold rDo; rw [if_neg k0]; rw [if_neg k1]; rw [if_neg k2]; rw [if_neg k3]
  have e1' := Lib.hid e1
  clear k0 k1 k2 k3 e1
  go_enter Try.func50, Try.ntmps50
  go_wp2_with fail
  rw [← hB'.out, ← hwb'.out]
  go_wp2_with fail
  refine (rdMark s hs h'.out hbb'.out).mono ?_
  rintro e w1 ⟨rfl, hR, hm⟩
  try dsimp only
  have hfin : RDoOut w r a c bs k stop K N (bytesI s) (.returned (.slice none 0 0)) w1 := by
    unfold RDoOut
    rw [e1'.out]
    exact ⟨_, rfl, Rd.nil _ _, by simp [Value.ownBlock], hR, hmw'.out.of0.trans hm (fun b hb _ => hb)⟩
  have hfin' := Lib.hid hfin
  clear hfin hR hm
  go_wp2_with fail
  go_ret
  exact hfin'.out
end Code
end Go.Proofs.Ytmkbinbggiocaaa

set_option linter.unusedVariables false
set_option linter.unusedSimpArgs false
namespace Go.Proofs.Ytmkbinbggiocaaa
open Go.RowKit
namespace Code
def XDoOut (w0 w : World) (r : Nat) (vb : Value) (bs : List Int) (k : Nat) (stop : Bool) (K N : Int) (ss : List Int) (e : Ending) (w' : World) : Prop :=
  ∃ v, e = .returned v ∧ Rd w' 1 v (rDo bs k stop K N ss).1.length (vi64 (rDo bs k stop K N ss).1) ∧ (∀ g, v.ownBlock = some g → w.heap.size ≤ g) ∧ XAt w0 w' r vb bs (rDo bs k stop K N ss).2.1 (rDo bs k stop K N ss).2.2 ∧ Mod [r] w w'
theorem xdo_one {w0 w : World} {r k : Nat} {vb : Value} {bs : List Int} {stop : Bool} {K N : Int} {ss : List Int} {w1 : World} (x : Int) (h : (rDo bs k stop K N ss).1 = [x]) (hR : XAt w0 w1 r vb bs (rDo bs k stop K N ss).2.1 (rDo bs k stop K N ss).2.2) (m : Mod [r] w w1) (hr : r < w.heap.size) :
    ∀ v, v = x → XDoOut w0 w r vb bs k stop K N ss (.returned (.slice (some ⟨w1.heap.size, 0, none⟩) 1 1)) (w1.alloc (.cells #[.int .i64 v] 3)) := by
  intro v e
  subst e
  have hm := made_lit w1 3 [.int .i64 v] (by simp)
  unfold XDoOut
  rw [h]
  refine ⟨_, rfl, Rd.own hm.own, fun g hg => ?_, hR.still ((Mod.refl [] w1).alloc _), m.alloc _⟩
  exact Nat.le_trans m.size (hm.new g hg)
set_option maxHeartbeats 4000000 in
theorem xDo {w0 w : World} {r k : Nat} {vb : Value} {bs : List Int} {stop : Bool} (K N : Int) (s : ByteArray) (hs : s.size ≤ 9223372036854775807) (h : XAt w0 w r vb bs k stop) (hbb : ∀ x ∈ bs, 0 ≤ x ∧ x < 256) :
    Calls Try.prog 51 #[.pointer (some ⟨r, 0, none⟩), .agg #[.int .i64 K, .int .i64 N, .string s]] w (XDoOut w0 w r vb bs k stop K N (bytesI s)) := by
  obtain ⟨wb, hwb⟩ : ∃ wb, wb = w.alloc (.cells #[.int .i64 K, .int .i64 N, .string s] 78) := ⟨_, rfl⟩
  obtain ⟨B, hB⟩ : ∃ B, B = w.heap.size := ⟨_, rfl⟩
  have hbox : Has wb B [.int .i64 K, .int .i64 N, .string s] 78 := by rw [hwb, hB]; exact Has.new w _ _
  have hmw : Mod [] w wb := by rw [hwb]; exact (Mod.refl [] w).alloc _
  have hrl := h.has.lt
  have h' := Lib.hid (h.still hmw)
  have hmw' := Lib.hid hmw
  have b0 := hbox.cell 0 rfl
  have b1 := hbox.cell 1 rfl
  have b2 := hbox.cell 2 rfl
  have hBl := hbox.lt
  have hwb' := Lib.hid hwb
  have hB' := Lib.hid hB
  have hlt := rNat_lt (k := k) (stop := stop) hbb
  have hbb' := Lib.hid hbb
  clear h hbb hmw hwb hB hbox
  by_cases k0 : K = 0
  · have t0 : (K == 0) = true := by simp [k0]
    have e1 : rDo bs k stop K N (bytesI s) = ([IntKind.i64.wrap ((rNat bs k stop).1 : Int)], (rNat bs k stop).2) := by unfold rDo; rw [if_pos k0]
    have k0' := Lib.hid k0
    have e1' := Lib.hid e1
    clear k0 e1
    go_enter Try.func51, Try.ntmps51
    go_wp2_with fail
    rw [← hB'.out, ← hwb'.out]
    go_wp2_with fail
    refine (xNat h'.out hbb'.out).mono ?_
    rintro e w1 ⟨rfl, hR, hm⟩
    try dsimp only
    have hfin := Lib.hid (xdo_one (K := K) (N := N) (ss := bytesI s) (IntKind.i64.wrap ((rNat bs k stop).1 : Int)) (by rw [e1'.out]) (by rw [e1'.out]; exact hR) (hmw'.out.of0.trans hm (fun b hb _ => hb)) hrl)
    clear hR hm
    generalize (rNat bs k stop).1 = n at *
    go_wp2_with fail
    go_ret
    exact hfin.out _ (by first | rfl | exact (IntWalk.i64_left _).symm)
  have t0 : (K == 0) = false := by simpa using k0
  by_cases k1 : K = 1
  · have t1 : (K == 1) = true := by simp [k1]
    have e1 : rDo bs k stop K N (bytesI s) = ([unsign (rNat bs k stop).1], (rNat bs k stop).2) := by unfold rDo; rw [if_neg k0]; rw [if_pos k1]
    have k1' := Lib.hid k1
    have e1' := Lib.hid e1
    clear k1 e1
    go_enter Try.func51, Try.ntmps51
    go_wp2_with fail
    rw [← hB'.out, ← hwb'.out]
    go_wp2_with fail
    refine (xInt h'.out hbb'.out).mono ?_
    rintro e w1 ⟨rfl, hR, hm⟩
    try dsimp only
    have hfin := Lib.hid (xdo_one (K := K) (N := N) (ss := bytesI s) (unsign (rNat bs k stop).1) (by rw [e1'.out]) (by rw [e1'.out]; exact hR) (hmw'.out.of0.trans hm (fun b hb _ => hb)) hrl)
    clear hR hm
    generalize (rNat bs k stop).1 = n at *
    go_wp2_with fail
    go_ret
    exact hfin.out _ (by first | rfl | exact (IntWalk.i64_left _).symm)
  have t1 : (K == 1) = false := by simpa using k1
  by_cases k2 : K = 2
  · have t2 : (K == 2) = true := by simp [k2]
    have e1 : rDo bs k stop K N (bytesI s) = ([((rCount bs k stop).1 : Int)], (rCount bs k stop).2) := by unfold rDo; rw [if_neg k0]; rw [if_neg k1]; rw [if_pos k2]
    have k2' := Lib.hid k2
    have e1' := Lib.hid e1
    clear k2 e1
    go_enter Try.func51, Try.ntmps51
    go_wp2_with fail
    rw [← hB'.out, ← hwb'.out]
    go_wp2_with fail
    refine (xCount h'.out hbb'.out).mono ?_
    rintro e w1 ⟨rfl, hR, hm⟩
    try dsimp only
    have hfin := Lib.hid (xdo_one (K := K) (N := N) (ss := bytesI s) (((rCount bs k stop).1 : Int)) (by rw [e1'.out]) (by rw [e1'.out]; exact hR) (hmw'.out.of0.trans hm (fun b hb _ => hb)) hrl)
    clear hR hm
    generalize (rCount bs k stop).1 = n at *
    go_wp2_with fail
    go_ret
    exact hfin.out _ (by first | rfl | exact (IntWalk.i64_left _).symm)
  have t2 : (K == 2) = false := by simpa using k2
  by_cases k3 : K = 3
  · have t3 : (K == 3) = true := by simp [k3]
    have e1 : rDo bs k stop K N (bytesI s) = rBits bs k stop N := by unfold rDo; rw [if_neg k0]; rw [if_neg k1]; rw [if_neg k2]; rw [if_pos k3]
    have k3' := Lib.hid k3
    have e1' := Lib.hid e1
    clear k0 k1 k2 k3 e1
    go_enter Try.func51, Try.ntmps51
    go_wp2_with fail
    rw [← hB'.out, ← hwb'.out]
    go_wp2_with fail
    refine (xBits N h'.out hbb'.out).mono ?_
    rintro e w1 ⟨v, rfl, hv, hn, hR, hm⟩
    try dsimp only
    have hfin : XDoOut w0 w r vb bs k stop K N (bytesI s) (.returned v) w1 := by
      unfold XDoOut
      rw [e1'.out]
      exact ⟨_, rfl, hv, fun g hg => Nat.le_trans hmw'.out.size (hn g hg), hR, hmw'.out.of0.trans hm (fun b hb _ => hb)⟩
    have hfin' := Lib.hid hfin
    clear hfin hv hn hR hm
    go_wp2_with fail
    go_ret
    exact hfin'.out
  have t3 : (K == 3) = false := by simpa using k3
  have e1 : rDo bs k stop K N (bytesI s) = ([], rMark bs k stop (bytesI s)) := by unfold rDo; rw [if_neg k0]; rw [if_neg k1]; rw [if_neg k2]; rw [if_neg k3]
  have e1' := Lib.hid e1
  clear k0 k1 k2 k3 e1
  go_enter Try.func51, Try.ntmps51
  go_wp2_with fail
  rw [← hB'.out, ← hwb'.out]
  go_wp2_with fail
  refine (xMark s hs h'.out hbb'.out).mono ?_
  rintro e w1 ⟨rfl, hR, hm⟩
  try dsimp only
  have hfin : XDoOut w0 w r vb bs k stop K N (bytesI s) (.returned (.slice none 0 0)) w1 := by
    unfold XDoOut
    rw [e1'.out]
    exact ⟨_, rfl, Rd.nil _ _, by simp [Value.ownBlock], hR, hmw'.out.of0.trans hm (fun b hb _ => hb)⟩
  have hfin' := Lib.hid hfin
  clear hfin hR hm
  go_wp2_with fail
  go_ret
  exact hfin'.out
end Code
end Go.Proofs.Ytmkbinbggiocaaa

set_option linter.unusedVariables false
set_option linter.unusedSimpArgs false
namespace Go.Proofs.Ytmkbinbggiocaaa
open Go.RowKit
namespace Code
set_option maxHeartbeats 400000 in
theorem noneNat (w : World) : Calls Try.prog 48 #[.pointer none] w fun e w' => e = .returned (.int .u64 0) ∧ w = w' := by
  go_enter Try.func48, Try.ntmps48
  go_wp2_with fail
  go_ret
  exact ⟨rfl, rfl⟩
set_option maxHeartbeats 400000 in
theorem noneCount (w : World) : Calls Try.prog 43 #[.pointer none] w fun e w' => e = .returned (.int .i64 0) ∧ w = w' := by
  go_enter Try.func43, Try.ntmps43
  go_wp2_with fail
  go_ret
  exact ⟨rfl, rfl⟩
set_option maxHeartbeats 400000 in
theorem noneAt (w : World) : Calls Try.prog 49 #[.pointer none] w fun e w' => e = .returned (.int .i64 0) ∧ w = w' := by
  go_enter Try.func49, Try.ntmps49
  go_wp2_with fail
  go_ret
  exact ⟨rfl, rfl⟩
set_option maxHeartbeats 400000 in
theorem noneEnd (w : World) : Calls Try.prog 47 #[.pointer none] w fun e w' => e = .returned (.int .i64 17) ∧ w = w' := by
  go_enter Try.func47, Try.ntmps47
  go_wp2_with fail
  go_ret
  exact ⟨rfl, rfl⟩
set_option maxHeartbeats 400000 in
theorem noneInt (w : World) : Calls Try.prog 44 #[.pointer none] w fun e w' => e = .returned (.int .i64 0) ∧ w = w' := by
  have h0 : bits .and .u64 0 1 = 0 := by decide
  have h1 : bits .xor .i64 0 0 = 0 := by decide
  go_enter Try.func44, Try.ntmps44
  go_wp2_with fail
  refine (noneNat w).mono ?_
  rintro e w1 ⟨rfl, rfl⟩
  dsimp only
  go_wp2_with fail
  go_ret
  exact ⟨by rfl, rfl⟩
set_option maxHeartbeats 2000000 in
theorem noneDo (w : World) (K N : Int) (s : ByteArray) (hK : 0 ≤ K ∧ K < 3) : Calls Try.prog 50 #[.pointer none, .agg #[.int .i64 K, .int .i64 N, .string s]] w (MadeOut 3 1 1 [.int .i64 0] w) := by
  by_cases k0 : K = 0
  · subst k0
    go_enter Try.func50, Try.ntmps50
    go_wp2_with fail
    refine (noneNat _).mono ?_
    rintro e w1 ⟨rfl, rfl⟩
    try dsimp only
    go_wp2_with fail
    go_ret
    refine ⟨_, _, rfl, ?_⟩
    have h := (made_lit (w.alloc _) 3 [.int .i64 0] (by simp)).before ((Mod.refl [] w).alloc (.cells #[.int .i64 0, .int .i64 N, .string s] 78))
    simp only [World.size_alloc] at h
    exact h
  by_cases k1 : K = 1
  · subst k1
    go_enter Try.func50, Try.ntmps50
    go_wp2_with fail
    refine (noneInt _).mono ?_
    rintro e w1 ⟨rfl, rfl⟩
    try dsimp only
    go_wp2_with fail
    go_ret
    refine ⟨_, _, rfl, ?_⟩
    have h := (made_lit (w.alloc _) 3 [.int .i64 0] (by simp)).before ((Mod.refl [] w).alloc (.cells #[.int .i64 1, .int .i64 N, .string s] 78))
    simp only [World.size_alloc] at h
    exact h
  by_cases k2 : K = 2
  · subst k2
    go_enter Try.func50, Try.ntmps50
    go_wp2_with fail
    refine (noneCount _).mono ?_
    rintro e w1 ⟨rfl, rfl⟩
    try dsimp only
    go_wp2_with fail
    go_ret
    refine ⟨_, _, rfl, ?_⟩
    have h := (made_lit (w.alloc _) 3 [.int .i64 0] (by simp)).before ((Mod.refl [] w).alloc (.cells #[.int .i64 2, .int .i64 N, .string s] 78))
    simp only [World.size_alloc] at h
    exact h
  omega
end Code
end Go.Proofs.Ytmkbinbggiocaaa

set_option linter.unusedVariables false
set_option linter.unusedSimpArgs false
namespace Go.Proofs.Ytmkbinbggiocaaa
open Go.RowKit
namespace Code
theorem rd_cell {w : World} {xs : List Int} {k c : Nat} {a : Option Addr} (h : Rd w 1 (.slice a xs.length c) xs.length (vi64 xs)) (hk : k < xs.length) : ∃ g o, a = some ⟨g, o, none⟩ ∧ w.cell? ⟨g, o + k, none⟩ = some (.int .i64 (xs.getD k 0)) := by
  obtain ⟨g, o, rfl, _, _, hc⟩ := h.at (by rw [vi64_len]; omega)
  refine ⟨g, o, rfl, hc k _ (vi64_get ?_)⟩
  simp [List.getElem?_eq_getElem hk, List.getD_eq_getElem?_getD]
set_option maxHeartbeats 1000000 in
theorem ints_rd {w : World} {va vb : Value} {xs ys : List Int} (ha : Rd w 1 va xs.length (vi64 xs)) (hb : Rd w 1 vb ys.length (vi64 ys)) :
    Calls Try.prog 29 #[va, vb] w (BoolOut (eqI xs ys) w) := by
  obtain ⟨a1, c1, rfl⟩ := ha.val
  obtain ⟨a2, c2, rfl⟩ := hb.val
  have hm1 := ha.le
  by_cases hlen : xs.length = ys.length
  · have hd : ((xs.length : Int) != (ys.length : Int)) = false := by simp [hlen]
    have hout : (∀ k, k < xs.length → xs.getD k 0 = ys.getD k 0) → eqI xs ys = true := by
      intro h
      unfold eqI
      rw [decide_eq_true_eq]
      refine List.ext_getElem hlen fun i h1 h2 => ?_
      have := h i h1
      simpa [List.getD_eq_getElem?_getD, h1, h2] using this
    have hno : ∀ k, k < xs.length → xs.getD k 0 ≠ ys.getD k 0 → eqI xs ys = false := by
      intro k _ hne
      unfold eqI
      rw [decide_eq_false_iff_not]
      intro e; subst e; exact hne rfl
    have hout' := Lib.hid hout
    have hno' := Lib.hid hno
    have hlen' := Lib.hid hlen
    clear hout hno hlen
    go_enter Try.func29, Try.ntmps29
    go_wp2
    go_loopw [5] (fun i wr => ∃ k n : Nat, k ≤ xs.length ∧ i = .int .i64 k ∧ wr = w.drewN n ∧ ∀ j, j < k → xs.getD j 0 = ys.getD j 0) (fun i _ => xs.length - (intOf i).toNat)
    case atStart => exact ⟨0, 0, Nat.zero_le _, rfl, rfl, fun j hj => by omega⟩
    case round =>
      obtain ⟨k, n, hk, rfl, rfl, heq⟩ := hrel
      by_cases hlt : k < xs.length
      · obtain ⟨g1, o1, rfl, hc1⟩ := rd_cell ha hlt
        obtain ⟨g2, o2, rfl, hc2⟩ := rd_cell (k := k) hb (by rw [← hlen'.out]; exact hlt)
        have hlt2 : (k : Int) < ys.length := by have := hlen'.out; omega
        have hlt1 : (k : Int) < xs.length := by omega
        by_cases hx : xs.getD k 0 = ys.getD k 0
        · have hfin : ∀ j, j < k + 1 → xs.getD j 0 = ys.getD j 0 := by
            intro j hj
            rcases Nat.lt_or_ge j k with h | h
            · exact heq j h
            · rw [show j = k from by omega]; exact hx
          have hx' : (xs.getD k 0 != ys.getD k 0) = false := by rw [hx]; simp
          have hfin' := Lib.hid hfin
          generalize xs.getD k 0 = u at *
          generalize ys.getD k 0 = v at *
          clear hfin heq hx
          go_wp2
          go_quiet (fail)
          go_wp2
          go_roundw
          case rel => exact ⟨k + 1, _, by omega, by go_num, rfl, hfin'.out⟩
          case measure => simp [intOf]; omega
        · have hf := hno'.out k hlt hx
          have hx' : (xs.getD k 0 != ys.getD k 0) = true := by simpa using hx
          have hf' := Lib.hid hf
          generalize xs.getD k 0 = u at *
          generalize ys.getD k 0 = v at *
          clear hf heq hx
          go_wp2
          go_quiet (fail)
          go_wp2
          go_ret
          exact ⟨by rw [hf'.out]; rfl, _, World.drewN_drewN _ _ _⟩
      · have hk' : k = xs.length := by omega
        have hf := hout'.out (by rw [← hk']; exact heq)
        have hf' := Lib.hid hf
        clear hf heq hk'
        go_wp2
        go_ret
        exact ⟨by rw [hf'.out]; rfl, _, rfl⟩
  · have hd : ((xs.length : Int) != (ys.length : Int)) = true := by simp; omega
    have hf : eqI xs ys = false := by
      unfold eqI
      rw [decide_eq_false_iff_not]
      intro e; subst e; exact hlen rfl
    have hf' := Lib.hid hf
    clear hf hlen
    go_enter Try.func29, Try.ntmps29
    go_wp2
    go_ret
    exact ⟨by rw [hf'.out]; rfl, 0, rfl⟩
set_option maxHeartbeats 400000 in
theorem same_any {w : World} {va vb : Value} {xs ys : List Int} (ha : Rd w 1 va xs.length (vi64 xs)) (hb : Rd w 1 vb ys.length (vi64 ys)) :
    Calls Try.prog 45 #[va, vb] w (BoolOut (eqI xs ys) w) := by
  have hc := Lib.hid (ints_rd ha hb)
  clear ha hb
  go_enter Try.func45, Try.ntmps45
  go_wp2_with fail
  refine hc.out.mono ?_
  rintro e w1 ⟨rfl, h⟩
  dsimp only
  have h' := Lib.hid h
  clear h hc
  go_wp2_with fail
  go_ret
  exact ⟨rfl, h'.out⟩
end Code
end Go.Proofs.Ytmkbinbggiocaaa

set_option linter.unusedVariables false
set_option linter.unusedSimpArgs false
namespace Go.Proofs.Ytmkbinbggiocaaa
open Go.RowKit
namespace Code
theorem rNat_cases {bs : List Int} {n k : Nat} {st : Bool} (hbb : ∀ x ∈ bs, 0 ≤ x ∧ x < 256) (h : rNat bs 0 false = (n, k, st)) : (k = 0 ∧ n = 0 ∧ st = true) ∨ (0 < k ∧ n < 18446744073709551616 ∧ natB n = bs.take k ∧ k ≤ bs.length) := by
  unfold rNat at h
  rw [if_neg (by simp), List.drop_zero] at h
  cases hp : natP 0 bs with
  | none =>
    rw [hp] at h
    simp only [Prod.mk.injEq] at h
    obtain ⟨rfl, rfl, rfl⟩ := h
    exact .inl ⟨rfl, rfl, rfl⟩
  | some p =>
    obtain ⟨m, j⟩ := p
    rw [hp] at h
    simp only [Prod.mk.injEq, Nat.zero_add] at h
    obtain ⟨rfl, rfl, rfl⟩ := h
    obtain ⟨h1, h2, h3, h4⟩ := natP_len hbb hp
    exact .inr ⟨h4, h2, h3, h1⟩
theorem freshM {wb w1 w2 : World} {r : Nat} (h : Mod [] wb w1) (m : Mod [r] w1 w2) (hr : wb.heap.size ≤ r) : Mod [] wb w2 := h.trans m (fun b hb hlt => by simp only [List.mem_singleton] at hb; omega)
set_option maxRecDepth 100000 in
set_option maxHeartbeats 8000000 in
theorem back_any {w : World} {vb vL vS : Value} (bs l : List Int) (N : Int) (s : List Int) (hb : Rd w 1 vb bs.length (u8s bs)) (hL : Rd w 1 vL l.length (vi64 l)) (hS : Rd w 1 vS s.length (vi64 s))
    (hl : ∀ x ∈ l, -9223372036854775808 ≤ x ∧ x ≤ 9223372036854775807) (hbb : ∀ x ∈ bs, 0 ≤ x ∧ x < 256)
    (h1 : bs.length ≤ 100) (h2 : l.length ≤ 100) (h3 : s.length ≤ 300) :
    Calls Try.prog 6 #[vb, .agg #[vL, .int .i64 N, vS]] w fun e w' => e = .returned (.bool true) ∧ Mod [] w w' := by
  obtain ⟨ab, cb, rfl⟩ := hb.val
  obtain ⟨al, cl, rfl⟩ := hL.val
  obtain ⟨as_, cs, rfl⟩ := hS.val
  have hg1 : decide (100 < bs.length) = false := by simp; omega
  have hg2 : decide (100 < l.length) = false := by simp; omega
  have hg3 : decide (300 < s.length) = false := by simp; omega
  obtain ⟨wb, hwb⟩ : ∃ wb, wb = w.alloc (.cells #[.slice al l.length cl, .int .i64 N, .slice as_ s.length cs] 48) := ⟨_, rfl⟩
  obtain ⟨B, hB⟩ : ∃ B, B = w.heap.size := ⟨_, rfl⟩
  have hbox : Has wb B [.slice al l.length cl, .int .i64 N, .slice as_ s.length cs] 48 := by rw [hwb, hB]; exact Has.new w _ _
  have hmw0 : Mod [] w wb := by rw [hwb]; exact (Mod.refl [] w).alloc _
  have hbox' := Lib.hid hbox
  have hmw := Lib.hid hmw0
  have hb' := Lib.hid hb
  have hL' := Lib.hid hL
  have hS' := Lib.hid hS
  have hl' := Lib.hid hl
  have hbb' := Lib.hid hbb
  have haw := Lib.hid (fun W => awake_true W)
  have hwb' := Lib.hid hwb
  have hB' := Lib.hid hB
  clear hbox hb hL hS hl hbb hmw0 hwb hB
  go_enter Try.func6, Try.ntmps6
  go_wp2_with fail
  rw [← hB'.out, ← hwb'.out]
  refine region_sched (G := Mod []) [([0,1,3,4,5,6],2), ([],7)] [8,9,10,11,12] (by kernel_rfl) (by kernel_rfl) (by kernel_rfl) rfl (Mod.refl []) (fun _ _ _ h1 h2 => h1.trans h2 (by simp)) ?_
  simp only [stages, pickO, nthO, headO, List.cons_append, List.nil_append]
  have fy0 : ∀ m : FutM wb.drew, m.v.cell? ⟨B, 0, none⟩ = some (.slice al l.length cl) := fun m => (hbox'.out.keep ((Mod.refl [] wb).drew.trans m.of (by simp)) (by simp)).cell 0 rfl
  have fy1 : ∀ m : FutM wb.drew, m.v.cell? ⟨B, 1, none⟩ = some (.int .i64 N) := fun m => (hbox'.out.keep ((Mod.refl [] wb).drew.trans m.of (by simp)) (by simp)).cell 1 rfl
  have fy2 : ∀ m : FutM wb.drew, m.v.cell? ⟨B, 2, none⟩ = some (.slice as_ s.length cs) := fun m => (hbox'.out.keep ((Mod.refl [] wb).drew.trans m.of (by simp)) (by simp)).cell 2 rfl
  have p1 := Lib.hid (fun W (h : Rd W 1 (.slice al l.length cl) l.length (vi64 l)) => ints_any (vb := .slice none 0 0) (bs := []) l hl'.out (Rd.nil W 1) (by simp) h (by omega))
  simp only [List.nil_append] at p1
  obtain ⟨z1, hz1⟩ : ∃ z, z = listB signN l := ⟨_, rfl⟩
  rw [← hz1] at p1
  have len1 : z1.length ≤ 1010 := by rw [hz1]; exact Nat.le_trans (listB_len signN l (fun x hx => signN_lt x (hl'.out x hx).1 (hl'.out x hx).2) (by omega)) (by omega)
  have hz1' := Lib.hid hz1
  clear hz1
  refine sched_step ?_
  repeat (go_big_quiet_step (fail))
  refine wpQuiet_nil ?_
  intro K hK
  rw [if_pos (by rfl)]
  go_simp
  refine (p1.out _ (hL'.out.still (hmw.out.trans (Mod.refl [] wb).drew (by simp)))).mono ?_
  rintro e w1 ⟨a1, c1, rfl, hm1⟩
  try dsimp only
  refine hK.out _ _ hm1.mod ?_
  clear hK K
  replace fy1 := FutM.cell hm1.mod fy1
  replace fy2 := FutM.cell hm1.mod fy2
  refine sched_step ?_
  repeat (go_big_quiet_step (fail))
  refine wpQuiet_nil ?_
  intro K hK
  rw [if_pos (by rfl)]
  go_simp
  have hw1 := hmw.out.trans ((Mod.refl [] wb).drew.trans hm1.mod (by simp)) (by simp)
  cases hok : bitsOk N s with
  | false =>
    refine (bits_any (bs := z1) N s (Rd.own hm1.own) (by omega) (hS'.out.still hw1)).mono ?_
    intro e w2 h2b
    simp only [BitsOut, hok] at h2b
    obtain ⟨rfl, hm2⟩ := h2b
    try dsimp only
    refine hK.out _ _ hm2 ?_
    clear hK K
    refine sched_last ?_
    repeat (go_big_quiet_step (fail))
    refine wpQuiet_nil ?_
    have hT := Lib.hid (hw1.trans hm2 (by simp))
    clear fy0 fy1 fy2 hm1 hm2 hw1 p1 hok
    have hbR := hb'.out.still hT.out
    go_wp2_with fail
    refine (new_any hbR (by omega)).mono ?_
    rintro e u1 ⟨r2, a2, c2, rfl, hR2, hu1, hr2n, _⟩
    dsimp only
    have hu1' := Lib.hid (hT.out.trans hu1 (by simp))
    have hr2' := Lib.hid (Nat.le_trans hT.out.size hr2n)
    have hR2' := Lib.hid hR2
    clear hbR hR2 hu1 hr2n
    go_wp2_with fail
    refine (rdNat hR2'.out hbb'.out).mono ?_
    intro e u2 h2
    unfold RNatOut at h2
    rcases hrn : rNat bs 0 false with ⟨n2, k2, s2⟩
    rw [hrn] at h2
    obtain ⟨rfl, hR3, hm3⟩ := h2
    have hcase := Lib.hid (rNat_cases hbb'.out hrn)
    dsimp only
    have hu2 := Lib.hid (hu1'.out.trans hm3 (fun b hb hlt => by have := hr2'.out; simp only [List.mem_singleton] at hb; omega))
    have hR3' := Lib.hid hR3
    clear hR3 hm3 hrn
    go_wp2_with fail
    refine (rdAt hR3'.out).mono ?_
    rintro e u3 ⟨rfl, rfl⟩
    dsimp only
    by_cases hk2 : k2 = 0
    · have hz : n2 = 0 ∧ s2 = true := by
        rcases hcase.out with ⟨_, h1, h2⟩ | ⟨h1, _⟩
        · exact ⟨h1, h2⟩
        · omega
      obtain ⟨rfl, rfl⟩ := hz
      subst hk2
      go_wp2_with fail
      refine (rdEnd hR3'.out).mono ?_
      rintro e u4 ⟨rfl, hm4⟩
      have ee : rEnd bs 0 true = 17 := by simp [rEnd]
      rw [ee]
      dsimp only
      have hu4 := Lib.hid (hu2.out.trans hm4 (by simp))
      clear hm4 ee
      go_wp2_with fail
      refine (haw.out _).mono ?_
      rintro e u5 ⟨rfl, hm5⟩
      dsimp only
      have hu5 := Lib.hid (hu4.out.trans hm5 (by simp))
      clear hm5
      go_wp2_with fail
      go_ret
      exact ⟨rfl, hu5.out⟩
    · have hkk : ((k2 : Int) == 0) = false := by simp; omega
      have hz : n2 < 18446744073709551616 ∧ natB n2 = bs.take k2 ∧ k2 ≤ bs.length := by
        rcases hcase.out with ⟨h0, _⟩ | ⟨_, h⟩
        · omega
        · exact h
      obtain ⟨hn2, hnb, hk2l⟩ := hz
      have hmc : k2 ≤ cb := by
        rcases hb'.out.2 with ⟨he, hz⟩ | ⟨ad, c', he, hz, _⟩
        · omega
        · simp only [Value.slice.injEq, true_and] at he
          obtain ⟨_, rfl⟩ := he
          omega
      have hsl := slice_to (P := Try.prog) (size := 1) 45 (by kernel_rfl) (fun w => by kernel_rfl) ab bs.length cb k2 hmc
      have q1 := Lib.hid (fun W => nat_any (w := W) (vb := .slice none 0 0) (bs := []) n2 hn2 (Rd.nil W 1) (by simp))
      simp only [List.nil_append] at q1
      have htl : (bs.take k2).length = k2 := by rw [List.length_take]; omega
      obtain ⟨z, hz⟩ : ∃ z, z = bs.take k2 := ⟨_, rfl⟩
      rw [hnb, ← hz] at q1
      have hzl : z.length = k2 := by rw [hz, htl]
      have hrz : Hid (∀ W, Mod [] w W → Rd W 1 (.slice ab k2 cb) z.length (u8s z)) := fun W hm => by
        rw [hzl, hz]; exact Rd_to (hb'.out.still hm) hk2l
      rw [hzl] at q1
      obtain ⟨sz, hsz⟩ : ∃ q, q = strOfNums z := ⟨_, rfl⟩
      have hsz' := Lib.hid hsz
      have hzl' := Lib.hid hzl
      clear hz hnb htl hzl hk2 hsz hcase
      go_wp2_with fail
      refine region_sched (G := Mod []) [([0,3,4],1), ([2],5), ([6,7,8,9],10)] [11,12] (by kernel_rfl) (by kernel_rfl) (by kernel_rfl) rfl (Mod.refl []) (fun _ _ _ h1 h2 => h1.trans h2 (by simp)) ?_
      simp only [stages, pickO, nthO, headO, List.cons_append, List.nil_append]
      refine sched_step ?_
      repeat (go_big_quiet_step (fail))
      refine wpQuiet_nil ?_
      intro K hK
      rw [if_pos (by rfl)]
      go_simp
      refine (q1.out _).mono ?_
      rintro e x1 ⟨az, cz, rfl, hx1⟩
      try dsimp only
      refine hK.out _ _ hx1.mod ?_
      clear hK K
      have g1 : ∀ m : FutM x1, (convert 45 9 (.slice az k2 cz)).run Try.prog m.v = .ok (.string sz) m.v := fun m => by
        have h := conv_rd (bs := z) (v := .slice az k2 cz) (by have h := (Rd.own hx1.own).still m.of; rw [hzl'.out]; exact h)
        rwa [← hsz'.out] at h
      have hx0 := Lib.hid (hu2.out.trans ((Mod.refl [] _).drew.trans hx1.mod (by simp)) (by simp))
      have hRx := Lib.hid (hR3'.out.still ((Mod.refl [] _).drew.trans hx1.mod (by simp)))
      refine sched_step ?_
      repeat (go_big_quiet_step (fail))
      refine wpQuiet_nil ?_
      intro K hK
      rw [if_pos (by rfl)]
      go_simp
      refine (rdAt hRx.out).mono ?_
      rintro e x2 ⟨rfl, rfl⟩
      try dsimp only
      refine hK.out _ _ (Mod.refl [] _) ?_
      clear hK K
      have g2 : ∀ m : FutM x1, (convert 45 9 (.slice ab k2 cb)).run Try.prog m.v = .ok (.string sz) m.v := fun m => by
        have h := conv_rd (bs := z) (v := .slice ab k2 cb) (hrz.out m.v (hx0.out.trans m.of (by simp)))
        rwa [← hsz'.out] at h
      refine sched_step ?_
      repeat (go_big_quiet_step (fail))
      refine wpQuiet_nil ?_
      intro K hK
      rw [if_pos (by rfl)]
      go_simp
      refine (haw.out _).mono ?_
      rintro e x3 ⟨rfl, hx3⟩
      try dsimp only
      refine hK.out _ _ hx3 ?_
      clear hK K
      refine sched_last ?_
      repeat (go_big_quiet_step (fail))
      refine wpQuiet_nil ?_
      have hfin := Lib.hid (hx0.out.trans hx3 (by simp))
      clear g1 g2 hx3
      go_wp2_with fail
      go_ret
      exact ⟨rfl, hfin.out⟩
  | true =>
    obtain ⟨S, hS0⟩ : ∃ S, S = packB l N s := ⟨_, rfl⟩
    have hSS : z1 ++ bitsB (wideN N) s = S := by rw [hS0, hz1'.out]; rfl
    have p3 := bits_any (bs := z1) N s (Rd.own hm1.own) (by omega) (hS'.out.still hw1)
    replace p3 := p3.mono fun e w' h => show ∃ a c, e = .returned (.tuple #[.slice a (z1 ++ bitsB (wideN N) s).length c, .bool true]) ∧ Made w1 w' 5 1 a (z1 ++ bitsB (wideN N) s).length c (u8s (z1 ++ bitsB (wideN N) s)) by simpa only [BitsOut, hok, if_true] using h
    rw [hSS] at p3
    have hSl : S.length ≤ 2000 := by
      have h6 : wideN N ≤ 513 := by
        simp only [bitsOk, Bool.and_eq_true, decide_eq_true_eq] at hok
        unfold wideN; omega
      rw [← hSS, List.length_append, bitsB_len]; omega
    have hSb := Lib.hid (show ∀ x ∈ S, 0 ≤ x ∧ x < 256 by rw [hS0]; exact packB_byte l N s hok)
    have b1 := back_count l N s (by omega)
    have b2 := Lib.hid (fun i x hx => back_int l N s i x hx (hl'.out x (List.mem_of_getElem? hx)))
    have b3 := back_bits l N s hok
    have b4 := packB_len l N s
    rw [← hS0] at b1 b2 b3 b4
    have b1' := Lib.hid b1
    have b3' := Lib.hid b3
    have b4' := Lib.hid b4
    clear b1 b3 b4 hSS hS0 hok
    refine p3.mono ?_
    rintro e w2 ⟨a2, c2, rfl, hm2⟩
    try dsimp only
    refine hK.out _ _ hm2.mod ?_
    clear hK K
    refine sched_last ?_
    repeat (go_big_quiet_step (fail))
    refine wpQuiet_nil ?_
    have hm02 := Lib.hid (((Mod.refl [] wb).drew.trans hm1.mod (by simp)).trans hm2.mod (by simp))
    have hm2' := Lib.hid hm2
    clear fy0 fy1 fy2 hm1 hm2 hw1 p1 p3
    go_wp2_with fail
    refine (new_any (Rd.own hm2'.out.own) (by omega)).mono ?_
    rintro e w3 ⟨r, a3, c3, rfl, hR, hmN, hrn, _⟩
    dsimp only
    have hrB : wb.heap.size ≤ r := by have := hm02.out.size; omega
    have hm03 := Lib.hid (hm02.out.trans hmN (by simp))
    have hR' := Lib.hid hR
    clear hR hmN hrn
    go_wp2_with fail
    refine (rdCount hR'.out hSb.out).mono ?_
    intro e w4 h4
    unfold RCountOut at h4
    rw [b1'.out] at h4
    obtain ⟨rfl, hR4, hm4⟩ := h4
    dsimp only
    have hm04 := Lib.hid (freshM hm03.out hm4 hrB)
    have hR4' := Lib.hid hR4
    clear hR4 hm4
    go_wp2_with fail
    go_loopw [9] (fun iv wr => ∃ i : Nat, i ≤ l.length ∧ iv = .int .i64 i ∧ RAt wr r a3 c3 S (posB l i) false ∧ Mod [] wb wr) (fun iv _ => l.length - (intOf iv).toNat)
    case atStart => exact ⟨0, Nat.zero_le _, rfl, hR4'.out, hm04.out⟩
    case round =>
      obtain ⟨i, hi, rfl, hRi, hmi⟩ := hrel
      obtain ⟨wo, hwo⟩ : ∃ wo : World, wo = wr := ⟨_, rfl⟩
      clear hwo
      have hbx := hbox'.out.keep hmi (by simp)
      have d0 := hbx.cell 0 rfl
      have hRi' := Lib.hid hRi
      have hmi' := Lib.hid hmi
      clear hRi hmi hbx
      by_cases hlt : i < l.length
      · obtain ⟨x, hx⟩ : ∃ x, l[i]? = some x := ⟨l[i], List.getElem?_eq_getElem hlt⟩
        obtain ⟨gl, ol, rfl, _, _, _⟩ := hL'.out.at (by rw [vi64_len]; omega)
        have hlt2 : (i : Int) < l.length := by omega
        have hmod : Hid (∀ W, Mod [r] wr.drew W → Mod [] wb W) := fun W m => freshM (hmi'.out.trans (Mod.refl [] wr).drew (by simp)) m hrB
        have fy : ∀ m : Fut (Mod [r]) wr.drew, m.v.cell? ⟨B, 0, none⟩ = some (.slice (some ⟨gl, ol, none⟩) l.length cl) := fun m => (hbox'.out.keep (hmod.out m.v m.of) (by simp)).cell 0 rfl
        have fl : ∀ m : Fut (Mod [r]) wr.drew, m.v.cell? ⟨gl, ol + i, none⟩ = some (.int .i64 x) := fun m => (hL'.out.still (hmw.out.trans (hmod.out m.v m.of) (by simp))).cellAt i (vi64_get hx)
        have hbi := Lib.hid (b2.out i x hx)
        go_wp2_with fail
        refine region_sched (G := Mod [r]) [([0,1,2,3,4,5,6,8,9,10,11,12],7)] [13,14] (by kernel_rfl) (by kernel_rfl) (by kernel_rfl) rfl (Mod.refl [r]) (trM r) ?_
        simp only [stages, pickO, nthO, headO, List.cons_append, List.nil_append]
        refine sched_step ?_
        repeat (go_big_quiet_step (fail))
        refine wpQuiet_nil ?_
        intro K hK
        rw [if_pos (by rfl)]
        go_simp
        refine (rdInt (hRi'.out.still (Mod.refl [] wr).drew) hSb.out).mono ?_
        intro e w5 h5
        unfold RNatOut at h5
        rw [hbi.out] at h5
        obtain ⟨rfl, hR5, hm5⟩ := h5
        dsimp only
        rw [unsign_signN]
        try dsimp only
        refine hK.out _ _ hm5 ?_
        clear hK K
        refine sched_last ?_
        repeat (go_big_quiet_step (fail))
        refine wpQuiet_nil ?_
        have hR5' := Lib.hid hR5
        have hm5' := Lib.hid (hmod.out w5 hm5)
        clear fy fl hR5 hm5 hx d0
        go_wp2_with fail
        go_roundw
        case rel => exact ⟨i + 1, by omega, by go_num, hR5'.out, hm5'.out⟩
        case measure => simp [intOf]; omega
      · have hil : i = l.length := by omega
        subst hil
        have hmod : Hid (∀ W, Mod [r] wr.drew W → Mod [] wb W) := fun W m => freshM (hmi'.out.trans (Mod.refl [] wr).drew (by simp)) m hrB
        have fy0 : ∀ m : Fut (Mod [r]) wr.drew, m.v.cell? ⟨B, 0, none⟩ = some (.slice al l.length cl) := fun m => (hbox'.out.keep (hmod.out m.v m.of) (by simp)).cell 0 rfl
        have fy1 : ∀ m : Fut (Mod [r]) wr.drew, m.v.cell? ⟨B, 1, none⟩ = some (.int .i64 N) := fun m => (hbox'.out.keep (hmod.out m.v m.of) (by simp)).cell 1 rfl
        have fy2 : ∀ m : Fut (Mod [r]) wr.drew, m.v.cell? ⟨B, 2, none⟩ = some (.slice as_ s.length cs) := fun m => (hbox'.out.keep (hmod.out m.v m.of) (by simp)).cell 2 rfl
        go_wp2_with fail
        refine region_sched (G := Mod [r]) [([0,1,2,3,4,5,6,7,8,10,11],9), ([],12), ([13,14,15,16],17)] [18,19] (by kernel_rfl) (by kernel_rfl) (by kernel_rfl) rfl (Mod.refl [r]) (trM r) ?_
        simp only [stages, pickO, nthO, headO, List.cons_append, List.nil_append]
        refine sched_step ?_
        repeat (go_big_quiet_step (fail))
        refine wpQuiet_nil ?_
        intro K hK
        rw [if_pos (by rfl)]
        go_simp
        refine (rdBits N (hRi'.out.still (Mod.refl [] wr).drew) hSb.out).mono ?_
        intro e w5 h5
        unfold RBitsOut at h5
        rw [b3'.out] at h5
        dsimp only at h5
        obtain ⟨v5, rfl, hv5, hn5, hR5, hm5⟩ := h5
        obtain ⟨a5, c5, rfl⟩ := hv5.val
        try dsimp only
        refine hK.out _ _ hm5 ?_
        clear hK K
        have hm05 := Lib.hid (hmod.out w5 hm5)
        refine sched_step ?_
        repeat (go_big_quiet_step (fail))
        refine wpQuiet_nil ?_
        intro K hK
        rw [if_pos (by rfl)]
        go_simp
        refine (same_any hv5 (hS'.out.still (hmw.out.trans hm05.out (by simp)))).mono ?_
        rintro e w6 ⟨rfl, hm6⟩
        have ee : eqI s s = true := by simp [eqI]
        rw [ee]
        try dsimp only
        refine hK.out _ _ hm6.mod.of0 ?_
        clear hK K
        refine sched_step ?_
        repeat (go_big_quiet_step (fail))
        refine wpQuiet_nil ?_
        intro K hK
        rw [if_pos (by rfl)]
        go_simp
        refine (rdEnd (hR5.still hm6.mod)).mono ?_
        rintro e w7 ⟨rfl, hm7⟩
        have e7 : rEnd S (posB l l.length + wideN N) false = 0 := by rw [← b4'.out]; simp [rEnd]
        rw [e7]
        try dsimp only
        refine hK.out _ _ hm7.of0 ?_
        clear hK K
        refine sched_last ?_
        repeat (go_big_quiet_step (fail))
        refine wpQuiet_nil ?_
        have hT := Lib.hid (hmw.out.trans (hm05.out.trans (hm6.mod.trans hm7 (by simp)) (by simp)) (by simp))
        clear fy0 fy1 fy2 hv5 hn5 hR5 hm5 hm6 hm7 ee e7 d0
        have hbR := hb'.out.still hT.out
        go_wp2_with fail
        refine (new_any hbR (by omega)).mono ?_
        rintro e u1 ⟨r2, a2, c2, rfl, hR2, hu1, hr2n, _⟩
        dsimp only
        have hu1' := Lib.hid (hT.out.trans hu1 (by simp))
        have hr2' := Lib.hid (Nat.le_trans hT.out.size hr2n)
        have hR2' := Lib.hid hR2
        clear hbR hR2 hu1 hr2n
        go_wp2_with fail
        refine (rdNat hR2'.out hbb'.out).mono ?_
        intro e u2 h2
        unfold RNatOut at h2
        rcases hrn : rNat bs 0 false with ⟨n2, k2, s2⟩
        rw [hrn] at h2
        obtain ⟨rfl, hR3, hm3⟩ := h2
        have hcase := Lib.hid (rNat_cases hbb'.out hrn)
        dsimp only
        have hu2 := Lib.hid (hu1'.out.trans hm3 (fun b hb hlt => by have := hr2'.out; simp only [List.mem_singleton] at hb; omega))
        have hR3' := Lib.hid hR3
        clear hR3 hm3 hrn
        go_wp2_with fail
        refine (rdAt hR3'.out).mono ?_
        rintro e u3 ⟨rfl, rfl⟩
        dsimp only
        by_cases hk2 : k2 = 0
        · have hz : n2 = 0 ∧ s2 = true := by
            rcases hcase.out with ⟨_, h1, h2⟩ | ⟨h1, _⟩
            · exact ⟨h1, h2⟩
            · omega
          obtain ⟨rfl, rfl⟩ := hz
          subst hk2
          go_wp2_with fail
          refine (rdEnd hR3'.out).mono ?_
          rintro e u4 ⟨rfl, hm4⟩
          have ee : rEnd bs 0 true = 17 := by simp [rEnd]
          rw [ee]
          dsimp only
          have hu4 := Lib.hid (hu2.out.trans hm4 (by simp))
          clear hm4 ee
          go_wp2_with fail
          refine (haw.out _).mono ?_
          rintro e u5 ⟨rfl, hm5⟩
          dsimp only
          have hu5 := Lib.hid (hu4.out.trans hm5 (by simp))
          clear hm5
          go_wp2_with fail
          go_ret
          exact ⟨rfl, hu5.out⟩
        · have hkk : ((k2 : Int) == 0) = false := by simp; omega
          have hz : n2 < 18446744073709551616 ∧ natB n2 = bs.take k2 ∧ k2 ≤ bs.length := by
            rcases hcase.out with ⟨h0, _⟩ | ⟨_, h⟩
            · omega
            · exact h
          obtain ⟨hn2, hnb, hk2l⟩ := hz
          have hmc : k2 ≤ cb := by
            rcases hb'.out.2 with ⟨he, hz⟩ | ⟨ad, c', he, hz, _⟩
            · omega
            · simp only [Value.slice.injEq, true_and] at he
              obtain ⟨_, rfl⟩ := he
              omega
          have hsl := slice_to (P := Try.prog) (size := 1) 45 (by kernel_rfl) (fun w => by kernel_rfl) ab bs.length cb k2 hmc
          have q1 := Lib.hid (fun W => nat_any (w := W) (vb := .slice none 0 0) (bs := []) n2 hn2 (Rd.nil W 1) (by simp))
          simp only [List.nil_append] at q1
          have htl : (bs.take k2).length = k2 := by rw [List.length_take]; omega
          obtain ⟨z, hz⟩ : ∃ z, z = bs.take k2 := ⟨_, rfl⟩
          rw [hnb, ← hz] at q1
          have hzl : z.length = k2 := by rw [hz, htl]
          have hrz : Hid (∀ W, Mod [] w W → Rd W 1 (.slice ab k2 cb) z.length (u8s z)) := fun W hm => by
            rw [hzl, hz]; exact Rd_to (hb'.out.still hm) hk2l
          rw [hzl] at q1
          obtain ⟨sz, hsz⟩ : ∃ q, q = strOfNums z := ⟨_, rfl⟩
          have hsz' := Lib.hid hsz
          have hzl' := Lib.hid hzl
          clear hz hnb htl hzl hk2 hsz hcase
          go_wp2_with fail
          refine region_sched (G := Mod []) [([0,3,4],1), ([2],5), ([6,7,8,9],10)] [11,12] (by kernel_rfl) (by kernel_rfl) (by kernel_rfl) rfl (Mod.refl []) (fun _ _ _ h1 h2 => h1.trans h2 (by simp)) ?_
          simp only [stages, pickO, nthO, headO, List.cons_append, List.nil_append]
          refine sched_step ?_
          repeat (go_big_quiet_step (fail))
          refine wpQuiet_nil ?_
          intro K hK
          rw [if_pos (by rfl)]
          go_simp
          refine (q1.out _).mono ?_
          rintro e x1 ⟨az, cz, rfl, hx1⟩
          try dsimp only
          refine hK.out _ _ hx1.mod ?_
          clear hK K
          have g1 : ∀ m : FutM x1, (convert 45 9 (.slice az k2 cz)).run Try.prog m.v = .ok (.string sz) m.v := fun m => by
            have h := conv_rd (bs := z) (v := .slice az k2 cz) (by have h := (Rd.own hx1.own).still m.of; rw [hzl'.out]; exact h)
            rwa [← hsz'.out] at h
          have hx0 := Lib.hid (hu2.out.trans ((Mod.refl [] _).drew.trans hx1.mod (by simp)) (by simp))
          have hRx := Lib.hid (hR3'.out.still ((Mod.refl [] _).drew.trans hx1.mod (by simp)))
          refine sched_step ?_
          repeat (go_big_quiet_step (fail))
          refine wpQuiet_nil ?_
          intro K hK
          rw [if_pos (by rfl)]
          go_simp
          refine (rdAt hRx.out).mono ?_
          rintro e x2 ⟨rfl, rfl⟩
          try dsimp only
          refine hK.out _ _ (Mod.refl [] _) ?_
          clear hK K
          have g2 : ∀ m : FutM x1, (convert 45 9 (.slice ab k2 cb)).run Try.prog m.v = .ok (.string sz) m.v := fun m => by
            have h := conv_rd (bs := z) (v := .slice ab k2 cb) (hrz.out m.v (hx0.out.trans m.of (by simp)))
            rwa [← hsz'.out] at h
          refine sched_step ?_
          repeat (go_big_quiet_step (fail))
          refine wpQuiet_nil ?_
          intro K hK
          rw [if_pos (by rfl)]
          go_simp
          refine (haw.out _).mono ?_
          rintro e x3 ⟨rfl, hx3⟩
          try dsimp only
          refine hK.out _ _ hx3 ?_
          clear hK K
          refine sched_last ?_
          repeat (go_big_quiet_step (fail))
          refine wpQuiet_nil ?_
          have hfin := Lib.hid (hx0.out.trans hx3 (by simp))
          clear g1 g2 hx3
          go_wp2_with fail
          go_ret
          exact ⟨rfl, hfin.out⟩
set_option maxRecDepth 100000 in
set_option maxHeartbeats 4000000 in
theorem back_far {w : World} {ab al as_ : Option Addr} {nb cb nl cl ns cs : Nat} (N : Int) (h : 100 < nb ∨ 100 < nl ∨ 300 < ns) :
    Calls Try.prog 6 #[.slice ab nb cb, .agg #[.slice al nl cl, .int .i64 N, .slice as_ ns cs]] w fun e w' => e = .returned (.bool true) ∧ Mod [] w w' := by
  have haw := Lib.hid (fun W => awake_true W)
  have hm := Lib.hid ((Mod.refl [] w).alloc (.cells #[.slice al nl cl, .int .i64 N, .slice as_ ns cs] 48))
  have h' := Lib.hid h
  clear h
  by_cases h1 : 100 < nb
  · have g1 : decide (100 < (nb : Int)) = true := by simp; omega
    have g1' : decide (100 < nb) = true := by simpa using h1
    go_enter Try.func6, Try.ntmps6
    go_wp2_with fail
    refine (haw.out _).mono ?_
    rintro e w1 ⟨rfl, hm1⟩
    dsimp only
    have hf := Lib.hid (hm.out.trans hm1 (by simp))
    clear hm1
    go_wp2_with fail
    go_ret
    exact ⟨rfl, hf.out⟩
  · have g1 : decide (100 < (nb : Int)) = false := by simp; omega
    have g1' : decide (100 < nb) = false := by simpa using h1
    by_cases h2 : 100 < nl
    · have g2 : decide (100 < (nl : Int)) = true := by simp; omega
      have g2' : decide (100 < nl) = true := by simpa using h2
      go_enter Try.func6, Try.ntmps6
      go_wp2_with fail
      refine (haw.out _).mono ?_
      rintro e w1 ⟨rfl, hm1⟩
      dsimp only
      have hf := Lib.hid (hm.out.trans hm1 (by simp))
      clear hm1
      go_wp2_with fail
      go_ret
      exact ⟨rfl, hf.out⟩
    · have g2 : decide (100 < (nl : Int)) = false := by simp; omega
      have g2' : decide (100 < nl) = false := by simpa using h2
      have h3 : 300 < ns := by have := h'.out; omega
      have g3 : decide (300 < (ns : Int)) = true := by simp; omega
      have g3' : decide (300 < ns) = true := by simpa using h3
      go_enter Try.func6, Try.ntmps6
      go_wp2_with fail
      refine (haw.out _).mono ?_
      rintro e w1 ⟨rfl, hm1⟩
      dsimp only
      have hf := Lib.hid (hm.out.trans hm1 (by simp))
      clear hm1
      go_wp2_with fail
      go_ret
      exact ⟨rfl, hf.out⟩
theorem back_all {w : World} {vb vL vS : Value} (bs l : List Int) (N : Int) (s : List Int) (hb : Rd w 1 vb bs.length (u8s bs)) (hL : Rd w 1 vL l.length (vi64 l)) (hS : Rd w 1 vS s.length (vi64 s))
    (hl : ∀ x ∈ l, (Lit.int .i64 x).wf = true) (hbb : ∀ x ∈ bs, (Lit.int .u8 x).wf = true) :
    Calls Try.prog 6 #[vb, .agg #[vL, .int .i64 N, vS]] w fun e w' => e = .returned (.bool true) ∧ Mod [] w w' := by
  by_cases h : 100 < bs.length ∨ 100 < l.length ∨ 300 < s.length
  · obtain ⟨ab, cb, rfl⟩ := hb.val
    obtain ⟨al, cl, rfl⟩ := hL.val
    obtain ⟨as_, cs, rfl⟩ := hS.val
    exact back_far N h
  · exact back_any bs l N s hb hL hS (fun x hx => wf64 (hl x hx)) (fun x hx => wf8 (hbb x hx)) (by omega) (by omega) (by omega)
end Code
end Go.Proofs.Ytmkbinbggiocaaa

set_option linter.unusedVariables false
set_option linter.unusedSimpArgs false
namespace Go.Proofs.Ytmkbinbggiocaaa
open Go.RowKit
namespace Code
abbrev OpS := Int × Int × ByteArray
def encOpS (o : OpS) : List Value := [.int .i64 o.1, .int .i64 o.2.1, .string o.2.2]
theorem encOpS_len (o : OpS) : (encOpS o).length = 3 := rfl
theorem ops_cells {w : World} {ops : List OpS} {a : Option Addr} {c k : Nat} (h : Rd w 3 (.slice a ops.length c) ops.length (flat encOpS ops)) (hk : k < ops.length) :
    ∃ g o x, a = some ⟨g, o, none⟩ ∧ ops[k]? = some x ∧ ∀ w', Mod [] w w' → w'.cell? ⟨g, o + k * 3, none⟩ = some (.int .i64 x.1) ∧ w'.cell? ⟨g, o + k * 3 + 1, none⟩ = some (.int .i64 x.2.1) ∧ w'.cell? ⟨g, o + k * 3 + 2, none⟩ = some (.string x.2.2) := by
  have hpos : 0 < (flat encOpS ops).length := by rw [h.1]; omega
  obtain ⟨g, o, rfl, _, _, _⟩ := h.at hpos
  have k0 := flat_get encOpS_len ops k 0 hk (by omega)
  have k1 := flat_get encOpS_len ops k 1 hk (by omega)
  have k2 := flat_get encOpS_len ops k 2 hk (by omega)
  refine ⟨g, o, ops[k], rfl, List.getElem?_eq_getElem hk, fun w' m => ?_⟩
  have h' := h.still m
  exact ⟨by have := h'.cellAt (k * 3 + 0) (u := .int .i64 ops[k].1) (by rw [k0]; rfl); simpa using this, by have := h'.cellAt (k * 3 + 1) (u := .int .i64 ops[k].2.1) (by rw [k1]; rfl); simpa [Nat.add_assoc] using this, by have := h'.cellAt (k * 3 + 2) (u := .string ops[k].2.2) (by rw [k2]; rfl); simpa [Nat.add_assoc] using this⟩
theorem RAt.keep {F : List Nat} {w w' : World} {r c k : Nat} {a : Option Addr} {bs : List Int} {stop : Bool} (h : RAt w r a c bs k stop) (m : Mod F w w') (hr : r ∉ F) (ha : ∀ g, (Value.slice a bs.length c).ownBlock = some g → g ∉ F) : RAt w' r a c bs k stop :=
  ⟨h.has.keep m hr, own_keep h.own m ha, h.ne, h.le, h.big⟩
theorem XAt.keep {F : List Nat} {w0 w w' : World} {r k : Nat} {vb : Value} {bs : List Int} {stop : Bool} (h : XAt w0 w r vb bs k stop) (m : Mod F w w') (hr : r ∉ F) (hF : ∀ b ∈ F, w0.heap.size ≤ b) : XAt w0 w' r vb bs k stop :=
  ⟨h.has.keep m hr, h.rd, h.base.trans m (fun b hb hlt => by have := hF b hb; omega), h.new, h.le, h.big⟩
/-- Where both readers stand, and the bytes that were handed to the first one. -/
structure RX (w0 w : World) (r rx : Nat) (a ai : Option Addr) (c ci : Nat) (vb : Value) (bs : List Int) (k : Nat) (stop : Bool) : Prop where
  rt : RAt w r a c bs k stop
  xt : XAt w0 w rx vb bs k stop
  inn : w.ownsRow 0 5 1 (.slice ai bs.length ci) bs.length (u8s bs)
  rr : w0.heap.size ≤ r
  rrx : r < rx
  ra : ∀ g, (Value.slice a bs.length c).ownBlock = some g → g ≠ rx ∧ w0.heap.size ≤ g
  rin : ∀ g, (Value.slice ai bs.length ci).ownBlock = some g → g ≠ r ∧ g ≠ rx
theorem RX.mod {w0 w : World} {r rx c ci k : Nat} {a ai : Option Addr} {vb : Value} {bs : List Int} {stop : Bool} (h : RX w0 w r rx a ai c ci vb bs k stop) : Mod [] w0 w := h.xt.base
theorem RX.still {w0 w w' : World} {r rx c ci k : Nat} {a ai : Option Addr} {vb : Value} {bs : List Int} {stop : Bool} (h : RX w0 w r rx a ai c ci vb bs k stop) (m : Mod [] w w') : RX w0 w' r rx a ai c ci vb bs k stop :=
  ⟨h.rt.still m, h.xt.still m, own_keep h.inn m (by simp), h.rr, h.rrx, h.ra, h.rin⟩
/-- Both have gone on. -/
theorem RX.go {w0 w w1 w2 : World} {r rx c ci k k' : Nat} {a ai : Option Addr} {vb : Value} {bs : List Int} {stop s' : Bool} (h : RX w0 w r rx a ai c ci vb bs k stop) (m1 : Mod [r] w w1) (hR : RAt w1 r a c bs k' s') (m2 : Mod [rx] w1 w2) (hX : XAt w0 w2 rx vb bs k' s') : RX w0 w2 r rx a ai c ci vb bs k' s' := by
  have hne := h.rrx
  refine ⟨hR.keep m2 (by simp; omega) (fun g hg hm => (h.ra g hg).1 (by simpa using hm)), hX, ?_, h.rr, h.rrx, h.ra, h.rin⟩
  exact own_keep (own_keep h.inn m1 (fun g hg hm => (h.rin g hg).1 (by simpa using hm))) m2 (fun g hg hm => (h.rin g hg).2 (by simpa using hm))
/-- What the calls may do: the readers' blocks, and where these are as they shall be, they stay so. -/
def GS (r rx : Nat) (v vb : Value) (k : Nat) (stop : Bool) (w w' : World) : Prop :=
  Mod [r, rx] w w' ∧ ((Has w r [v, .int .i64 k, .bool stop] 160 ∧ Has w rx [vb, .int .i64 k, .bool stop] 75) → (Has w' r [v, .int .i64 k, .bool stop] 160 ∧ Has w' rx [vb, .int .i64 k, .bool stop] 75))
theorem GS.refl (r rx : Nat) (v vb : Value) (k : Nat) (stop : Bool) (w : World) : GS r rx v vb k stop w w := ⟨Mod.refl _ _, id⟩
theorem GS.trans (r rx : Nat) (v vb : Value) (k : Nat) (stop : Bool) (w1 w2 w3 : World) (h1 : GS r rx v vb k stop w1 w2) (h2 : GS r rx v vb k stop w2 w3) : GS r rx v vb k stop w1 w3 :=
  ⟨h1.1.trans h2.1 (fun b hb _ => hb), fun h => h2.2 (h1.2 h)⟩
instance (r rx : Nat) (v vb : Value) (k : Nat) (stop : Bool) (w : World) : Nonempty (Fut (GS r rx v vb k stop) w) := ⟨⟨w, GS.refl _ _ _ _ _ _ _⟩⟩
theorem GS.still {r rx : Nat} {v vb : Value} {k : Nat} {stop : Bool} {w w' : World} (m : Mod [] w w') : GS r rx v vb k stop w w' := ⟨m.of0, fun h => ⟨h.1.keep m (by simp), h.2.keep m (by simp)⟩⟩
theorem GS.left {r rx : Nat} {v vb : Value} {k : Nat} {stop : Bool} {w w' : World} (hne : r ≠ rx) (m : Mod [r] w w') (h : Has w' r [v, .int .i64 k, .bool stop] 160) : GS r rx v vb k stop w w' :=
  ⟨m.mono (by simp), fun h' => ⟨h, h'.2.keep m (by simp; omega)⟩⟩
theorem GS.right {r rx : Nat} {v vb : Value} {k : Nat} {stop : Bool} {w w' : World} (hne : r ≠ rx) (m : Mod [rx] w w') (h : Has w' rx [vb, .int .i64 k, .bool stop] 75) : GS r rx v vb k stop w w' :=
  ⟨m.mono (by simp), fun h' => ⟨h'.1.keep m (by simp; omega), h⟩⟩
theorem GS.cell {r rx : Nat} {v vb : Value} {k : Nat} {stop : Bool} {w w1 : World} (h : GS r rx v vb k stop w w1) {a : Addr} {u : Value} (f : ∀ m : Fut (GS r rx v vb k stop) w, m.v.cell? a = some u) : ∀ m : Fut (GS r rx v vb k stop) w1, m.v.cell? a = some u := fun m => f ⟨m.v, GS.trans _ _ _ _ _ _ _ _ _ h m.of⟩
end Code
end Go.Proofs.Ytmkbinbggiocaaa

set_option linter.unusedVariables false
set_option linter.unusedSimpArgs false
namespace Go.Proofs.Ytmkbinbggiocaaa
open Go.RowKit
namespace Code.Cert
structure CertV where
  up : List Int
  ws : List Int
  sides : List (List Int)
  flows : List (List Int)
def item (c : CertV) (v : Nat) : Bool :=
  bitsOk c.up.length (c.sides.getD v []) && decide (-1 ≤ c.up.getD v 0) && decide (c.up.getD v 0 < c.up.length) && decide (0 ≤ c.ws.getD v 0)
def lens (c : CertV) : Bool := decide (c.up.length ≤ 4096) && decide (c.ws.length = c.up.length) && decide (c.sides.length = c.up.length) && decide (c.flows.length = c.up.length)
def rightB (c : CertV) : Bool := lens c && (List.range c.up.length).all (item c)
theorem right_iff (c : CertV) : rightB c = true ↔ lens c = true ∧ ∀ v, v < c.up.length → item c v = true := by
  unfold rightB
  simp [List.all_eq_true, List.mem_range]
theorem right_no {c : CertV} {v : Nat} (hv : v < c.up.length) (h : item c v = false) : rightB c = false := by
  cases hr : rightB c with
  | false => rfl
  | true =>
    have := ((right_iff c).1 hr).2 v hv
    rw [h] at this; cases this
/-- The bytes of one vertex's parts. -/
def vertB (c : CertV) (v : Nat) : List Int := natB (c.up.getD v 0 + 1).toNat ++ natB (c.ws.getD v 0).toNat ++ bitsB (wideN c.up.length) (c.sides.getD v []) ++ listB signN (c.flows.getD v [])
def headB : List Int := [71, 72, 67, 49]
def encTo (c : CertV) (k : Nat) : List Int := headB ++ natB c.up.length ++ (List.range k).flatMap (vertB c)
def encB (c : CertV) : List Int := encTo c c.up.length
theorem encTo_succ (c : CertV) (k : Nat) : encTo c (k + 1) = encTo c k ++ vertB c k := by
  unfold encTo
  rw [List.range_succ, List.flatMap_append]
  simp [List.append_assoc]
/-- Numbers that go into 64 bits, none of the flows too long. -/
structure Fits (c : CertV) : Prop where
  fl : ∀ l ∈ c.flows, l.length ≤ 10000 ∧ ∀ x ∈ l, -9223372036854775808 ≤ x ∧ x ≤ 9223372036854775807
  ws : ∀ x ∈ c.ws, -9223372036854775808 ≤ x ∧ x ≤ 9223372036854775807
/-- A row of rows that is read. -/
def RdR (w : World) (v : Value) (ls : List (List Int)) : Prop :=
  ∃ vs : List Value, vs.length = ls.length ∧ Rd w 1 v ls.length vs ∧ ∀ (i : Nat) (x : Value) (l : List Int), vs[i]? = some x → ls[i]? = some l → Rd w 1 x l.length (vi64 l)
theorem RdR.still {w w' : World} {v : Value} {ls : List (List Int)} (h : RdR w v ls) (m : Mod [] w w') : RdR w' v ls := by
  obtain ⟨vs, h1, h2, h3⟩ := h
  exact ⟨vs, h1, h2.still m, fun i x l hx hl => (h3 i x l hx hl).still m⟩
theorem RdR.val {w : World} {v : Value} {ls : List (List Int)} (h : RdR w v ls) : ∃ a c, v = .slice a ls.length c := by
  obtain ⟨vs, h1, h2, h3⟩ := h
  exact h2.val
theorem RdR.le {w : World} {v : Value} {ls : List (List Int)} (h : RdR w v ls) : ls.length ≤ 9223372036854775807 := by
  obtain ⟨vs, h1, h2, h3⟩ := h
  exact h2.le
theorem RdR.nil (w : World) : RdR w (.slice none 0 0) [] := ⟨[], rfl, Rd.nil w 1, by simp⟩
theorem RdR.get {w : World} {a : Option Addr} {c k : Nat} {ls : List (List Int)} (h : RdR w (.slice a ls.length c) ls) (hk : k < ls.length) :
    ∃ g o ax cx, a = some ⟨g, o, none⟩ ∧ w.cell? ⟨g, o + k, none⟩ = some (.slice ax (ls.getD k []).length cx) ∧ Rd w 1 (.slice ax (ls.getD k []).length cx) (ls.getD k []).length (vi64 (ls.getD k [])) := by
  obtain ⟨vs, h1, h2, h3⟩ := h
  obtain ⟨g, o, rfl, _, _, hc⟩ := h2.at (by omega)
  have hl : ls[k]? = some (ls.getD k []) := by rw [List.getElem?_eq_getElem hk, List.getD_eq_getElem?_getD, List.getElem?_eq_getElem hk]; rfl
  have hv : vs[k]? = some vs[k] := List.getElem?_eq_getElem _
  have hr := h3 k _ _ hv hl
  obtain ⟨ax, cx, e⟩ := hr.val
  rw [e] at hr hv
  exact ⟨g, o, ax, cx, rfl, hc k _ hv, hr⟩
theorem rd_get {w : World} {a : Option Addr} {c k : Nat} {l : List Int} (h : Rd w 1 (.slice a l.length c) l.length (vi64 l)) (hk : k < l.length) :
    ∃ g o, a = some ⟨g, o, none⟩ ∧ w.cell? ⟨g, o + k, none⟩ = some (.int .i64 (l.getD k 0)) := by
  obtain ⟨g, o, rfl, _, _, hc⟩ := h.at (by rw [vi64_len]; omega)
  refine ⟨g, o, rfl, hc k _ (vi64_get ?_)⟩
  rw [List.getElem?_eq_getElem hk, List.getD_eq_getElem?_getD, List.getElem?_eq_getElem hk]; rfl
/-- A certificate, by value: its four slices. -/
structure CRep (w : World) (vu vw vs vf : Value) (c : CertV) : Prop where
  up : Rd w 1 vu c.up.length (vi64 c.up)
  ws : Rd w 1 vw c.ws.length (vi64 c.ws)
  sides : RdR w vs c.sides
  flows : RdR w vf c.flows
theorem CRep.still {w w' : World} {vu vw vs vf : Value} {c : CertV} (h : CRep w vu vw vs vf c) (m : Mod [] w w') : CRep w' vu vw vs vf c := ⟨h.up.still m, h.ws.still m, h.sides.still m, h.flows.still m⟩
theorem CRep.vals {w : World} {vu vw vs vf : Value} {c : CertV} (h : CRep w vu vw vs vf c) : ∃ au cu aw cw sa cs af cf, vu = .slice au c.up.length cu ∧ vw = .slice aw c.ws.length cw ∧ vs = .slice sa c.sides.length cs ∧ vf = .slice af c.flows.length cf := by
  obtain ⟨au, cu, h1⟩ := h.up.val
  obtain ⟨aw, cw, h2⟩ := h.ws.val
  obtain ⟨sa, cs, h3⟩ := h.sides.val
  obtain ⟨af, cf, h4⟩ := h.flows.val
  exact ⟨au, cu, aw, cw, sa, cs, af, cf, h1, h2, h3, h4⟩
def BoolM (b : Bool) (w : World) (e : Ending) (w' : World) : Prop := e = .returned (.bool b) ∧ Mod [] w w'
end Code.Cert
end Go.Proofs.Ytmkbinbggiocaaa

set_option linter.unusedVariables false
set_option linter.unusedSimpArgs false
namespace Go.Proofs.Ytmkbinbggiocaaa
open Go.RowKit
namespace Code.Cert
set_option maxRecDepth 100000 in
set_option maxHeartbeats 8000000 in
theorem right_prog {w : World} {vu vw vs vf : Value} (c : CertV) (h : CRep w vu vw vs vf c) :
    Calls Try.prog 89 #[.agg #[vu, vw, vs, vf]] w (BoolM (rightB c) w) := by
  obtain ⟨au, cu, aw, cw, sa, cs, af, cf, rfl, rfl, rfl, rfl⟩ := h.vals
  obtain ⟨wb, hwb⟩ : ∃ wb, wb = w.alloc (.cells #[.slice au c.up.length cu, .slice aw c.ws.length cw, .slice sa c.sides.length cs, .slice af c.flows.length cf] 128) := ⟨_, rfl⟩
  obtain ⟨B, hB⟩ : ∃ B, B = w.heap.size := ⟨_, rfl⟩
  have hbox : Has wb B [.slice au c.up.length cu, .slice aw c.ws.length cw, .slice sa c.sides.length cs, .slice af c.flows.length cf] 128 := by rw [hwb, hB]; exact Has.new w _ _
  have hmw : Mod [] w wb := by rw [hwb]; exact (Mod.refl [] w).alloc _
  have h' := Lib.hid (h.still hmw)
  have hmw' := Lib.hid hmw
  have hbox' := Lib.hid hbox
  have hwb' := Lib.hid hwb
  have hB' := Lib.hid hB
  have hul := h.up.le
  have hwl := h.ws.le
  have hsl := h.sides.le
  have hfl := h.flows.le
  have hm1 := Lib.hid (fun o => (Mod.refl [] w).alloc o)
  clear h hmw hwb hB hbox
  by_cases q0 : 4096 < c.up.length
  · have t0 : decide (4096 < (c.up.length : Int)) = true := by simp; omega
    have e1 : rightB c = false := by unfold rightB lens; simp; omega
    rw [e1]
    clear q0 e1
    go_enter Try.func89, Try.ntmps89
    go_wp2_with fail
    go_ret
    exact ⟨rfl, hm1.out _⟩
  have t0 : decide (4096 < (c.up.length : Int)) = false := by simp; omega
  by_cases q1 : c.ws.length ≠ c.up.length
  · have t1 : ((c.ws.length : Int) != (c.up.length : Int)) = true := by simp; omega
    have e1 : rightB c = false := by unfold rightB lens; simp; omega
    rw [e1]
    clear q1 e1
    go_enter Try.func89, Try.ntmps89
    go_wp2_with fail
    go_ret
    exact ⟨rfl, hm1.out _⟩
  have t1 : ((c.ws.length : Int) != (c.up.length : Int)) = false := by simp; omega
  by_cases q2 : c.sides.length ≠ c.up.length
  · have t2 : ((c.sides.length : Int) != (c.up.length : Int)) = true := by simp; omega
    have e1 : rightB c = false := by unfold rightB lens; simp; omega
    rw [e1]
    clear q2 e1
    go_enter Try.func89, Try.ntmps89
    go_wp2_with fail
    go_ret
    exact ⟨rfl, hm1.out _⟩
  have t2 : ((c.sides.length : Int) != (c.up.length : Int)) = false := by simp; omega
  by_cases q3 : c.flows.length ≠ c.up.length
  · have t3 : ((c.flows.length : Int) != (c.up.length : Int)) = true := by simp; omega
    have e1 : rightB c = false := by unfold rightB lens; simp; omega
    rw [e1]
    clear q3 e1
    go_enter Try.func89, Try.ntmps89
    go_wp2_with fail
    go_ret
    exact ⟨rfl, hm1.out _⟩
  have t3 : ((c.flows.length : Int) != (c.up.length : Int)) = false := by simp; omega
  have q1' : c.ws.length = c.up.length := by omega
  have q2' : c.sides.length = c.up.length := by omega
  have q3' : c.flows.length = c.up.length := by omega
  have hlens : Hid (lens c = true) := by show lens c = true; unfold lens; simp; omega
  have q1'' := Lib.hid q1'
  have q2'' := Lib.hid q2'
  have q3'' := Lib.hid q3'
  clear q1 q2 q3 q1' q2' q3'
  go_enter Try.func89, Try.ntmps89
  go_wp2_with fail
  rw [← hB'.out, ← hwb'.out]
  clear t0 t1 t2 t3
  go_loopw [40] (fun iv wr => ∃ i : Nat, i ≤ c.up.length ∧ iv = .int .i64 i ∧ Mod [] wb wr ∧ ∀ v, v < i → item c v = true) (fun iv _ => c.up.length - (intOf iv).toNat)
  case atStart => exact ⟨0, Nat.zero_le _, rfl, Mod.refl _ _, fun v hv => absurd hv (by omega)⟩
  case round =>
    obtain ⟨i, hi, rfl, hm, hok⟩ := hrel
    obtain ⟨wo, hwo⟩ : ∃ wo : World, wo = wr := ⟨_, rfl⟩
    clear hwo
    have hm' := Lib.hid hm
    have hok' := Lib.hid hok
    clear hm hok
    by_cases hlt : i < c.up.length
    · have hb := hbox'.out.keep hm'.out (by simp)
      have d0 := hb.cell 0 rfl
      have d1 := hb.cell 1 rfl
      have d2 := hb.cell 2 rfl
      have hlt2 : (i : Int) < c.up.length := by omega
      obtain ⟨gu, ou, rfl, hcu⟩ := rd_get (h'.out.up.still hm'.out) hlt
      obtain ⟨gw, ow, rfl, _⟩ := rd_get (k := i) (h'.out.ws.still hm'.out) (by rw [q1''.out]; exact hlt)
      obtain ⟨gs, os, ax, cx, rfl, hcs, hrs⟩ := RdR.get (k := i) (h'.out.sides.still hm'.out) (by rw [q2''.out]; exact hlt)
      have hcall := Lib.hid (bits_any (bs := []) (c.up.length : Int) (c.sides.getD i []) (Rd.nil wr 1) (by simp) hrs)
      have hitem : Hid (item c i = (bitsOk c.up.length (c.sides.getD i []) && decide (-1 ≤ c.up.getD i 0) && decide (c.up.getD i 0 < c.up.length) && decide (0 ≤ c.ws.getD i 0))) := rfl
      have hlt3 : (i : Int) < c.ws.length := by rw [q1''.out]; exact hlt2
      have hlt4 : (i : Int) < c.sides.length := by rw [q2''.out]; exact hlt2
      have hlt5 : i < c.ws.length := by omega
      have hlt6 : i < c.sides.length := by omega
      clear hb hrs
      generalize c.up.getD i 0 = u at *
      generalize c.sides.getD i [] = S at *
      go_wp2_with fail
      refine hcall.out.mono ?_
      intro e w1 h1
      unfold BitsOut at h1
      cases hbo : bitsOk (c.up.length : Int) S with
      | false =>
        rw [hbo] at h1
        simp only [Bool.false_eq_true, if_false] at h1
        obtain ⟨rfl, hm1⟩ := h1
        have hno : rightB c = false := right_no hlt (by rw [hitem.out, hbo]; rfl)
        have hmf := Lib.hid ((hmw'.out.trans hm'.out (by simp)).trans hm1 (by simp))
        have hf : Hid (BoolM (rightB c) w (.returned (.bool false)) w1) := by show BoolM _ _ _ _; rw [hno]; exact ⟨rfl, hmf.out⟩
        try dsimp only
        clear hno hm1 hbo d0 d1 d2 hcu hcs
        go_wp2_with fail
        go_ret
        exact hf.out
      | true =>
        rw [hbo] at h1 hitem
        simp only [if_true] at h1
        obtain ⟨aB, cB, rfl, hmB⟩ := h1
        try dsimp only
        have hm2 := Lib.hid (hm'.out.trans hmB.mod (by simp))
        have hmf := Lib.hid (hmw'.out.trans hm2.out (by simp))
        obtain ⟨gw', ow', hgw, hcw⟩ := rd_get (k := i) (h'.out.ws.still hm2.out) hlt5
        simp only [Option.some.injEq, Addr.mk.injEq, and_true] at hgw
        obtain ⟨rfl, rfl⟩ := hgw
        have hb2 := hbox'.out.keep hm2.out (by simp)
        have f1 := hb2.cell 1 rfl
        clear hmB hbo d0 d1 d2 hcu hcs hb2
        generalize c.ws.getD i 0 = x at *
        by_cases u0 : u < -1
        · have r0 : decide (u < -1) = true := by simpa using u0
          have hno : rightB c = false := right_no hlt (by rw [hitem.out]; simp; omega)
          have hf : Hid (BoolM (rightB c) w (.returned (.bool false)) w1) := by show BoolM _ _ _ _; rw [hno]; exact ⟨rfl, hmf.out⟩
          clear hno
          go_wp2_with fail
          go_ret
          exact hf.out
        have r0 : decide (u < -1) = false := by simpa using u0
        by_cases u1 : (c.up.length : Int) ≤ u
        · have r1 : decide ((c.up.length : Int) ≤ u) = true := by simpa using u1
          have hno : rightB c = false := right_no hlt (by rw [hitem.out]; simp; omega)
          have hf : Hid (BoolM (rightB c) w (.returned (.bool false)) w1) := by show BoolM _ _ _ _; rw [hno]; exact ⟨rfl, hmf.out⟩
          clear hno
          go_wp2_with fail
          go_ret
          exact hf.out
        have r1 : decide ((c.up.length : Int) ≤ u) = false := by simpa using u1
        by_cases u2 : x < 0
        · have r2 : decide (x < 0) = true := by simpa using u2
          have hno : rightB c = false := right_no hlt (by rw [hitem.out]; simp; omega)
          have hf : Hid (BoolM (rightB c) w (.returned (.bool false)) w1) := by show BoolM _ _ _ _; rw [hno]; exact ⟨rfl, hmf.out⟩
          clear hno
          go_wp2_with fail
          go_ret
          exact hf.out
        have r2 : decide (x < 0) = false := by simpa using u2
        have hyes : Hid (item c i = true) := by show item c i = true; rw [hitem.out]; simp; omega
        clear hitem
        go_wp2_with fail
        go_roundw
        case rel =>
          refine ⟨i + 1, by omega, by go_num, hm2.out, fun v hv => ?_⟩
          rcases Nat.lt_or_ge v i with h | h
          · exact hok'.out v h
          · rw [show v = i by omega]; exact hyes.out
        case measure => simp [intOf]; omega
    · have hil : c.up.length = i := by omega
      have hyes : rightB c = true := (right_iff c).2 ⟨hlens.out, fun v hv => hok'.out v (by omega)⟩
      have hmf := Lib.hid (hmw'.out.trans hm'.out (by simp))
      have hf : Hid (BoolM (rightB c) w (.returned (.bool true)) wr) := by show BoolM _ _ _ _; rw [hyes]; exact ⟨rfl, hmf.out⟩
      clear hyes hil
      go_wp2_with fail
      go_ret
      exact hf.out
end Code.Cert
end Go.Proofs.Ytmkbinbggiocaaa

set_option linter.unusedVariables false
set_option linter.unusedSimpArgs false
namespace Go.Proofs.Ytmkbinbggiocaaa
open Go.RowKit
namespace Code.Cert
set_option maxRecDepth 100000 in
set_option maxHeartbeats 8000000 in
theorem right_ref {w : World} {vu vw vs vf : Value} (c : CertV) (h : CRep w vu vw vs vf c) :
    Calls Try.prog 90 #[.agg #[vu, vw, vs, vf]] w (BoolM (rightB c) w) := by
  obtain ⟨au, cu, aw, cw, sa, cs, af, cf, rfl, rfl, rfl, rfl⟩ := h.vals
  obtain ⟨wb, hwb⟩ : ∃ wb, wb = w.alloc (.cells #[.slice au c.up.length cu, .slice aw c.ws.length cw, .slice sa c.sides.length cs, .slice af c.flows.length cf] 130) := ⟨_, rfl⟩
  obtain ⟨B, hB⟩ : ∃ B, B = w.heap.size := ⟨_, rfl⟩
  have hbox : Has wb B [.slice au c.up.length cu, .slice aw c.ws.length cw, .slice sa c.sides.length cs, .slice af c.flows.length cf] 130 := by rw [hwb, hB]; exact Has.new w _ _
  have hmw : Mod [] w wb := by rw [hwb]; exact (Mod.refl [] w).alloc _
  have h' := Lib.hid (h.still hmw)
  have hmw' := Lib.hid hmw
  have hbox' := Lib.hid hbox
  have hwb' := Lib.hid hwb
  have hB' := Lib.hid hB
  have hul := h.up.le
  have hwl := h.ws.le
  have hsl := h.sides.le
  have hfl := h.flows.le
  have hm1 := Lib.hid (fun o => (Mod.refl [] w).alloc o)
  clear h hmw hwb hB hbox
  by_cases q0 : 4096 < c.up.length
  · have t0 : decide (4096 < (c.up.length : Int)) = true := by simp; omega
    have e1 : rightB c = false := by unfold rightB lens; simp; omega
    rw [e1]
    clear q0 e1
    go_enter Try.func90, Try.ntmps90
    go_wp2_with fail
    go_ret
    exact ⟨rfl, hm1.out _⟩
  have t0 : decide (4096 < (c.up.length : Int)) = false := by simp; omega
  by_cases q1 : c.ws.length ≠ c.up.length
  · have t1 : ((c.ws.length : Int) != (c.up.length : Int)) = true := by simp; omega
    have e1 : rightB c = false := by unfold rightB lens; simp; omega
    rw [e1]
    clear q1 e1
    go_enter Try.func90, Try.ntmps90
    go_wp2_with fail
    go_ret
    exact ⟨rfl, hm1.out _⟩
  have t1 : ((c.ws.length : Int) != (c.up.length : Int)) = false := by simp; omega
  by_cases q2 : c.sides.length ≠ c.up.length
  · have t2 : ((c.sides.length : Int) != (c.up.length : Int)) = true := by simp; omega
    have e1 : rightB c = false := by unfold rightB lens; simp; omega
    rw [e1]
    clear q2 e1
    go_enter Try.func90, Try.ntmps90
    go_wp2_with fail
    go_ret
    exact ⟨rfl, hm1.out _⟩
  have t2 : ((c.sides.length : Int) != (c.up.length : Int)) = false := by simp; omega
  by_cases q3 : c.flows.length ≠ c.up.length
  · have t3 : ((c.flows.length : Int) != (c.up.length : Int)) = true := by simp; omega
    have e1 : rightB c = false := by unfold rightB lens; simp; omega
    rw [e1]
    clear q3 e1
    go_enter Try.func90, Try.ntmps90
    go_wp2_with fail
    go_ret
    exact ⟨rfl, hm1.out _⟩
  have t3 : ((c.flows.length : Int) != (c.up.length : Int)) = false := by simp; omega
  have q1' : c.ws.length = c.up.length := by omega
  have q2' : c.sides.length = c.up.length := by omega
  have q3' : c.flows.length = c.up.length := by omega
  have hlens : Hid (lens c = true) := by show lens c = true; unfold lens; simp; omega
  have q1'' := Lib.hid q1'
  have q2'' := Lib.hid q2'
  have q3'' := Lib.hid q3'
  clear q1 q2 q3 q1' q2' q3'
  go_enter Try.func90, Try.ntmps90
  go_wp2_with fail
  rw [← hB'.out, ← hwb'.out]
  clear t0 t1 t2 t3
  go_loopw [4] (fun iv wr => ∃ i : Nat, i ≤ c.up.length ∧ iv = .int .i64 i ∧ Mod [] wb wr ∧ ∀ v, v < i → item c v = true) (fun iv _ => c.up.length - (intOf iv).toNat)
  case atStart => exact ⟨0, Nat.zero_le _, rfl, Mod.refl _ _, fun v hv => absurd hv (by omega)⟩
  case round =>
    obtain ⟨i, hi, rfl, hm, hok⟩ := hrel
    obtain ⟨wo, hwo⟩ : ∃ wo : World, wo = wr := ⟨_, rfl⟩
    clear hwo
    have hm' := Lib.hid hm
    have hok' := Lib.hid hok
    clear hm hok
    have hmf := Lib.hid (hmw'.out.trans hm'.out (by simp))
    by_cases hlt : i < c.up.length
    · have hb := hbox'.out.keep hm'.out (by simp)
      have d0 := hb.cell 0 rfl
      have d1 := hb.cell 1 rfl
      have d2 := hb.cell 2 rfl
      have hlt2 : (i : Int) < c.up.length := by omega
      have hlt3 : (i : Int) < c.ws.length := by rw [q1''.out]; exact hlt2
      have hlt4 : (i : Int) < c.sides.length := by rw [q2''.out]; exact hlt2
      have hlt5 : i < c.ws.length := by rw [q1''.out]; exact hlt
      have hlt6 : i < c.sides.length := by rw [q2''.out]; exact hlt
      obtain ⟨gu, ou, rfl, hcu⟩ := rd_get (h'.out.up.still hm'.out) hlt
      obtain ⟨gw, ow, rfl, hcw⟩ := rd_get (k := i) (h'.out.ws.still hm'.out) hlt5
      obtain ⟨gs, os, ax, cx, rfl, hcs, hrs⟩ := RdR.get (k := i) (h'.out.sides.still hm'.out) hlt6
      have hcall := Lib.hid (refBits_any (c.up.length : Int) (c.sides.getD i []) hrs)
      have hitem : Hid (item c i = (bitsOk c.up.length (c.sides.getD i []) && decide (-1 ≤ c.up.getD i 0) && decide (c.up.getD i 0 < c.up.length) && decide (0 ≤ c.ws.getD i 0))) := rfl
      have t1 : decide ((i : Int) < (c.up.length : Int)) = true := by simp; omega
      have t1' : decide (i < c.up.length) = true := by simpa using hlt
      clear hb hrs
      generalize c.up.getD i 0 = u at *
      generalize c.sides.getD i [] = S at *
      generalize c.ws.getD i 0 = x at *
      by_cases u0 : u < -1
      · have r0 : decide (u < -1) = true := by simpa using u0
        have hno : rightB c = false := right_no hlt (by rw [hitem.out]; simp; omega)
        have hf : Hid (BoolM (rightB c) w (.returned (.bool false)) wr) := by show BoolM _ _ _ _; rw [hno]; exact ⟨rfl, hmf.out⟩
        clear hno
        go_wp2_with fail
        go_ret
        exact hf.out
      have r0 : decide (u < -1) = false := by simpa using u0
      by_cases u1 : (c.up.length : Int) ≤ u
      · have r1 : decide ((c.up.length : Int) ≤ u) = true := by simpa using u1
        have hno : rightB c = false := right_no hlt (by rw [hitem.out]; simp; omega)
        have hf : Hid (BoolM (rightB c) w (.returned (.bool false)) wr) := by show BoolM _ _ _ _; rw [hno]; exact ⟨rfl, hmf.out⟩
        clear hno
        go_wp2_with fail
        go_ret
        exact hf.out
      have r1 : decide ((c.up.length : Int) ≤ u) = false := by simpa using u1
      by_cases u2 : x < 0
      · have r2 : decide (x < 0) = true := by simpa using u2
        have hno : rightB c = false := right_no hlt (by rw [hitem.out]; simp; omega)
        have hf : Hid (BoolM (rightB c) w (.returned (.bool false)) wr) := by show BoolM _ _ _ _; rw [hno]; exact ⟨rfl, hmf.out⟩
        clear hno
        go_wp2_with fail
        go_ret
        exact hf.out
      have r2 : decide (x < 0) = false := by simpa using u2
      go_wp2_with fail
      refine hcall.out.mono ?_
      intro e w1 h1
      unfold RefBitsOut at h1
      cases hbo : bitsOk (c.up.length : Int) S with
      | false =>
        rw [hbo] at h1
        simp only [Bool.false_eq_true, if_false] at h1
        obtain ⟨rfl, hm1⟩ := h1
        have hno : rightB c = false := right_no hlt (by rw [hitem.out, hbo]; rfl)
        have hf : Hid (BoolM (rightB c) w (.returned (.bool false)) w1) := by show BoolM _ _ _ _; rw [hno]; exact ⟨rfl, hmf.out.trans hm1 (by simp)⟩
        try dsimp only
        clear hno hm1 hbo d0 d1 d2 hcu hcs hcw
        go_wp2_with fail
        go_ret
        exact hf.out
      | true =>
        rw [hbo] at h1
        simp only [if_true] at h1
        obtain ⟨aB, cB, rfl, hmB⟩ := h1
        try dsimp only
        have hm2 := Lib.hid (hm'.out.trans hmB.mod (by simp))
        have hyes : Hid (item c i = true) := by show item c i = true; rw [hitem.out, hbo]; simp; omega
        clear hitem hmB hbo d0 d1 d2 hcu hcs hcw
        go_wp2_with fail
        go_roundw
        case rel =>
          refine ⟨i + 1, by omega, by go_num, hm2.out, fun v hv => ?_⟩
          rcases Nat.lt_or_ge v i with h | h
          · exact hok'.out v h
          · rw [show v = i by omega]; exact hyes.out
        case measure => simp [intOf]; omega
    · have hil : c.up.length = i := by omega
      have hyes : rightB c = true := (right_iff c).2 ⟨hlens.out, fun v hv => hok'.out v (by omega)⟩
      have hf : Hid (BoolM (rightB c) w (.returned (.bool true)) wr) := by show BoolM _ _ _ _; rw [hyes]; exact ⟨rfl, hmf.out⟩
      have t1 : decide ((i : Int) < (c.up.length : Int)) = false := by simp; omega
      have t1' : decide (i < c.up.length) = false := by simpa using hlt
      clear hyes hil
      go_wp2_with fail
      go_ret
      exact hf.out
end Code.Cert
end Go.Proofs.Ytmkbinbggiocaaa

set_option linter.unusedVariables false
set_option linter.unusedSimpArgs false
namespace Go.Proofs.Ytmkbinbggiocaaa
open Go.RowKit
namespace Code.Cert
theorem right_at {c : CertV} (h : rightB c = true) {v : Nat} (hv : v < c.up.length) : bitsOk c.up.length (c.sides.getD v []) = true ∧ -1 ≤ c.up.getD v 0 ∧ c.up.getD v 0 < c.up.length ∧ 0 ≤ c.ws.getD v 0 := by
  have := ((right_iff c).1 h).2 v hv
  simp only [item, Bool.and_eq_true, decide_eq_true_eq] at this
  obtain ⟨⟨⟨h1, h2⟩, h3⟩, h4⟩ := this
  exact ⟨h1, h2, h3, h4⟩
theorem right_lens {c : CertV} (h : rightB c = true) : c.up.length ≤ 4096 ∧ c.ws.length = c.up.length ∧ c.sides.length = c.up.length ∧ c.flows.length = c.up.length := by
  have := ((right_iff c).1 h).1
  simp only [lens, Bool.and_eq_true, decide_eq_true_eq] at this
  omega
theorem getD_mem {α : Type} {l : List α} {k : Nat} (d : α) (h : k < l.length) : l.getD k d ∈ l := by
  rw [List.getD_eq_getElem?_getD, List.getElem?_eq_getElem h]
  exact List.getElem_mem h
/-- The box of a certificate, and what it holds. -/
structure Box (w : World) (B : Nat) (t : TypeId) (c : CertV) : Prop where
  ex : ∃ au cu aw cw sa cs af cf, Has w B [.slice au c.up.length cu, .slice aw c.ws.length cw, .slice sa c.sides.length cs, .slice af c.flows.length cf] t ∧ CRep w (.slice au c.up.length cu) (.slice aw c.ws.length cw) (.slice sa c.sides.length cs) (.slice af c.flows.length cf) c
theorem Box.still {w w' : World} {B : Nat} {t : TypeId} {c : CertV} (h : Box w B t c) (m : Mod [] w w') : Box w' B t c := by
  obtain ⟨au, cu, aw, cw, sa, cs, af, cf, h1, h2⟩ := h.ex
  exact ⟨au, cu, aw, cw, sa, cs, af, cf, h1.keep m (by simp), h2.still m⟩
set_option maxHeartbeats 2000000 in
theorem put1 {w : World} {B i : Nat} {c : CertV} (h : Box w B 128 c) (hr : rightB c = true) (hi : i < c.up.length) :
    Calls Try.prog 175 #[.slice none 0 0, .pointer (some ⟨B, 0, none⟩), .int .i64 i] w (MadeOut 5 1 (natB (c.up.getD i 0 + 1).toNat).length (u8s (natB (c.up.getD i 0 + 1).toNat)) w) := by
  obtain ⟨au, cu, aw, cw, sa, cs, af, cf, hh, hc⟩ := h.ex
  obtain ⟨hl, h1, h2, h3⟩ := right_lens hr
  obtain ⟨k1, k2, k3, k4⟩ := right_at hr hi
  obtain ⟨gu, ou, rfl, hcu⟩ := rd_get hc.up hi
  have d0 := hh.cell 0 rfl
  have hi2 : (i : Int) < c.up.length := by omega
  obtain ⟨n, hn⟩ : ∃ n : Nat, c.up.getD i 0 = (n : Int) - 1 := ⟨(c.up.getD i 0 + 1).toNat, by omega⟩
  rw [hn] at hcu k2 k3 ⊢
  have hn4 : n ≤ 4096 := by omega
  have e1 : ((n : Int) - 1 + 1).toNat = n := by omega
  rw [e1]
  have hw1 : IntKind.u64.wrap (n : Int) = (n : Int) := by rw [IntKind.wrap_u64]; omega
  have hcall := nat_any (w := w) (vb := .slice none 0 0) (bs := []) n (by omega) (Rd.nil w 1) (by simp)
  simp only [List.nil_append] at hcall
  have hcall' := Lib.hid hcall
  clear h hh hc hr k1 k4 hn e1 hcall
  go_enter Try.func175, Try.ntmps175
  go_wp2_with fail
  refine hcall'.out.mono ?_
  rintro e w1 ⟨a1, c1, rfl, hm⟩
  dsimp only
  have hm' := Lib.hid hm
  clear hm hcall'
  go_wp2_with fail
  go_ret
  exact ⟨_, _, rfl, hm'.out⟩
set_option maxHeartbeats 2000000 in
theorem put2 {w : World} {B i : Nat} {c : CertV} (h : Box w B 128 c) (hr : rightB c = true) (hf : Fits c) (hi : i < c.up.length) :
    Calls Try.prog 177 #[.slice none 0 0, .pointer (some ⟨B, 0, none⟩), .int .i64 i] w (MadeOut 5 1 (natB (c.ws.getD i 0).toNat).length (u8s (natB (c.ws.getD i 0).toNat)) w) := by
  obtain ⟨au, cu, aw, cw, sa, cs, af, cf, hh, hc⟩ := h.ex
  obtain ⟨hl, h1, h2, h3⟩ := right_lens hr
  obtain ⟨k1, k2, k3, k4⟩ := right_at hr hi
  have hi1 : i < c.ws.length := by omega
  obtain ⟨gw, ow, rfl, hcw⟩ := rd_get hc.ws hi1
  have d1 := hh.cell 1 rfl
  have hi2 : (i : Int) < c.ws.length := by omega
  have hfw := (hf.ws _ (getD_mem 0 hi1)).2
  obtain ⟨n, hn⟩ := Int.eq_ofNat_of_zero_le k4
  rw [hn] at hcw hfw ⊢
  rw [Int.toNat_natCast]
  have hw1 : IntKind.u64.wrap (n : Int) = (n : Int) := by rw [IntKind.wrap_u64]; omega
  have hcall := nat_any (w := w) (vb := .slice none 0 0) (bs := []) n (by omega) (Rd.nil w 1) (by simp)
  simp only [List.nil_append] at hcall
  have hcall' := Lib.hid hcall
  clear h hh hc hr hf k1 k2 k3 k4 hn hcall
  go_enter Try.func177, Try.ntmps177
  go_wp2_with fail
  refine hcall'.out.mono ?_
  rintro e w1 ⟨a1, c1, rfl, hm⟩
  dsimp only
  have hm' := Lib.hid hm
  clear hm hcall'
  go_wp2_with fail
  go_ret
  exact ⟨_, _, rfl, hm'.out⟩
set_option maxHeartbeats 2000000 in
theorem put3 {w : World} {B i : Nat} {c : CertV} (h : Box w B 128 c) (hr : rightB c = true) (hi : i < c.up.length) :
    Calls Try.prog 179 #[.slice none 0 0, .pointer (some ⟨B, 0, none⟩), .int .i64 i] w (MadeOut 5 1 (bitsB (wideN c.up.length) (c.sides.getD i [])).length (u8s (bitsB (wideN c.up.length) (c.sides.getD i []))) w) := by
  obtain ⟨au, cu, aw, cw, sa, cs, af, cf, hh, hc⟩ := h.ex
  obtain ⟨hl, h1, h2, h3⟩ := right_lens hr
  obtain ⟨k1, k2, k3, k4⟩ := right_at hr hi
  have hi1 : i < c.sides.length := by omega
  have hi2 : (i : Int) < c.sides.length := by omega
  obtain ⟨gs, os, ax, cx, rfl, hcs, hrs⟩ := RdR.get hc.sides hi1
  have hcall := bits_any (w := w.drew) (vb := .slice none 0 0) (bs := []) (c.sides.length : Int) (c.sides.getD i []) (Rd.nil _ 1) (by simp) (hrs.still (Mod.refl [] w).drew)
  rw [h2] at hcall
  have hcall' := Lib.hid (hcall.mono fun e w' h => show ∃ a c', e = .returned (.tuple #[.slice a (bitsB (wideN c.up.length) (c.sides.getD i [])).length c', .bool true]) ∧ Made w.drew w' 5 1 a (bitsB (wideN c.up.length) (c.sides.getD i [])).length c' (u8s (bitsB (wideN c.up.length) (c.sides.getD i []))) by simpa only [BitsOut, k1, if_true, List.nil_append] using h)
  have f1 : ∀ m : FutM w.drew, m.v.cell? ⟨B, 2, none⟩ = some (.slice (some ⟨gs, os, none⟩) c.sides.length cs) := fun m => (hh.keep ((Mod.refl [] w).drew.trans m.of (by simp)) (by simp)).cell 2 rfl
  have f2 : ∀ m : FutM w.drew, m.v.cell? ⟨gs, os + i, none⟩ = some (.slice ax (c.sides.getD i []).length cx) := fun m => by
    obtain ⟨gs', os', ax', cx', e, hcs', _⟩ := RdR.get (hc.sides.still ((Mod.refl [] w).drew.trans m.of (by simp))) hi1
    simp only [Option.some.injEq, Addr.mk.injEq, and_true] at e
    obtain ⟨rfl, rfl⟩ := e
    have hmm : Mod [] w m.v := (Mod.refl [] w).drew.trans m.of (by simp)
    exact (World.cell?_of_block (hmm.block _ (World.block_lt_of_cell? w _ hcs) (by simp))).trans hcs
  generalize c.sides.getD i [] = S at *
  generalize bitsB (wideN c.up.length) S = out at *
  have h2' := Lib.hid h2
  have hsl : c.sides.length ≤ 4096 := by omega
  rw [← h2'.out] at hcall'
  clear h hh hc hr k1 k2 k3 k4 h1 h2 h3 hcs hrs hcall hi
  go_enter Try.func179, Try.ntmps179
  go_wp2_with fail
  refine region_sched (G := Mod []) [([0,1,2,3,4,5,6,7,8,9,10,11,12],13)] [14,15,16,17,18] (by kernel_rfl) (by kernel_rfl) (by kernel_rfl) rfl (Mod.refl []) (fun _ _ _ h1 h2 => h1.trans h2 (by simp)) ?_
  simp only [stages, pickO, nthO, headO, List.cons_append, List.nil_append]
  refine sched_step ?_
  repeat (go_big_quiet_step (fail))
  refine wpQuiet_nil ?_
  intro K hK
  rw [if_pos (by rfl)]
  go_simp
  refine hcall'.out.mono ?_
  rintro e w1 ⟨a1, c1, rfl, hm⟩
  dsimp only
  refine hK.out _ _ hm.mod ?_
  clear hK K
  have hm' := Lib.hid (hm.before (Mod.refl [] w).drew)
  clear hm hcall' f1 f2
  refine sched_last ?_
  repeat (go_big_quiet_step (fail))
  refine wpQuiet_nil ?_
  go_wp2_with fail
  go_ret
  exact ⟨_, _, rfl, hm'.out⟩
set_option maxHeartbeats 2000000 in
theorem put4 {w : World} {B i : Nat} {c : CertV} (h : Box w B 128 c) (hr : rightB c = true) (hf : Fits c) (hi : i < c.up.length) :
    Calls Try.prog 181 #[.slice none 0 0, .pointer (some ⟨B, 0, none⟩), .int .i64 i] w (MadeOut 5 1 (listB signN (c.flows.getD i [])).length (u8s (listB signN (c.flows.getD i []))) w) := by
  obtain ⟨au, cu, aw, cw, sa, cs, af, cf, hh, hc⟩ := h.ex
  obtain ⟨hl, h1, h2, h3⟩ := right_lens hr
  have hi1 : i < c.flows.length := by omega
  have hi2 : (i : Int) < c.flows.length := by omega
  obtain ⟨gs, os, ax, cx, rfl, hcs, hrs⟩ := RdR.get hc.flows hi1
  have d2 := hh.cell 2 rfl
  have d3 := hh.cell 3 rfl
  have hfl := hf.fl _ (getD_mem [] hi1)
  have hcall := ints_any (w := w) (vb := .slice none 0 0) (bs := []) (c.flows.getD i []) hfl.2 (Rd.nil _ 1) (by simp) hrs hfl.1
  simp only [List.nil_append] at hcall
  have hcall' := Lib.hid hcall
  generalize c.flows.getD i [] = S at *
  generalize listB signN S = out at *
  clear h hh hc hr hf hcall hrs hfl hi
  go_enter Try.func181, Try.ntmps181
  go_wp2_with fail
  refine hcall'.out.mono ?_
  rintro e w1 ⟨a1, c1, rfl, hm⟩
  dsimp only
  have hm' := Lib.hid hm
  clear hm hcall'
  go_wp2_with fail
  go_ret
  exact ⟨_, _, rfl, hm'.out⟩
end Code.Cert
end Go.Proofs.Ytmkbinbggiocaaa

set_option linter.unusedVariables false
set_option linter.unusedSimpArgs false
namespace Go.Proofs.Ytmkbinbggiocaaa
open Go.RowKit
namespace Code.Cert
def partsV : List Value := [.func (.func 175) #[] #[], .func (.func 176) #[] #[], .func (.func 177) #[] #[], .func (.func 178) #[] #[], .func (.func 179) #[] #[], .func (.func 180) #[] #[], .func (.func 181) #[] #[], .func (.func 182) #[] #[]]
def PartsOut (w : World) (e : Ending) (w' : World) : Prop := ∃ g, e = .returned (.slice (some ⟨g, 0, none⟩) 4 4) ∧ Has w' g partsV 206 ∧ Mod [] w w' ∧ w.heap.size ≤ g
set_option maxHeartbeats 1000000 in
theorem parts_any (w : World) : Calls Try.prog 148 #[] w (PartsOut w) := by
  have h := Lib.hid (Has.new w partsV 206)
  have hm := Lib.hid (fun o => (Mod.refl [] w).alloc o)
  go_enter Try.func148, Try.ntmps148
  go_wp2_with fail
  go_ret
  exact ⟨_, rfl, h.out, hm.out _, Nat.le_refl _⟩
end Code.Cert
end Go.Proofs.Ytmkbinbggiocaaa
