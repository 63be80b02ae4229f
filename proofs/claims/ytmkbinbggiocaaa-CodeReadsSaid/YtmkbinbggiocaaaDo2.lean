/- A call of the reference's reader, by its number. -/
import Derived.Test.YtmkbinbggiocaaaDo1
set_option linter.unusedVariables false
set_option linter.unusedSimpArgs false
namespace Go.Proofs.Ytmkbinbggiocaaa
open Go.RowKit
namespace Code
def XDoOut (w0 w : World) (r : Nat) (vb : Value) (bs : List Int) (k : Nat) (stop : Bool) (K N : Int) (ss : List Int) (e : Ending) (w' : World) : Prop :=
  ∃ v, e = .returned v ∧ Rd w' 1 v (rDo bs k stop K N ss).1.length (vi64 (rDo bs k stop K N ss).1) ∧ (∀ g, v.ownBlock = some g → w.heap.size ≤ g) ∧ XAt w0 w' r vb bs (rDo bs k stop K N ss).2.1 (rDo bs k stop K N ss).2.2 ∧ Mod [r] w w'
theorem xdo_one {w0 w : World} {r k : Nat} {vb : Value} {bs : List Int} {stop : Bool} {K N : Int} {ss : List Int} {w1 : World} (x : Int) (h : (rDo bs k stop K N ss).1 = [x]) (hR : XAt w0 w1 r vb bs (rDo bs k stop K N ss).2.1 (rDo bs k stop K N ss).2.2) (m : Mod [r] w w1) (hr : r < w.heap.size) :
    ∀ v, v = x → XDoOut w0 w r vb bs k stop K N ss (.returned (.slice (some ⟨w1.heap.size, 0, none⟩) 1 1)) (w1.alloc (.cells #[.int .i64 v] 3)) := by
  intro v e
  subst e
  have hm := made_lit w1 3 [.int .i64 v] (by simp)
  unfold XDoOut
  rw [h]
  refine ⟨_, rfl, Rd.own hm.own, fun g hg => ?_, hR.still ((Mod.refl [] w1).alloc _), m.alloc _⟩
  exact Nat.le_trans m.size (hm.new g hg)
set_option maxHeartbeats 4000000 in
theorem xDo {w0 w : World} {r k : Nat} {vb : Value} {bs : List Int} {stop : Bool} (K N : Int) (s : ByteArray) (hs : s.size ≤ 9223372036854775807) (h : XAt w0 w r vb bs k stop) (hbb : ∀ x ∈ bs, 0 ≤ x ∧ x < 256) :
    Calls Try.prog 51 #[.pointer (some ⟨r, 0, none⟩), .agg #[.int .i64 K, .int .i64 N, .string s]] w (XDoOut w0 w r vb bs k stop K N (bytesI s)) := by
  obtain ⟨wb, hwb⟩ : ∃ wb, wb = w.alloc (.cells #[.int .i64 K, .int .i64 N, .string s] 78) := ⟨_, rfl⟩
  obtain ⟨B, hB⟩ : ∃ B, B = w.heap.size := ⟨_, rfl⟩
  have hbox : Has wb B [.int .i64 K, .int .i64 N, .string s] 78 := by rw [hwb, hB]; exact Has.new w _ _
  have hmw : Mod [] w wb := by rw [hwb]; exact (Mod.refl [] w).alloc _
  have hrl := h.has.lt
  have h' := Lib.hid (h.still hmw)
  have hmw' := Lib.hid hmw
  have b0 := hbox.cell 0 rfl
  have b1 := hbox.cell 1 rfl
  have b2 := hbox.cell 2 rfl
  have hBl := hbox.lt
  have hwb' := Lib.hid hwb
  have hB' := Lib.hid hB
  have hlt := rNat_lt (k := k) (stop := stop) hbb
  have hbb' := Lib.hid hbb
  clear h hbb hmw hwb hB hbox
  by_cases k0 : K = 0
  · have t0 : (K == 0) = true := by simp [k0]
    have e1 : rDo bs k stop K N (bytesI s) = ([IntKind.i64.wrap ((rNat bs k stop).1 : Int)], (rNat bs k stop).2) := by unfold rDo; rw [if_pos k0]
    have k0' := Lib.hid k0
    have e1' := Lib.hid e1
    clear k0 e1
    go_enter Try.func51, Try.ntmps51
    go_wp2_with fail
    rw [← hB'.out, ← hwb'.out]
    go_wp2_with fail
    refine (xNat h'.out hbb'.out).mono ?_
    rintro e w1 ⟨rfl, hR, hm⟩
    try dsimp only
    have hfin := Lib.hid (xdo_one (K := K) (N := N) (ss := bytesI s) (IntKind.i64.wrap ((rNat bs k stop).1 : Int)) (by rw [e1'.out]) (by rw [e1'.out]; exact hR) (hmw'.out.of0.trans hm (fun b hb _ => hb)) hrl)
    clear hR hm
    generalize (rNat bs k stop).1 = n at *
    go_wp2_with fail
    go_ret
    exact hfin.out _ (by first | rfl | exact (IntWalk.i64_left _).symm)
  have t0 : (K == 0) = false := by simpa using k0
  by_cases k1 : K = 1
  · have t1 : (K == 1) = true := by simp [k1]
    have e1 : rDo bs k stop K N (bytesI s) = ([unsign (rNat bs k stop).1], (rNat bs k stop).2) := by unfold rDo; rw [if_neg k0]; rw [if_pos k1]
    have k1' := Lib.hid k1
    have e1' := Lib.hid e1
    clear k1 e1
    go_enter Try.func51, Try.ntmps51
    go_wp2_with fail
    rw [← hB'.out, ← hwb'.out]
    go_wp2_with fail
    refine (xInt h'.out hbb'.out).mono ?_
    rintro e w1 ⟨rfl, hR, hm⟩
    try dsimp only
    have hfin := Lib.hid (xdo_one (K := K) (N := N) (ss := bytesI s) (unsign (rNat bs k stop).1) (by rw [e1'.out]) (by rw [e1'.out]; exact hR) (hmw'.out.of0.trans hm (fun b hb _ => hb)) hrl)
    clear hR hm
    generalize (rNat bs k stop).1 = n at *
    go_wp2_with fail
    go_ret
    exact hfin.out _ (by first | rfl | exact (IntWalk.i64_left _).symm)
  have t1 : (K == 1) = false := by simpa using k1
  by_cases k2 : K = 2
  · have t2 : (K == 2) = true := by simp [k2]
    have e1 : rDo bs k stop K N (bytesI s) = ([((rCount bs k stop).1 : Int)], (rCount bs k stop).2) := by unfold rDo; rw [if_neg k0]; rw [if_neg k1]; rw [if_pos k2]
    have k2' := Lib.hid k2
    have e1' := Lib.hid e1
    clear k2 e1
    go_enter Try.func51, Try.ntmps51
    go_wp2_with fail
    rw [← hB'.out, ← hwb'.out]
    go_wp2_with fail
    refine (xCount h'.out hbb'.out).mono ?_
    rintro e w1 ⟨rfl, hR, hm⟩
    try dsimp only
    have hfin := Lib.hid (xdo_one (K := K) (N := N) (ss := bytesI s) (((rCount bs k stop).1 : Int)) (by rw [e1'.out]) (by rw [e1'.out]; exact hR) (hmw'.out.of0.trans hm (fun b hb _ => hb)) hrl)
    clear hR hm
    generalize (rCount bs k stop).1 = n at *
    go_wp2_with fail
    go_ret
    exact hfin.out _ (by first | rfl | exact (IntWalk.i64_left _).symm)
  have t2 : (K == 2) = false := by simpa using k2
  by_cases k3 : K = 3
  · have t3 : (K == 3) = true := by simp [k3]
    have e1 : rDo bs k stop K N (bytesI s) = rBits bs k stop N := by unfold rDo; rw [if_neg k0]; rw [if_neg k1]; rw [if_neg k2]; rw [if_pos k3]
    have k3' := Lib.hid k3
    have e1' := Lib.hid e1
    clear k0 k1 k2 k3 e1
    go_enter Try.func51, Try.ntmps51
    go_wp2_with fail
    rw [← hB'.out, ← hwb'.out]
    go_wp2_with fail
    refine (xBits N h'.out hbb'.out).mono ?_
    rintro e w1 ⟨v, rfl, hv, hn, hR, hm⟩
    try dsimp only
    have hfin : XDoOut w0 w r vb bs k stop K N (bytesI s) (.returned v) w1 := by
      unfold XDoOut
      rw [e1'.out]
      exact ⟨_, rfl, hv, fun g hg => Nat.le_trans hmw'.out.size (hn g hg), hR, hmw'.out.of0.trans hm (fun b hb _ => hb)⟩
    have hfin' := Lib.hid hfin
    clear hfin hv hn hR hm
    go_wp2_with fail
    go_ret
    exact hfin'.out
  have t3 : (K == 3) = false := by simpa using k3
  have e1 : rDo bs k stop K N (bytesI s) = ([], rMark bs k stop (bytesI s)) := by unfold rDo; rw [if_neg k0]; rw [if_neg k1]; rw [if_neg k2]; rw [if_neg k3]
  have e1' := Lib.hid e1
  clear k0 k1 k2 k3 e1
  go_enter Try.func51, Try.ntmps51
  go_wp2_with fail
  rw [← hB'.out, ← hwb'.out]
  go_wp2_with fail
  refine (xMark s hs h'.out hbb'.out).mono ?_
  rintro e w1 ⟨rfl, hR, hm⟩
  try dsimp only
  have hfin : XDoOut w0 w r vb bs k stop K N (bytesI s) (.returned (.slice none 0 0)) w1 := by
    unfold XDoOut
    rw [e1'.out]
    exact ⟨_, rfl, Rd.nil _ _, by simp [Value.ownBlock], hR, hmw'.out.of0.trans hm (fun b hb _ => hb)⟩
  have hfin' := Lib.hid hfin
  clear hfin hR hm
  go_wp2_with fail
  go_ret
  exact hfin'.out
end Code
end Go.Proofs.Ytmkbinbggiocaaa
