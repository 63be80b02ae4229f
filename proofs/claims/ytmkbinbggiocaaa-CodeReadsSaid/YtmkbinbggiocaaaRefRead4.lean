/- The reference's reader: Count. -/
import Derived.Test.YtmkbinbggiocaaaRefRead3
import Derived.Test.YtmkbinbggiocaaaReader3
set_option linter.unusedVariables false
set_option linter.unusedSimpArgs false
namespace Go.Proofs.Ytmkbinbggiocaaa
open Go.RowKit
namespace Code
def XCountOut (w0 w : World) (r : Nat) (vb : Value) (bs : List Int) (k : Nat) (stop : Bool) (e : Ending) (w' : World) : Prop :=
  e = .returned (.int .i64 (rCount bs k stop).1) ∧ XAt w0 w' r vb bs (rCount bs k stop).2.1 (rCount bs k stop).2.2 ∧ Mod [r] w w'
theorem rCount_of {bs : List Int} {k : Nat} {stop : Bool} {n k2 : Nat} {s2 : Bool} (h : rNat bs k stop = (n, k2, s2)) : rCount bs k stop = if n ≤ bs.length - k2 then (n, k2, s2) else (0, k, true) := by
  unfold rNat at h
  unfold rCount
  split at h
  · rename_i hs
    simp only [Prod.mk.injEq] at h
    obtain ⟨rfl, rfl, rfl⟩ := h
    rw [if_pos hs, if_pos (by omega)]
  · rename_i hs
    rw [if_neg hs]
    split at h
    · rename_i m j hp
      simp only [Prod.mk.injEq] at h
      obtain ⟨rfl, rfl, rfl⟩ := h
      rw [hp]
      simp only [Nat.sub_sub]
    · rename_i hp
      simp only [Prod.mk.injEq] at h
      obtain ⟨rfl, rfl, rfl⟩ := h
      rw [hp, if_pos (by omega)]
set_option maxHeartbeats 4000000 in
theorem xCount {w0 w : World} {r k : Nat} {vb : Value} {bs : List Int} {stop : Bool} (h : XAt w0 w r vb bs k stop) (hbb : ∀ x ∈ bs, 0 ≤ x ∧ x < 256) :
    Calls Try.prog 108 #[.pointer (some ⟨r, 0, none⟩)] w (XCountOut w0 w r vb bs k stop) := by
  obtain ⟨ab, cb, rfl⟩ := h.rd.val
  have hn := Lib.hid (xNat h hbb)
  have hlt := rNat_lt (k := k) (stop := stop) hbb
  have c1 := h.has.cell 1 rfl
  have hle := h.le
  have hbig := h.big
  clear h hbb
  go_enter Try.func108, Try.ntmps108
  go_wp2_with fail
  refine hn.out.mono ?_
  intro e w1 he
  unfold XNatOut at he
  rcases hrn : rNat bs k stop with ⟨n, k2, s2⟩
  rw [hrn] at he hlt
  obtain ⟨rfl, hX, hm⟩ := he
  have hrc := rCount_of hrn
  dsimp only at hX
  dsimp only
  have d0 := hX.has.cell 0 rfl
  have d1 := hX.has.cell 1 rfl
  have d2 := hX.has.cell 2 rfl
  have f1 := hX.has.free 1
  have f2 := hX.has.free 2
  have hl1 := hX.has.lt
  have hk2 := hX.le
  have hX' := Lib.hid hX
  have hm' := Lib.hid hm
  obtain ⟨q, hq⟩ : ∃ q, q = bs.length - k2 := ⟨_, rfl⟩
  rw [← hq] at hrc
  have hw1 : IntKind.i64.wrap ((bs.length : Int) - (k2 : Int)) = (q : Int) := by rw [IntWalk.i64_in _ (by omega)]; omega
  have hw2 : IntKind.u64.wrap (q : Int) = (q : Int) := by rw [IntKind.wrap_u64]; omega
  have hrc' := Lib.hid hrc
  simp only at hlt
  clear hX hm hrn hrc c1 hn
  by_cases hle2 : n ≤ q
  · have t : decide ((q : Int) < (n : Int)) = false := by simp; omega
    have t' : decide (q < n) = false := by simp; omega
    have hwn : IntKind.i64.wrap (n : Int) = (n : Int) := IntWalk.i64_in _ (by omega)
    have hle3 := Lib.hid hle2
    clear hq hle2
    go_wp2_with fail
    go_quiet (fail)
    have hf : XCountOut w0 w r (.slice ab bs.length cb) bs k stop (.returned (.int .i64 n)) (w1.drewN nq) := by
      unfold XCountOut
      rw [hrc'.out, if_pos hle3.out]
      exact ⟨rfl, hX'.out.still ((Mod.refl [] w1).drewN nq), trM r _ _ _ hm'.out ((Mod.refl [r] w1).drewN nq)⟩
    have hf' := Lib.hid hf
    clear hf
    go_wp2_with fail
    go_ret
    exact hf'.out
  · have t : decide ((q : Int) < (n : Int)) = true := by simp; omega
    have t' : decide (q < n) = true := by simp; omega
    have hle3 := Lib.hid hle2
    have hf : ∀ nq, XCountOut w0 w r (.slice ab bs.length cb) bs k stop (.returned (.int .i64 0)) (((w1.drewN nq).setCell ⟨r, 1, none⟩ (.int .i64 k)).setCell ⟨r, 2, none⟩ (.bool true)) := fun nq => by
      have hg := (hX'.out.still ((Mod.refl [] w1).drewN nq)).go k hle
      unfold XCountOut
      rw [hrc'.out, if_neg hle3.out]
      exact ⟨by simp, hg.1.halt.1, trM r _ _ _ (trM r _ _ _ (trM r _ _ _ hm'.out ((Mod.refl [r] w1).drewN nq)) hg.2) hg.1.halt.2⟩
    have hf' := Lib.hid hf
    clear hf hq hle2
    go_wp2_with fail
    go_quiet (fail)
    go_wp2_with fail
    go_ret
    exact hf'.out _
end Code
end Go.Proofs.Ytmkbinbggiocaaa
