/- The reference's reader: Int. -/
import Derived.Test.YtmkbinbggiocaaaRefRead2
set_option linter.unusedVariables false
set_option linter.unusedSimpArgs false
namespace Go.Proofs.Ytmkbinbggiocaaa
open Go.RowKit
namespace Code
set_option maxHeartbeats 2000000 in
theorem xInt {w0 w : World} {r k : Nat} {vb : Value} {bs : List Int} {stop : Bool} (h : XAt w0 w r vb bs k stop) (hbb : ∀ x ∈ bs, 0 ≤ x ∧ x < 256) :
    Calls Try.prog 107 #[.pointer (some ⟨r, 0, none⟩)] w (XNatOut w0 w r vb bs k stop fun n => .int .i64 (unsign n)) := by
  have hn := Lib.hid (xNat h hbb)
  have hlt := rNat_lt (k := k) (stop := stop) hbb
  clear h hbb
  go_enter Try.func107, Try.ntmps107
  go_wp2_with fail
  refine hn.out.mono ?_
  rintro e w1 ⟨rfl, hR, hm⟩
  dsimp only
  have hfin : ∀ v, v = unsign (rNat bs k stop).1 → XNatOut w0 w r vb bs k stop (fun n => .int .i64 (unsign n)) (.returned (.int .i64 v)) w1 := fun v hv => ⟨by rw [hv], hR, hm⟩
  have hfin' := Lib.hid hfin
  clear hfin hR hm hn
  generalize (rNat bs k stop).1 = n at *
  obtain ⟨q, hq⟩ : ∃ q, q = n / 2 := ⟨_, rfl⟩
  have hq1 : q < 9223372036854775808 := by omega
  have hd2 : (n : Int) / 2 = (q : Int) := by omega
  have hw : IntKind.i64.wrap (q : Int) = (q : Int) := IntWalk.i64_in _ (by omega)
  have hw2 : IntKind.i64.wrap (-1 - (q : Int)) = -1 - (q : Int) := IntWalk.i64_in _ (by omega)
  by_cases hp : n % 2 = 0
  · have hu0 : unsign n = (q : Int) := by unfold unsign; rw [if_pos hp, hq]
    have hu := Lib.hid hu0
    have t : (((n : Int) % 2) == 1) = false := by simp; omega
    have t' : ((n % 2) == 1) = false := by simp [hp]
    clear hp hu0 hq
    go_wp2_with fail
    go_ret
    exact hfin'.out _ hu.out.symm
  · have hu0 : unsign n = -1 - (q : Int) := by unfold unsign; rw [if_neg hp, hq]; omega
    have hu := Lib.hid hu0
    have t : (((n : Int) % 2) == 1) = true := by simp; omega
    have t' : ((n % 2) == 1) = true := by simp; omega
    clear hp hu0 hq
    go_wp2_with fail
    go_ret
    exact hfin'.out _ hu.out.symm
end Code
end Go.Proofs.Ytmkbinbggiocaaa
