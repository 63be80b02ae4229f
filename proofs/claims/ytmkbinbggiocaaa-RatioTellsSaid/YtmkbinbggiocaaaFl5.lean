/- Floats: the mean of a list. -/
import Derived.Test.YtmkbinbggiocaaaFl4
set_option linter.unusedVariables false
set_option linter.unusedSimpArgs false
namespace Go.Proofs.Ytmkbinbggiocaaa
open Go.RowKit
namespace Fl
def vf64 (fs : List Nat) : List Value := fs.map fun b => .float .f64 b
theorem vf64_len (fs : List Nat) : (vf64 fs).length = fs.length := by simp [vf64]
theorem vf64_get {fs : List Nat} {k : Nat} (h : k < fs.length) : (vf64 fs)[k]? = some (.float .f64 (fs.getD k 0)) := by
  simp [vf64, List.getElem?_eq_getElem h, List.getD_eq_getElem?_getD]
def fsum (fs : List Nat) : Option Nat := fs.foldl (fun s b => fadd s (fl b)) (some 0)
theorem fsum_take {fs : List Nat} {k : Nat} (h : k < fs.length) : fsum (fs.take (k + 1)) = fadd (fsum (fs.take k)) (fl (fs.getD k 0)) := by
  unfold fsum
  rw [List.take_add_one, List.getElem?_eq_getElem h, List.getD_eq_getElem?_getD, List.getElem?_eq_getElem h, List.foldl_append]
  rfl
theorem fsum_none {fs : List Nat} {b : Nat} (hb : b ∈ fs) (h : fl b = none) : fsum fs = none := by
  have key : ∀ (gs : List Nat) (s : Option Nat), (s = none ∨ b ∈ gs) → gs.foldl (fun s b => fadd s (fl b)) s = none := by
    intro gs
    induction gs with
    | nil => intro s hs; rcases hs with rfl | hs
             · rfl
             · cases hs
    | cons g gs ih =>
      intro s hs
      rw [List.foldl_cons]
      refine ih _ ?_
      rcases hs with rfl | hs
      · left; rfl
      · rcases List.mem_cons.1 hs with rfl | hs
        · left
          rw [h]
          cases s <;> rfl
        · exact .inr hs
  exact key fs _ (.inr hb)
theorem fadd_none_left (y : Option Nat) : fadd none y = none := rfl
theorem fquo_none_left (y : Option Nat) : fquo none y = none := rfl
theorem rd_float {w : World} {a : Option Addr} {c k : Nat} {fs : List Nat} (h : Rd w 1 (.slice a fs.length c) fs.length (vf64 fs)) (hk : k < fs.length) :
    ∃ g o, a = some ⟨g, o, none⟩ ∧ w.cell? ⟨g, o + k, none⟩ = some (.float .f64 (fs.getD k 0)) := by
  obtain ⟨g, o, rfl, _, _, hc⟩ := h.at (by rw [vf64_len]; omega)
  exact ⟨g, o, rfl, hc k _ (vf64_get hk)⟩
set_option maxHeartbeats 1000000 in
theorem mean_any {w : World} {v : Value} {fs : List Nat} (h : Rd w 1 v fs.length (vf64 fs)) :
    Calls Try.prog 57 #[v] w fun e w' => ∃ r, e = .returned (.float .f64 r) ∧ fl r = fquo (fsum fs) (some (cv fs.length)) ∧ Mod [] w w' := by
  obtain ⟨a1, c1, rfl⟩ := h.val
  have hm1 := h.le
  have h' := Lib.hid h
  clear h
  go_enter Try.func57, Try.ntmps57
  go_wp2
  go_loopw [3, 8] (fun s i wr => ∃ k sb : Nat, k ≤ fs.length ∧ s = .float .f64 sb ∧ i = .int .i64 k ∧ fl sb = fsum (fs.take k) ∧ Mod [] w wr) (fun _ i _ => fs.length - (intOf i).toNat)
  case atStart => exact ⟨0, 0, Nat.zero_le _, rfl, rfl, by rw [List.take_zero]; decide +kernel, Mod.refl _ _⟩
  case round =>
    obtain ⟨k, sb, hk, rfl, rfl, hs, hm⟩ := hrel
    by_cases hlt : k < fs.length
    · obtain ⟨g1, o1, rfl, hc1⟩ := rd_float (h'.out.still hm) hlt
      have hlt1 : (k : Int) < fs.length := by omega
      obtain ⟨q, w1, hrun, hq, _, hw⟩ := run_add (P := Try.prog) wr 81 sb (fs.getD k 0)
      have hm2 : Mod [] w w1 := by
        rcases hw with rfl | rfl
        · exact hm
        · exact hm.drew
      have hfin := Lib.hid (show fl q = fsum (fs.take (k + 1)) by rw [fsum_take hlt, hq, hs])
      have hm2' := Lib.hid hm2
      clear hm hm2 hs hq hw
      generalize fs.getD k 0 = u at *
      go_wp2
      go_roundw
      case rel => exact ⟨k + 1, q, by omega, rfl, by go_num, hfin.out, hm2'.out⟩
      case measure => simp [intOf]; omega
    · have hk' : k = fs.length := by omega
      subst hk'
      rw [List.take_length] at hs
      obtain ⟨q, w1, hrun, hq, _, hw⟩ := run_quo (P := Try.prog) wr 81 sb (cv fs.length)
      have hm2 : Mod [] w w1 := by
        rcases hw with rfl | rfl
        · exact hm
        · exact hm.drew
      rw [hs, fl_cv] at hq
      have hq' := Lib.hid hq
      have hm2' := Lib.hid hm2
      unfold cv at hrun
      clear hq hm hm2 hs hw
      go_wp2
      go_ret
      exact ⟨q, rfl, hq'.out, hm2'.out⟩
end Fl
end Go.Proofs.Ytmkbinbggiocaaa
