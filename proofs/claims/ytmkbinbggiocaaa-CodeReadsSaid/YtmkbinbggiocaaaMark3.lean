/- Mark of the reference's reader. -/
import Derived.Test.YtmkbinbggiocaaaMark2
set_option linter.unusedVariables false
set_option linter.unusedSimpArgs false
namespace Go.Proofs.Ytmkbinbggiocaaa
open Go.RowKit
namespace Code
theorem isPre_str {xs : List Int} (s : ByteArray) (hx : ∀ x ∈ xs, 0 ≤ x ∧ x < 256) : ((strOfNums (xs.take s.size)).toList == s.toList) = isPre xs (bytesI s) := by
  have h := str_beq (a := xs.take s.size) (b := bytesI s) (fun x h => hx x (List.mem_of_mem_take h)) (bytesI_byte s)
  rw [str_bytesI] at h
  rw [h]
  unfold isPre
  rw [bytesI_len]
  by_cases e : xs.take s.size = bytesI s
  · rw [decide_eq_true e, decide_eq_true e.symm]
  · rw [decide_eq_false e, decide_eq_false (fun x => e x.symm)]
set_option maxRecDepth 100000 in
set_option maxHeartbeats 4000000 in
theorem xMark {w0 w : World} {r k : Nat} {vb : Value} {bs : List Int} {stop : Bool} (s : ByteArray) (hs : s.size ≤ 9223372036854775807) (h : XAt w0 w r vb bs k stop) (hbb : ∀ x ∈ bs, 0 ≤ x ∧ x < 256) :
    Calls Try.prog 110 #[.pointer (some ⟨r, 0, none⟩), .string s] w (XMarkOut w0 w r vb bs k stop (bytesI s)) := by
  obtain ⟨ab, cb, rfl⟩ := h.rd.val
  have hx : Hid (∀ x ∈ bs.drop k, 0 ≤ x ∧ x < 256) := fun x hx => hbb x (List.mem_of_mem_drop hx)
  have hdef : Hid (∀ b, isPre (bs.drop k) (bytesI s) = b → rMark bs k stop (bytesI s) = if stop || !b then (k, true) else (k + s.size, false)) := fun b hb => by
    unfold rMark
    rw [hb, bytesI_len]
  have hle := h.le
  have hbig := h.big
  have c0 := h.has.cell 0 rfl
  have c1 := h.has.cell 1 rfl
  have c2 := h.has.cell 2 rfl
  have fr1 := h.has.free 1
  have fr2 := h.has.free 2
  have hrl := h.has.lt
  have h' := Lib.hid h
  clear hbb
  by_cases hno : stop = true ∨ isPre (bs.drop k) (bytesI s) = false
  · have hfin : Hid (∀ nq, XMarkOut w0 w r (.slice ab bs.length cb) bs k stop (bytesI s) (.returned (.tuple #[])) ((w.drewN nq).setCell ⟨r, 2, none⟩ (.bool true))) := fun nq => by
      have hX := (h'.out.still ((Mod.refl [] w).drewN nq)).halt
      have e1 : rMark bs k stop (bytesI s) = (k, true) := by
        rw [hdef.out _ rfl]
        rcases hno with h | h <;> simp [h]
      unfold XMarkOut
      rw [e1]
      exact ⟨rfl, hX.1, trM r _ _ _ ((Mod.refl [r] w).drewN nq) hX.2⟩
    cases stop with
    | true =>
      clear hno hdef h
      go_enter Try.func110, Try.ntmps110
      go_wp2_with fail
      go_quiet (fail)
      go_wp2_with fail
      go_end0
      exact hfin.out _
    | false =>
      have hq0 : isPre (bs.drop k) (bytesI s) = false := by simpa using hno
      have hw3 : IntKind.i64.wrap ((bs.length : Int) - (k : Int)) = (bs.length : Int) - (k : Int) := IntWalk.i64_in _ (by omega)
      by_cases hsh : bs.length - k < s.size
      · have t3 : decide ((bs.length : Int) - (k : Int) < (s.size : Int)) = true := by simp; omega
        clear hno hdef h hq0 hsh
        go_enter Try.func110, Try.ntmps110
        go_wp2_with fail
        go_quiet (fail)
        go_wp2_with fail
        go_end0
        exact hfin.out _
      · have t3 : decide ((bs.length : Int) - (k : Int) < (s.size : Int)) = false := by simp; omega
        obtain ⟨a', c', hsl, hrd⟩ := slice_sub (P := Try.prog) 45 (by kernel_rfl) (fun w => by kernel_rfl) h.read k s.size (by omega) k ((k : Int) + s.size) rfl (by omega)
        have hyl : ((bs.drop k).take s.size).length = s.size := by rw [List.length_take, List.length_drop]; omega
        have hcv : ∀ n, (convert 45 9 (.slice a' s.size c')).run Try.prog (w.drewN n) = .ok (.string (strOfNums ((bs.drop k).take s.size))) (w.drewN n) := fun n => by
          have := hrd _ ((Mod.refl [] w).drewN n)
          exact conv_rd (by rw [hyl]; exact this)
        have hpre := isPre_str s hx.out
        rw [hq0] at hpre
        have hpre2 : ((strOfNums ((bs.drop k).take s.size)).toList != s.toList) = true := by rw [bne, hpre]; rfl
        have hw5 : IntKind.i64.wrap ((k : Int) + (s.size : Int)) = (k : Int) + (s.size : Int) := IntWalk.i64_in _ (by omega)
        generalize strOfNums ((bs.drop k).take s.size) = sx at *
        clear hno hdef h hq0 hsh hrd hyl
        go_enter Try.func110, Try.ntmps110
        go_wp2_with fail
        go_quiet (fail)
        go_wp2_with fail
        go_end0
        exact hfin.out _
  · have hs0 : stop = false := by cases stop <;> simp_all
    have hq0 : isPre (bs.drop k) (bytesI s) = true := by cases h : isPre (bs.drop k) (bytesI s) <;> simp_all
    subst hs0
    have hsl0 := isPre_len hq0
    rw [List.length_drop, bytesI_len] at hsl0
    have hks : k + s.size ≤ bs.length := by omega
    have hfin : Hid (∀ nq, ∀ v, v = (((k + s.size : Nat) : Int)) → XMarkOut w0 w r (.slice ab bs.length cb) bs k false (bytesI s) (.returned (.tuple #[])) ((w.drewN nq).setCell ⟨r, 1, none⟩ (.int .i64 v))) := fun nq v e => by
      subst e
      have hX := (h'.out.still ((Mod.refl [] w).drewN nq)).go (k + s.size) hks
      unfold XMarkOut
      rw [hdef.out _ hq0]
      exact ⟨rfl, by simpa using hX.1, trM r _ _ _ ((Mod.refl [r] w).drewN nq) hX.2⟩
    have hw3 : IntKind.i64.wrap ((bs.length : Int) - (k : Int)) = (bs.length : Int) - (k : Int) := IntWalk.i64_in _ (by omega)
    have t3 : decide ((bs.length : Int) - (k : Int) < (s.size : Int)) = false := by simp; omega
    obtain ⟨a', c', hsl, hrd⟩ := slice_sub (P := Try.prog) 45 (by kernel_rfl) (fun w => by kernel_rfl) h.read k s.size (by omega) k ((k : Int) + s.size) rfl (by omega)
    have hyl : ((bs.drop k).take s.size).length = s.size := by rw [List.length_take, List.length_drop]; omega
    have hcv : ∀ n, (convert 45 9 (.slice a' s.size c')).run Try.prog (w.drewN n) = .ok (.string (strOfNums ((bs.drop k).take s.size))) (w.drewN n) := fun n => by
      have := hrd _ ((Mod.refl [] w).drewN n)
      exact conv_rd (by rw [hyl]; exact this)
    have hpre := isPre_str s hx.out
    rw [hq0] at hpre
    have hpre2 : ((strOfNums ((bs.drop k).take s.size)).toList != s.toList) = false := by rw [bne, hpre]; rfl
    have hw5 : IntKind.i64.wrap ((k : Int) + (s.size : Int)) = (k : Int) + (s.size : Int) := IntWalk.i64_in _ (by omega)
    generalize strOfNums ((bs.drop k).take s.size) = sx at *
    clear hno hdef h hq0 hsl0 hrd hyl
    go_enter Try.func110, Try.ntmps110
    go_wp2_with fail
    go_quiet (fail)
    go_wp2_with fail
    go_end0
    exact hfin.out _ _ (by omega)
end Code
end Go.Proofs.Ytmkbinbggiocaaa
