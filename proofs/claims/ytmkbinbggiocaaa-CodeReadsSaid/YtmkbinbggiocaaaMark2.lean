/- Mark of both readers. -/
import Derived.Test.YtmkbinbggiocaaaMark1
set_option linter.unusedVariables false
set_option linter.unusedSimpArgs false
namespace Go.Proofs.Ytmkbinbggiocaaa
open Go.RowKit
namespace Code
def rMark (bs : List Int) (k : Nat) (stop : Bool) (ss : List Int) : Nat × Bool := if stop || !isPre (bs.drop k) ss then (k, true) else (k + ss.length, false)
def RMarkOut (w : World) (r : Nat) (a : Option Addr) (c : Nat) (bs : List Int) (k : Nat) (stop : Bool) (ss : List Int) (e : Ending) (w' : World) : Prop :=
  e = .returned (.tuple #[]) ∧ RAt w' r a c bs (rMark bs k stop ss).1 (rMark bs k stop ss).2 ∧ Mod [r] w w'
def XMarkOut (w0 w : World) (r : Nat) (vb : Value) (bs : List Int) (k : Nat) (stop : Bool) (ss : List Int) (e : Ending) (w' : World) : Prop :=
  e = .returned (.tuple #[]) ∧ XAt w0 w' r vb bs (rMark bs k stop ss).1 (rMark bs k stop ss).2 ∧ Mod [r] w w'
theorem isPre_len {xs ys : List Int} (h : isPre xs ys = true) : ys.length ≤ xs.length := by
  simp only [isPre, decide_eq_true_eq] at h
  have := congrArg List.length h
  rw [List.length_take] at this
  omega
set_option maxHeartbeats 2000000 in
theorem rdMark {w : World} {r c k : Nat} {a : Option Addr} {bs : List Int} {stop : Bool} (s : ByteArray) (hs : s.size ≤ 9223372036854775807) (h : RAt w r a c bs k stop) (hbb : ∀ x ∈ bs, 0 ≤ x ∧ x < 256) :
    Calls Try.prog 105 #[.pointer (some ⟨r, 0, none⟩), .string s] w (RMarkOut w r a c bs k stop (bytesI s)) := by
  have hl := Lib.hid (fun W (h : RAt W r a c bs k stop) => left_any h)
  have h' := Lib.hid h
  have hcv := conv_run s
  have hm0 := Lib.hid (fun W => cvW_mod s W)
  have hr0 := Lib.hid (fun W => cvW_rd s hs W)
  have hx : Hid (∀ x ∈ bs.drop k, 0 ≤ x ∧ x < 256) := fun x hx => hbb x (List.mem_of_mem_drop hx)
  have hy : Hid (∀ x ∈ bytesI s, 0 ≤ x ∧ x < 256) := bytesI_byte s
  have hlen : Hid ((bytesI s).length = s.size) := bytesI_len s
  have hbig := h.big
  have hbd : Hid (isPre (bs.drop k) (bytesI s) = true → k + s.size ≤ bs.length) := fun h2 => by
    have h1 := isPre_len h2
    rw [List.length_drop, bytesI_len] at h1
    have := h.le
    have : 0 < bs.length - k ∨ s.size = 0 := by omega
    omega
  clear h hbb
  have hdef : Hid (∀ b, isPre (bs.drop k) (bytesI s) = b → rMark bs k stop (bytesI s) = if stop || !b then (k, true) else (k + s.size, false)) := fun b hb => by
    unfold rMark
    rw [hb, bytesI_len]
  generalize hxs : bs.drop k = xs at *
  clear hxs
  by_cases hno : stop = true ∨ isPre xs (bytesI s) = false
  · have hout : Hid (∀ w1 w2, Mod [] w w1 → Mod [r] w1 w2 → RAt w2 r a c bs k true → RMarkOut w r a c bs k stop (bytesI s) (.returned (.tuple #[])) w2) := fun w1 w2 h1 h2 h3 => by
      have e1 : rMark bs k stop (bytesI s) = (k, true) := by
        rw [hdef.out _ rfl]
        rcases hno with h | h <;> simp [h]
      unfold RMarkOut
      rw [e1]
      exact ⟨rfl, h3, h1.of0.trans h2 (fun b hb _ => hb)⟩
    have hno' := Lib.hid hno
    clear hno
    generalize hq : isPre xs (bytesI s) = q at *
    have hq' := Lib.hid hq
    clear hq
    go_enter Try.func105, Try.ntmps105
    go_wp2_with fail
    go_region_with (first
      | (go_at_call 103; refine (hl.out _ (h'.out.still ?_)).mono ?_; (first | exact (Mod.refl [] w).drew | exact (Mod.refl [] w).drew.trans (hm0.out _) (by simp)); rintro e w1 ⟨v, rfl, hd, hr⟩; obtain ⟨al, cl, rfl⟩ := hr.val; dsimp only)
      | (go_at_call 157; refine (hasP_any (xs := xs) (ys := bytesI s) ?_ ?_ hx.out hy.out).mono ?_; (first | exact hr | exact hr.still (hm0.out _)); (first | exact hr0.out _ | exact (hr0.out _).still hd.mod); rw [hq'.out]; rintro e w2 ⟨rfl, rfl⟩; dsimp only)
      | (go_at_call 102; refine (take_no (r := r) (a := a) (c := c) (bs := bs) (k := k) (stop := stop) (h'.out.still ?_) (s.size : Int) q hno'.out).mono ?_; (first | exact ((Mod.refl [] w).drew.trans hd.mod (by simp)).trans (hm0.out _) (by simp) | exact ((Mod.refl [] w).drew.trans (hm0.out _) (by simp)).trans hd.mod (by simp)); rintro e w3 ⟨rfl, hR, hm3⟩; dsimp only))
    · have hf := Lib.hid (hout.out _ _ (((Mod.refl [] w).drew.trans hd.mod (by simp)).trans (hm0.out _) (by simp)) hm3 hR)
      go_wp2_with fail

      go_end0
      exact hf.out
    · have hf := Lib.hid (hout.out _ _ (((Mod.refl [] w).drew.trans (hm0.out _) (by simp)).trans hd.mod (by simp)) hm3 hR)
      go_wp2_with fail
      go_end0
      exact hf.out
  · have hs0 : stop = false := by cases stop <;> simp_all
    have hq0 : isPre xs (bytesI s) = true := by cases h : isPre xs (bytesI s) <;> simp_all
    subst hs0
    have hout : Hid (∀ w1 w2, Mod [] w w1 → Mod [r] w1 w2 → RAt w2 r a c bs (k + s.size) false → RMarkOut w r a c bs k false (bytesI s) (.returned (.tuple #[])) w2) := fun w1 w2 h1 h2 h3 => by
      unfold RMarkOut
      rw [hdef.out _ hq0]
      exact ⟨rfl, by simpa using h3, h1.of0.trans h2 (fun b hb _ => hb)⟩
    have hb2 := Lib.hid (hbd.out hq0)
    have hq' := Lib.hid hq0
    clear hno hq0
    go_enter Try.func105, Try.ntmps105
    go_wp2_with fail
    go_region_with (first
      | (go_at_call 103; refine (hl.out _ (h'.out.still ?_)).mono ?_; (first | exact (Mod.refl [] w).drew | exact (Mod.refl [] w).drew.trans (hm0.out _) (by simp)); rintro e w1 ⟨v, rfl, hd, hr⟩; obtain ⟨al, cl, rfl⟩ := hr.val; dsimp only)
      | (go_at_call 157; refine (hasP_any (xs := xs) (ys := bytesI s) ?_ ?_ hx.out hy.out).mono ?_; (first | exact hr | exact hr.still (hm0.out _)); (first | exact hr0.out _ | exact (hr0.out _).still hd.mod); rw [hq'.out]; rintro e w2 ⟨rfl, rfl⟩; dsimp only)
      | (go_at_call 102; refine (take_yes (r := r) (a := a) (c := c) (bs := bs) (k := k) (h'.out.still ?_) s.size hb2.out).mono ?_; (first | exact ((Mod.refl [] w).drew.trans hd.mod (by simp)).trans (hm0.out _) (by simp) | exact ((Mod.refl [] w).drew.trans (hm0.out _) (by simp)).trans hd.mod (by simp)); rintro e w3 ⟨rfl, hR, hm3⟩; dsimp only))
    · have hf := Lib.hid (hout.out _ _ (((Mod.refl [] w).drew.trans hd.mod (by simp)).trans (hm0.out _) (by simp)) hm3 hR)
      go_wp2_with fail
      go_end0
      exact hf.out
    · have hf := Lib.hid (hout.out _ _ (((Mod.refl [] w).drew.trans (hm0.out _) (by simp)).trans hd.mod (by simp)) hm3 hR)
      go_wp2_with fail
      go_end0
      exact hf.out
end Code
end Go.Proofs.Ytmkbinbggiocaaa
