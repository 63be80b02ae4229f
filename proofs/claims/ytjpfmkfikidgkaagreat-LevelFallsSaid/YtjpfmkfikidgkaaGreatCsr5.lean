/- A graph's arcs as an object, and what it tells. -/
import Derived.Test.YtjpfmkfikidgkaaGreatCsr4
import Derived.Test.YtjpfmkfikidgkaaGreatCsr2
import Derived.Test.YtjpfmkfikidgkaaGreatNet3
set_option linter.unusedVariables false
set_option linter.unusedSimpArgs false
namespace Go.Proofs.YtjpfmkfikidgkaaGreat
open Go.RowKit
namespace Edge
/-- The arcs of a graph of n vertices and the edges L. -/
def ArcP (b n : Nat) (L : List Ed) : Part := fun w F => ∃ (gf go : Nat) (aa : Option Addr) (ca : Nat), Parts w
  [Blk b [.slice aa (2 * L.length) ca, .slice (some ⟨gf, 0, none⟩) (n + 1) (n + 1), .slice (some ⟨go, 0, none⟩) (2 * L.length) (2 * L.length)] 184,
   Row 198 2 (2 * L.length) (.slice aa (2 * L.length) ca) (flat encA (arcsL L)),
   Row 3 1 (n + 1) (.slice (some ⟨gf, 0, none⟩) (n + 1) (n + 1)) (i64s (fromL n (posF L))),
   Row 3 1 (2 * L.length) (.slice (some ⟨go, 0, none⟩) (2 * L.length) (2 * L.length)) (i64s (outL n L))] F
instance (b n : Nat) (L : List Ed) : Good (ArcP b n L) where
  lt h := by obtain ⟨_, _, _, _, h⟩ := h; exact h.lt
  keep h m hd := by obtain ⟨gf, go, aa, ca, h⟩ := h; exact ⟨gf, go, aa, ca, h.keep m hd⟩
/-- What is read of arcs. -/
structure ArcRd (w : World) (b n : Nat) (L : List Ed) (gf go : Nat) (aa : Option Addr) (ca : Nat) : Prop where
  hb : Has w b [.slice aa (2 * L.length) ca, .slice (some ⟨gf, 0, none⟩) (n + 1) (n + 1), .slice (some ⟨go, 0, none⟩) (2 * L.length) (2 * L.length)] 184
  all : w.ownsRow 0 198 2 (.slice aa (2 * L.length) ca) (2 * L.length) (flat encA (arcsL L))
  frm : w.ownsRow 0 3 1 (.slice (some ⟨gf, 0, none⟩) (n + 1) (n + 1)) (n + 1) (i64s (fromL n (posF L)))
  out : w.ownsRow 0 3 1 (.slice (some ⟨go, 0, none⟩) (2 * L.length) (2 * L.length)) (2 * L.length) (i64s (outL n L))
theorem ArcP.rd {w : World} {b n : Nat} {L : List Ed} {F : List Nat} (h : ArcP b n L w F) : ∃ gf go aa ca, ArcRd w b n L gf go aa ca := by
  obtain ⟨gf, go, aa, ca, h⟩ := h
  obtain ⟨_, ⟨k0, _⟩, _⟩ := parts_at h 0 _ rfl
  obtain ⟨_, ⟨k1, _⟩, _⟩ := parts_at h 1 _ rfl
  obtain ⟨_, ⟨k2, _⟩, _⟩ := parts_at h 2 _ rfl
  obtain ⟨_, ⟨k3, _⟩, _⟩ := parts_at h 3 _ rfl
  exact ⟨gf, go, aa, ca, k0, k1, k2, k3⟩
section
variable {w : World} {b n : Nat} {L : List Ed} {F : List Nat}
theorem an_p (h : ArcP b n L w F) (hG : GOk n L) : Calls Tryz.prog 105 #[.pointer (some ⟨b, 0, none⟩)] w fun e w' => e = .returned (.int .i64 n) ∧ w' = w := by
  obtain ⟨gf, go, aa, ca, hr⟩ := h.rd
  exact an_any hG.le hr.hb
theorem alen_p (h : ArcP b n L w F) : Calls Tryz.prog 24 #[.pointer (some ⟨b, 0, none⟩)] w fun e w' => e = .returned (.int .i64 ((2 * L.length : Nat) : Int)) ∧ w' = w := by
  obtain ⟨gf, go, aa, ca, hr⟩ := h.rd
  exact alen_any hr.hb
theorem ahead_p (h : ArcP b n L w F) (hG : GOk n L) (i : Int) : Calls Tryz.prog 39 #[.pointer (some ⟨b, 0, none⟩), .int .i64 i] w fun e w' => e = .returned (.int .i64 (headI L i)) ∧ w' = w := by
  obtain ⟨gf, go, aa, ca, hr⟩ := h.rd
  exact ahead_any hr.hb hr.all (arcsL_len L) (by have := hG.len; omega) i
theorem acap_p (h : ArcP b n L w F) (hG : GOk n L) (i : Int) : Calls Tryz.prog 106 #[.pointer (some ⟨b, 0, none⟩), .int .i64 i] w fun e w' => e = .returned (.int .i64 (capI L i)) ∧ w' = w := by
  obtain ⟨gf, go, aa, ca, hr⟩ := h.rd
  exact acap_any hr.hb hr.all (arcsL_len L) (by have := hG.len; omega) i
theorem atail_p (h : ArcP b n L w F) (hG : GOk n L) (i : Int) (hi : i ≤ 9223372036854775807) : Calls Tryz.prog 38 #[.pointer (some ⟨b, 0, none⟩), .int .i64 i] w fun e w' => e = .returned (.int .i64 (tailI L i)) ∧ w' = w := by
  obtain ⟨gf, go, aa, ca, hr⟩ := h.rd
  exact atail_any hr.hb hr.all (arcsL_len L) (by have := hG.len; omega) i hi
theorem win_rd {go v : Nat} (hG : GOk n L) (hv : v < n) (h : w.ownsRow 0 3 1 (.slice (some ⟨go, 0, none⟩) (2 * L.length) (2 * L.length)) (2 * L.length) (i64s (outL n L))) :
    Reads w 1 (.slice (some ⟨go, if cntE L v = 0 then 0 else posF L v, none⟩) (ints (ofS n L v)).length (cntE L v)) (ints (ofS n L v)).length (i64s (ints (ofS n L v))) := by
  have hl : (ints (ofS n L v)).length = cntE L v := by rw [ints_len, ofS_len hG]
  have h2 : cntE L v ≤ 2 * L.length := by
    have := posF_le hG (v := v + 1) (by omega)
    rw [posF_succ] at this; omega
  refine ⟨by rw [i64s_len]; omega, .inr ⟨go, _, cntE L v, rfl, by omega, by have := hG.len; simp only [maxLen]; omega, fun j u hu => ?_⟩⟩
  have hj : j < (ints (ofS n L v)).length := by
    have := (List.getElem?_eq_some_iff.1 hu).1
    rwa [i64s_len] at this
  rw [if_neg (by omega)]
  obtain ⟨A, B, e1, e2⟩ := outL_cut hG hv
  have hk : posF L v + j < 2 * L.length := by
    have := outL_len hG
    rw [e1] at this
    simp only [List.length_append] at this
    omega
  have := h.cellAt (posF L v + j) (by omega)
  rw [this, e1, i64s_append, i64s_append, List.append_assoc, List.getElem?_append_right (by rw [i64s_len]; omega), i64s_len, e2, Nat.add_sub_cancel_left, List.getElem?_append_left (by rw [i64s_len]; exact hj)]
  exact hu
set_option maxHeartbeats 1000000 in
theorem aout_p (h : ArcP b n L w F) (hG : GOk n L) (v : Int) : Calls Tryz.prog 75 #[.pointer (some ⟨b, 0, none⟩), .int .i64 v] w fun e w' => ∃ a c, e = .returned (.slice a (outI n L v).length c) ∧ Made w w' 3 1 a (outI n L v).length c (i64s (outI n L v)) := by
  have hn := Lib.hid (an_p h hG)
  have hn4 := hG.le
  by_cases hin : 0 ≤ v ∧ v < n
  · obtain ⟨k, rfl⟩ := Int.eq_ofNat_of_zero_le hin.1
    have hk : k < n := by omega
    have e : outI n L (k : Int) = ints (ofS n L k) := by unfold outI; rw [if_pos hin, Int.toNat_natCast]
    rw [e]
    obtain ⟨gf, go, aa, ca, hr⟩ := h.rd
    have hof := Lib.hid (aof_any hG rfl hk hr.hb hr.frm)
    have hrd := Lib.hid (fun W (m : Mod [] w W) => win_rd hG hk (own_keep hr.out m (by simp)))
    have hcl := Lib.hid (fun W (m : Mod [] w W) => cloneI_any (hrd.out W m) (by rw [ints_len, ofS_len hG]; have := ofU_le L (2 * L.length) k; have := hG.len; unfold cntE; omega))
    have hwv : winV go (posF L k) (cntE L k) = .slice (some ⟨go, if cntE L k = 0 then 0 else posF L k, none⟩) (ints (ofS n L k)).length (cntE L k) := by unfold winV; rw [ints_len, ofS_len hG]
    rw [hwv] at hof
    generalize Value.slice (some ⟨go, if cntE L k = 0 then 0 else posF L k, none⟩) (ints (ofS n L k)).length (cntE L k) = sv at *
    generalize ints (ofS n L k) = xs at *
    have hk1 : (k : Int) < n := by omega
    clear h hG hr hrd e hwv hin
    go_enter Tryz.func75, Tryz.ntmps75
    go_wp2_with (go_at_call 105; refine hn.out.mono ?_; rintro e w1 ⟨rfl, rfl⟩)
    refine hof.out.mono ?_
    rintro e w1 ⟨rfl, hm⟩
    have hcl2 := Lib.hid (hcl.out _ hm)
    have hm' := Lib.hid hm
    clear hm hcl
    try dsimp only
    go_wp2_with fail
    refine hcl2.out.mono ?_
    rintro e w2 ⟨a', c', rfl, hmd⟩
    have hmd' := Lib.hid (hmd.before hm'.out)
    clear hmd
    try dsimp only
    go_wp2_with fail
    go_ret
    exact ⟨a', c', rfl, hmd'.out⟩
  · have e : outI n L v = [] := by unfold outI; rw [if_neg hin]; rfl
    rw [e]
    have hfin : Hid (∃ a c, Ending.returned (.slice none 0 0) = .returned (.slice a ([] : List Int).length c) ∧ Made w w 3 1 a ([] : List Int).length c (i64s [])) := Lib.hid ⟨none, 0, rfl, World.ownsRow_nil _ _ _ _, Mod.refl _ _, by simp [Value.ownBlock]⟩
    by_cases h0 : v < 0
    · clear hin e hG h
      go_enter Tryz.func75, Tryz.ntmps75
      go_wp2_with fail
      go_ret
      exact hfin.out
    · have h1 : (n : Int) ≤ v := by omega
      clear hin e hG h
      go_enter Tryz.func75, Tryz.ntmps75
      go_wp2_with (go_at_call 105; refine hn.out.mono ?_; rintro e w1 ⟨rfl, rfl⟩)
      go_ret
      exact hfin.out
end
/-! Of nil there is nothing. -/
theorem an_nil (w : World) : Calls Tryz.prog 105 #[.pointer none] w fun e w' => e = .returned (.int .i64 0) ∧ w' = w := by
  go_enter Tryz.func105, Tryz.ntmps105
  go_wp2
  go_ret
  exact ⟨rfl, rfl⟩
theorem alen_nil (w : World) : Calls Tryz.prog 24 #[.pointer none] w fun e w' => e = .returned (.int .i64 0) ∧ w' = w := by
  go_enter Tryz.func24, Tryz.ntmps24
  go_wp2
  go_ret
  exact ⟨rfl, rfl⟩
theorem aout_nil (v : Int) (w : World) : Calls Tryz.prog 75 #[.pointer none, .int .i64 v] w fun e w' => e = .returned (.slice none 0 0) ∧ w' = w := by
  by_cases h0 : v < 0
  · go_enter Tryz.func75, Tryz.ntmps75
    go_wp2
    go_ret
    exact ⟨rfl, rfl⟩
  · have h1 : 0 ≤ v := by omega
    go_enter Tryz.func75, Tryz.ntmps75
    go_wp2_with (go_at_call 105; refine (an_nil _).mono ?_; rintro e w1 ⟨rfl, rfl⟩)
    go_ret
    exact ⟨rfl, rfl⟩
theorem ahead_nil (i : Int) (w : World) : Calls Tryz.prog 39 #[.pointer none, .int .i64 i] w fun e w' => e = .returned (.int .i64 (-1)) ∧ w' = w := by
  by_cases h0 : i < 0
  · go_enter Tryz.func39, Tryz.ntmps39
    go_wp2
    go_ret
    exact ⟨rfl, rfl⟩
  · have h1 : 0 ≤ i := by omega
    go_enter Tryz.func39, Tryz.ntmps39
    go_wp2_with (go_at_call 24; refine (alen_nil _).mono ?_; rintro e w1 ⟨rfl, rfl⟩)
    go_ret
    exact ⟨rfl, rfl⟩
theorem acap_nil (i : Int) (w : World) : Calls Tryz.prog 106 #[.pointer none, .int .i64 i] w fun e w' => e = .returned (.int .i64 0) ∧ w' = w := by
  by_cases h0 : i < 0
  · go_enter Tryz.func106, Tryz.ntmps106
    go_wp2
    go_ret
    exact ⟨rfl, rfl⟩
  · have h1 : 0 ≤ i := by omega
    go_enter Tryz.func106, Tryz.ntmps106
    go_wp2_with (go_at_call 24; refine (alen_nil _).mono ?_; rintro e w1 ⟨rfl, rfl⟩)
    go_ret
    exact ⟨rfl, rfl⟩
theorem atail_nil (i : Int) (hi : i ≤ 9223372036854775807) (w : World) : Calls Tryz.prog 38 #[.pointer none, .int .i64 i] w fun e w' => e = .returned (.int .i64 (-1)) ∧ w' = w := by
  have hbk := Lib.hid (back_any i hi w)
  have hh := Lib.hid (ahead_nil (backI i) w)
  go_enter Tryz.func38, Tryz.ntmps38
  go_wp2_with (first
    | (go_at_call 113; refine hbk.out.mono ?_; rintro e w1 ⟨rfl, rfl⟩)
    | (go_at_call 39; refine hh.out.mono ?_; rintro e w1 ⟨rfl, rfl⟩))
  go_ret
  exact ⟨rfl, rfl⟩
end Edge
end Go.Proofs.YtjpfmkfikidgkaaGreat
