/- A graph's arcs as an object: its parts, and what it tells of an arc. -/
import Derived.Test.YtjpfmkfikidgkaaGreatCsr1
import Derived.Test.YtjpfmkfikidgkaaGreatKit3
import Derived.Laws.EntriesVeiled
set_option linter.unusedVariables false
set_option linter.unusedSimpArgs false
namespace Go.Proofs.YtjpfmkfikidgkaaGreat
open Go.RowKit
namespace Edge
def encA (x : Int × Int) : List Value := [.int .i64 x.1, .int .i64 x.2]
theorem encA_len : ∀ x, (encA x).length = 2 := fun _ => rfl
theorem encA_one (l : List (Int × Int)) : ∀ u ∈ flat encA l, u.oneCell' = true := by
  intro u hu
  unfold flat at hu
  obtain ⟨e, _, h⟩ := List.mem_flatMap.1 hu
  simp only [encA, List.mem_cons, List.mem_nil_iff, or_false] at h
  rcases h with rfl | rfl <;> rfl
theorem infoA : (Tryz.prog.info? 198).map (fun i => (i.zero, i.size, i.bytes)) = some (some (.agg #[.int .i64 0, .int .i64 0]), 2, 16) := by kernel_rfl
/-- The row of arcs: an arc's two cells. -/
theorem arc_row {w : World} {xs : List (Int × Int)} {a : Option Addr} {c m j : Nat} (h : w.ownsRow 0 198 2 (.slice a m c) m (flat encA xs)) (hm : xs.length = m) (hj : j < m) :
    ∃ g, a = some ⟨g, 0, none⟩ ∧ g < w.heap.size ∧ w.cell? ⟨g, j * 2, none⟩ = some (.int .i64 (xs[j]'(by omega)).1) ∧ w.cell? ⟨g, j * 2 + 1, none⟩ = some (.int .i64 (xs[j]'(by omega)).2) := by
  subst hm
  rcases h.2 with ⟨he, h0⟩ | ⟨g, cap, cur, he, _⟩
  · omega
  · injection he with he _ hc
    subst he
    have hl : ∀ i, i < 2 → j * 2 + i < xs.length * 2 := fun i hi => by omega
    have k0 := flat_get encA_len xs j 0 hj (by omega)
    have k1 := flat_get encA_len xs j 1 hj (by omega)
    refine ⟨g, rfl, own_lt h rfl, ?_, ?_⟩
    · have := h.cellAt (j * 2 + 0) (hl 0 (by omega)); rw [k0] at this; simpa [encA] using this
    · have := h.cellAt (j * 2 + 1) (hl 1 (by omega)); rw [k1] at this; simpa [encA] using this
theorem arcs_at {L : List Ed} {j m : Nat} (hm : (arcsL L).length = m) (hj : j < m) : (arcsL L)[j]'(by omega) = (headE L j, capE L j) := by
  unfold headE capE
  rw [List.getElem?_eq_getElem (show j < (arcsL L).length by omega)]
section
variable {w : World} {b m n gf : Nat} {va x1 x2 : Value} {aa : Option Addr} {ca : Nat} {L : List Ed}
theorem alen_any (hb : Has w b [.slice aa m ca, x1, x2] 184) : Calls Tryz.prog 24 #[.pointer (some ⟨b, 0, none⟩)] w fun e w' => e = .returned (.int .i64 m) ∧ w' = w := by
  have b0 := hb.cell 0 rfl
  have bl := hb.lt
  clear hb
  go_enter Tryz.func24, Tryz.ntmps24
  go_wp2
  go_ret
  exact ⟨rfl, rfl⟩
theorem an_any (hn : n ≤ 4096) (hb : Has w b [va, .slice (some ⟨gf, 0, none⟩) (n + 1) (n + 1), x2] 184) : Calls Tryz.prog 105 #[.pointer (some ⟨b, 0, none⟩)] w fun e w' => e = .returned (.int .i64 n) ∧ w' = w := by
  have b0 := hb.cell 1 rfl
  have bl := hb.lt
  clear hb
  go_enter Tryz.func105, Tryz.ntmps105
  go_wp2
  go_ret
  exact ⟨ret_i64 (by omega), rfl⟩
theorem ahead_any (hb : Has w b [.slice aa m ca, x1, x2] 184) (hr : w.ownsRow 0 198 2 (.slice aa m ca) m (flat encA (arcsL L))) (hm : (arcsL L).length = m) (hl : m ≤ 2097152) (i : Int) :
    Calls Tryz.prog 39 #[.pointer (some ⟨b, 0, none⟩), .int .i64 i] w fun e w' => e = .returned (.int .i64 (headI L i)) ∧ w' = w := by
  have hlen := Lib.hid (alen_any hb)
  have b0 := hb.cell 0 rfl
  have bl := hb.lt
  clear hb
  by_cases h0 : i < 0
  · have e : headI L i = -1 := by unfold headI; rw [if_pos h0]
    rw [e]
    clear e hr
    go_enter Tryz.func39, Tryz.ntmps39
    go_wp2_with fail
    go_ret
    exact ⟨rfl, rfl⟩
  obtain ⟨k, rfl⟩ := Int.eq_ofNat_of_zero_le (show 0 ≤ i by omega)
  have e : headI L (k : Int) = headE L k := by unfold headI; rw [if_neg h0, Int.toNat_natCast]
  rw [e]
  clear e
  by_cases h1 : k < m
  · obtain ⟨g, rfl, hg, q0, q1⟩ := arc_row hr hm h1
    rw [arcs_at hm h1] at q0 q1
    have hk1 : (k : Int) < m := by omega
    generalize headE L k = z at *
    clear hr hm
    go_enter Tryz.func39, Tryz.ntmps39
    go_wp2_with (go_at_call 24; refine hlen.out.mono ?_; rintro e w1 ⟨rfl, rfl⟩)
    go_ret
    exact ⟨rfl, rfl⟩
  · have e : headE L k = -1 := headE_out (by rw [arcsL_len] at hm; omega)
    rw [e]
    have hk1 : ¬ (k : Int) < m := by omega
    have t1 : decide ((m : Int) ≤ (k : Int)) = true := by simp; omega
    clear hr hm e
    go_enter Tryz.func39, Tryz.ntmps39
    go_wp2_with (go_at_call 24; refine hlen.out.mono ?_; rintro e w1 ⟨rfl, rfl⟩)
    go_ret
    exact ⟨rfl, rfl⟩
theorem acap_any (hb : Has w b [.slice aa m ca, x1, x2] 184) (hr : w.ownsRow 0 198 2 (.slice aa m ca) m (flat encA (arcsL L))) (hm : (arcsL L).length = m) (hl : m ≤ 2097152) (i : Int) :
    Calls Tryz.prog 106 #[.pointer (some ⟨b, 0, none⟩), .int .i64 i] w fun e w' => e = .returned (.int .i64 (capI L i)) ∧ w' = w := by
  have hlen := Lib.hid (alen_any hb)
  have b0 := hb.cell 0 rfl
  have bl := hb.lt
  clear hb
  by_cases h0 : i < 0
  · have e : capI L i = 0 := by unfold capI; rw [if_pos h0]
    rw [e]
    clear e hr
    go_enter Tryz.func106, Tryz.ntmps106
    go_wp2_with fail
    go_ret
    exact ⟨rfl, rfl⟩
  obtain ⟨k, rfl⟩ := Int.eq_ofNat_of_zero_le (show 0 ≤ i by omega)
  have e : capI L (k : Int) = capE L k := by unfold capI; rw [if_neg h0, Int.toNat_natCast]
  rw [e]
  clear e
  by_cases h1 : k < m
  · obtain ⟨g, rfl, hg, q0, q1⟩ := arc_row hr hm h1
    rw [arcs_at hm h1] at q0 q1
    have hk1 : (k : Int) < m := by omega
    generalize capE L k = z at *
    clear hr hm
    go_enter Tryz.func106, Tryz.ntmps106
    go_wp2_with (go_at_call 24; refine hlen.out.mono ?_; rintro e w1 ⟨rfl, rfl⟩)
    go_ret
    exact ⟨rfl, rfl⟩
  · have e : capE L k = 0 := capE_out (by rw [arcsL_len] at hm; omega)
    rw [e]
    have hk1 : ¬ (k : Int) < m := by omega
    have t1 : decide ((m : Int) ≤ (k : Int)) = true := by simp; omega
    clear hr hm e
    go_enter Tryz.func106, Tryz.ntmps106
    go_wp2_with (go_at_call 24; refine hlen.out.mono ?_; rintro e w1 ⟨rfl, rfl⟩)
    go_ret
    exact ⟨rfl, rfl⟩
theorem atail_any (hb : Has w b [.slice aa m ca, x1, x2] 184) (hr : w.ownsRow 0 198 2 (.slice aa m ca) m (flat encA (arcsL L))) (hm : (arcsL L).length = m) (hl : m ≤ 2097152) (i : Int) (hi : i ≤ 9223372036854775807) :
    Calls Tryz.prog 38 #[.pointer (some ⟨b, 0, none⟩), .int .i64 i] w fun e w' => e = .returned (.int .i64 (tailI L i)) ∧ w' = w := by
  have hh := Lib.hid (ahead_any hb hr hm hl (backI i))
  rw [head_backI] at hh
  have hbk := Lib.hid (back_any i hi w)
  clear hb hr hm
  go_enter Tryz.func38, Tryz.ntmps38
  go_wp2_with (first
    | (go_at_call 113; refine hbk.out.mono ?_; rintro e w1 ⟨rfl, rfl⟩)
    | (go_at_call 39; refine hh.out.mono ?_; rintro e w1 ⟨rfl, rfl⟩))
  go_ret
  exact ⟨rfl, rfl⟩
end
theorem i64s_got {l : List Int} {i : Nat} {x : Int} (h : l[i]? = some x) : (i64s l)[i]? = some (.int .i64 x) := by simp [i64s, h]
/-- What of a row begins at lo, and is no longer than d. -/
def winV (g lo d : Nat) : Value := .slice (some ⟨g, if d = 0 then 0 else lo, none⟩) d d
theorem slice_win {P : Program} (t e : TypeId) (ht : P.underlying t = some (.slice (P.elem t))) (hs : ∀ w : World, (sizeOf (P.elem t)).run P w = .ok 1 w) (g m lo d : Nat) (lo' hi' : Int) (h1 : lo' = (lo : Int)) (h2 : hi' = ((lo + d : Nat) : Int)) (h : lo + d ≤ m) :
    ∀ w : World, (Instr.slice t (.slice (some ⟨g, 0, none⟩) m m) (some (.int .i64 lo')) (some (.int .i64 hi')) (some (.int .i64 hi'))).run P w = .ok (winV g lo d) w := by
  intro w
  subst h1 h2
  rw [run_slice_lhm w t (some ⟨g, 0, none⟩) m m ht .i64 .i64 .i64 lo ((lo + d : Nat) : Int) ((lo + d : Nat) : Int) (by omega) (by omega) (by omega) (by omega), hs]
  simp only [Result.andThen, sliced, Int.toNat_natCast, winV]
  by_cases hc : d = 0
  · subst hc; simp
  · rw [if_neg hc, if_neg (by omega)]
    simp [Addr.add_lit]
set_option maxRecDepth 100000 in
set_option maxHeartbeats 4000000 in
theorem aof_any {w : World} {b m n gf go v : Nat} {va : Value} {L : List Ed} (hG : GOk n L) (hm : 2 * L.length = m) (hv : v < n) (hb : Has w b [va, .slice (some ⟨gf, 0, none⟩) (n + 1) (n + 1), .slice (some ⟨go, 0, none⟩) m m] 184)
    (hf : w.ownsRow 0 3 1 (.slice (some ⟨gf, 0, none⟩) (n + 1) (n + 1)) (n + 1) (i64s (fromL n (posF L)))) :
    Calls Tryz.prog 150 #[.pointer (some ⟨b, 0, none⟩), .int .i64 v] w fun e w' => e = .returned (winV go (posF L v) (cntE L v)) ∧ Mod [] w w' := by
  have hn4 := hG.le
  have b1 := hb.cell 1 rfl
  have b2 := hb.cell 2 rfl
  have bl := hb.lt
  have f0 : w.cell? ⟨gf, v, none⟩ = some (.int .i64 (posF L v : Nat)) := by
    have := hf.cellAt v (by omega)
    rw [i64s_got (fromL_get (f := posF L) (show v ≤ n by omega))] at this
    exact this
  have f1 : w.cell? ⟨gf, v + 1, none⟩ = some (.int .i64 ((posF L v + cntE L v : Nat) : Int)) := by
    have := hf.cellAt (v + 1) (by omega)
    rw [i64s_got (fromL_get (f := posF L) (show v + 1 ≤ n by omega)), posF_succ] at this
    exact this
  have fl := own_lt hf (g := gf) rfl
  have hle : posF L v + cntE L v ≤ m := by rw [← posF_succ, ← hm]; exact posF_le hG (by omega)
  have hsl := slice_win (P := Tryz.prog) 51 3 Tryz.underlying51 Tryz.sizeOf3 go m (posF L v) (cntE L v) _ _ rfl rfl hle
  have hv1 : (v : Int) < n + 1 := by omega
  have hv2 : (v : Int) + 1 < n + 1 := by omega
  have hv3 : (v : Int) < n := by omega
  generalize winV go (posF L v) (cntE L v) = res at *
  generalize ((posF L v + cntE L v : Nat) : Int) = hi at *
  generalize ((posF L v : Nat) : Int) = lo at *
  clear hb hf hG hm hle
  go_enter Tryz.func150, Tryz.ntmps150
  go_wp2_with fail
  go_quiet (fail)
  go_wp2_with fail
  go_ret
  exact ⟨rfl, (Mod.refl [] w).drewN _⟩
end Edge
end Go.Proofs.YtjpfmkfikidgkaaGreat
