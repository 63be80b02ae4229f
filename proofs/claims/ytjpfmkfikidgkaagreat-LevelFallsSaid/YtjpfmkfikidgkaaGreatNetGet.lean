/- A graph's edges: one, all. -/
import Derived.Test.YtjpfmkfikidgkaaGreatAwake16
import Derived.Laws.EntriesVeiled
set_option linter.unusedVariables false
set_option linter.unusedSimpArgs false
namespace Go.Proofs.YtjpfmkfikidgkaaGreat
open Go.RowKit
namespace Edge
theorem eds_of {w : World} {b n : Nat} {L : List Ed} {F : List Nat} (h : NetP b n L w F) : ∃ a c b0 b1 b3, Has w b [b0, b1, .slice a L.length c, b3] 169 ∧ Reads w 3 (.slice a L.length c) L.length (flat encEd L) := by
  obtain ⟨gn, gd, a, c, RS, hl, h⟩ := h
  have hz : (rowsP RS (nearL n L)).length = n := by unfold rowsP nearL; simp [hl]
  obtain ⟨_, ⟨k0, _⟩, _⟩ := parts_at h 0 _ rfl
  obtain ⟨_, ⟨k3, _⟩, _⟩ := parts_at h (n + 3) (Row 146 3 L.length (.slice a L.length c) (flat encEd L)) (by
    unfold endsL
    simp only [List.getElem?_cons_succ]
    rw [List.getElem?_append_right (by omega), hz]
    simp)
  exact ⟨a, c, _, _, _, k0, Reads.own k3⟩
/-- slices.Clone of edges. -/
theorem cloneEd_any {w : World} {a : Option Addr} {c : Nat} {L : List Ed} (h : Reads w 3 (.slice a L.length c) L.length (flat encEd L)) (hl : L.length ≤ 4294967296) :
    Calls Tryz.prog 163 #[.slice a L.length c] w fun e w' => ∃ a' c', e = .returned (.slice a' L.length c') ∧ Made w w' 146 3 a' L.length c' (flat encEd L) := by
  rcases h.cases with ⟨he, hn, hx⟩ | ⟨g, o, c', he, _, _⟩
  · injection he with e1 e2 e3
    subst e1
    subst e3
    have hx := List.eq_nil_of_length_eq_zero hn
    subst hx
    refine Calls.mono (show Calls Tryz.prog 163 _ _ _ from AnyE.slices_Clone_nil Sh.cloneEd 0 0 w) ?_
    rintro e w' ⟨rfl, rfl⟩
    exact ⟨none, 0, rfl, World.ownsRow_nil _ _ _ _, Mod.refl _ _, by simp [Value.ownBlock]⟩
  · injection he with e1 e2 e3
    subst e1
    subst e3
    have hcon := AnyE.slices_Clone Sh.cloneEd _ (.agg #[.int .i64 0, .int .i64 0, .int .i64 0]) 3 24 (Option.map_eq_some_iff.1 infoEd).choose_spec.1 (by have := (Option.map_eq_some_iff.1 infoEd).choose_spec.2; exact (Prod.mk.inj this).1) (by have := (Option.map_eq_some_iff.1 infoEd).choose_spec.2; exact (Prod.mk.inj (Prod.mk.inj this).2).1) (by have := (Option.map_eq_some_iff.1 infoEd).choose_spec.2; exact (Prod.mk.inj (Prod.mk.inj this).2).2) rfl (by omega) Tryz.sizeOf146 g o L.length c (flat encEd L) w (by rw [flat_length encEd_len]) (by simp only [maxLen]; omega) (by omega) (fun j u hu => h.cell j hu) (encEd_one L)
    refine Calls.mono (show Calls Tryz.prog 163 _ _ _ from hcon) ?_
    rintro e w' ⟨v', rfl, ho, hne, hb⟩
    obtain ⟨a', c', rfl, hm⟩ := made_below ho hb
    exact ⟨a', c', rfl, hm⟩
set_option maxHeartbeats 1000000 in
theorem edges_sep {w0 w : World} {b n : Nat} {L : List Ed} {R : List Part} (h : Sep w0 w (NetP b n L :: R)) (hl : L.length ≤ 1048576) :
    Calls Tryz.prog 92 #[.pointer (some ⟨b, 0, none⟩)] w fun e w' => ∃ a c, e = .returned (.slice a L.length c) ∧ Made w w' 146 3 a L.length c (flat encEd L) := by
  obtain ⟨F, h1, _⟩ := h.first
  obtain ⟨a, c, x0, x1, x3, hb, hr⟩ := eds_of h1
  have b2 := hb.cell 2 rfl
  have bl := hb.lt
  have hcl := Lib.hid (cloneEd_any hr (by omega))
  clear h h1 hb hr
  go_enter Tryz.func92, Tryz.ntmps92
  go_wp2_with (go_at_call 163; refine hcl.out.mono ?_; rintro e w1 ⟨a', c', rfl, hm⟩; have hm' := Lib.hid hm; clear hm)
  go_ret
  exact ⟨a', c', rfl, hm'.out⟩
/-- The edge of a number; whether there is one. -/
def edAt (L : List Ed) (i : Int) : Ed × Bool := if h : 0 ≤ i ∧ i < L.length then (L[i.toNat], true) else ((0, 0, 0), false)
set_option maxRecDepth 100000 in
set_option maxHeartbeats 2000000 in
theorem edge_sep {w0 w : World} {b n : Nat} {L : List Ed} {R : List Part} (h : Sep w0 w (NetP b n L :: R)) (i : Int) :
    Calls Tryz.prog 159 #[.pointer (some ⟨b, 0, none⟩), .int .i64 i] w fun e w' => e = .returned (.tuple #[edV (edAt L i).1, .bool (edAt L i).2]) ∧ Mod [] w w' := by
  obtain ⟨F, h1, _⟩ := h.first
  obtain ⟨a, c, x0, x1, x3, hb, hr⟩ := eds_of h1
  have hm := Lib.hid (fun (W : World) (m : Mod [] w W) => m_sep (h.still m))
  have hmod := Lib.hid ((Mod.refl [] w).alloc (.cells #[.int .i64 0, .int .i64 0, .int .i64 0] 146))
  have b2 := hb.cell 2 rfl
  have bl := hb.lt
  have hr' := Lib.hid (Rd.ofReads hr)
  clear h h1 hb hr
  by_cases h0 : i < 0
  · have e : edAt L i = ((0, 0, 0), false) := by unfold edAt; rw [dif_neg (by omega)]
    rw [e]
    unfold edV
    go_enter Tryz.func159, Tryz.ntmps159
    go_wp2_with fail
    exact bodyPost_ret (v := .tuple #[.agg #[.int .i64 0, .int .i64 0, .int .i64 0], .bool false]) (by simp [results, Tryz.results159, go_sem]) rfl ⟨rfl, hmod.out⟩
  by_cases h1 : (L.length : Int) ≤ i
  · have e : edAt L i = ((0, 0, 0), false) := by unfold edAt; rw [dif_neg (by omega)]
    rw [e]
    unfold edV
    go_enter Tryz.func159, Tryz.ntmps159
    go_wp2_with (go_at_call 73; refine (hm.out _ hmod.out).mono ?_; rintro e w1 ⟨rfl, rfl⟩)
    exact bodyPost_ret (v := .tuple #[.agg #[.int .i64 0, .int .i64 0, .int .i64 0], .bool false]) (by simp [results, Tryz.results159, go_sem]) rfl ⟨rfl, hmod.out⟩
  · obtain ⟨k, rfl⟩ := Int.eq_ofNat_of_zero_le (show 0 ≤ i by omega)
    have hk : k < L.length := by omega
    have e : edAt L (k : Int) = (L[k], true) := by unfold edAt; rw [dif_pos (by omega)]; simp
    rw [e]
    obtain ⟨g, o, rfl, hg, hcell⟩ := ed_cells hr'.out hk
    obtain ⟨q0, q1, q2⟩ := hcell w (Mod.refl _ _)
    generalize L[k] = x at *
    obtain ⟨xu, xv, xw⟩ := x
    unfold edV
    simp only at q0 q1 q2
    have hk1 : (k : Int) < L.length := by omega
    clear hcell e
    go_enter Tryz.func159, Tryz.ntmps159
    go_wp2_with (go_at_call 73; refine (hm.out _ hmod.out).mono ?_; rintro e w1 ⟨rfl, rfl⟩)
    exact bodyPost_ret (v := .tuple #[.agg #[.int .i64 xu, .int .i64 xv, .int .i64 xw], .bool true]) (by simp [results, Tryz.results159, go_sem]) rfl ⟨rfl, (Mod.refl [] w).alloc _⟩
end Edge
end Go.Proofs.YtjpfmkfikidgkaaGreat
