/- A pairing heap: Drop, Pop. -/
import Derived.Test.YtmkbinbggiocaaaHp8
import Derived.Deep.RegionLaw
set_option linter.unusedVariables false
set_option linter.unusedSimpArgs false
namespace Go.Proofs.Ytmkbinbggiocaaa
open Go.RowKit Arena
namespace Hp
open Go.Proofs.Ytmkbinbggiocaaa.Code
def outT (H : Hp) (v n : Int) : Hp := { H with A := H.A.drop n.toNat, at_ := H.at_.set v.toNat (-1) }
/-- The heap without the tree of n, which stays to be freed. -/
def partT (fuel : Nat) (H : Hp) (n : Int) : Option Hp :=
  if n = H.root then (H.A.get n).bind fun x => (pairT fuel H x.child).map fun p => { p.1 with root := p.2 }
  else (cutT H n).bind fun H0 => (H0.A.get n).bind fun x => (pairT fuel H0 x.child).bind fun p => (linkT p.1 H.root p.2).map fun q => { q.1 with root := q.2 }
def dropT (fuel : Nat) (H : Hp) (v : Int) : Option (Hp × Bool) :=
  if placeT H v = -1 then some (H, false) else
    (partT fuel H (placeT H v)).bind fun H1 => (H1.A.get (placeT H v)).map fun _ => (outT H1 v (placeT H v), true)
theorem free_heap {w : World} {bh : Nat} {H : Hp} {F : List Nat} (h : HAt w bh H F) (n : Int) (x : Nd) (hn : H.A.get n = some x) :
    ∃ ba : Nat, w.cell? ⟨bh, 1, none⟩ = some (.pointer (some ⟨ba, 0, none⟩)) ∧ Calls Try.prog 147 #[.pointer (some ⟨ba, 0, none⟩), .int .i64 n] w fun e w' => e = .returned (.tuple #[x.val, .bool true]) ∧ HAt w' bh { H with A := H.A.drop n.toNat } F ∧ Mod F w w' := by
  obtain ⟨ba, ga, Fa, h1, h2, h3, h4, h5, h6, rfl, h7⟩ := h.out
  refine ⟨ba, h1.cell 1 rfl, (ArN.free_some h2 n x hn).mono ?_⟩
  rintro e w' ⟨rfl, ha, hm⟩
  exact ⟨rfl, ⟨ba, ga, Fa, h1.keep hm h5, ha, h3.keep hm h6, h4, h5, h6, rfl, h7⟩, hm.mono (fun b hb => by simp [hb])⟩
theorem ones_same {r : Int} : ∀ {T : List Int} {H H' : Hp} {rt : Int}, onesT H rt T = some (H', r) → Same H H' T.length
  | [], H, H', rt, h => by unfold onesT at h; simp only [Option.some.injEq, Prod.mk.injEq] at h; rw [← h.1]; exact Same.refl _
  | t :: ts, H, H', rt, h => by
    unfold onesT at h
    simp only [Option.bind_eq_some_iff] at h
    obtain ⟨⟨H1, r1⟩, h1, h2⟩ := h
    exact ((link_same h1).trans (ones_same h2)).mono (by simp; omega)
theorem twos_same : ∀ {fuel : Nat} {H H' : Hp} {n : Int} {trees T : List Int}, twosT fuel H n trees = some (H', T) → Same H H' fuel ∧ T.length ≤ trees.length + fuel
  | fuel, H, H', n, trees, T, h => by
    by_cases hn : n = -1
    · subst hn
      rw [twos_end] at h
      simp only [Option.some.injEq, Prod.mk.injEq] at h
      obtain ⟨rfl, rfl⟩ := h
      exact ⟨(Same.refl _).mono (by omega), by omega⟩
    · obtain ⟨k, x, rfl, hx, ⟨_, h1, rfl⟩ | ⟨_, y, H1, H2, H3, r, _, h1, h2, h3, h4⟩⟩ := twos_step hn h
      · exact ⟨(lone_same h1).mono (by omega), by simp⟩
      · obtain ⟨s1, s2⟩ := twos_same h4
        refine ⟨((((lone_same h1).trans (lone_same h2)).trans (link_same h3)).trans s1).mono (by omega), ?_⟩
        simp only [List.length_append, List.length_cons, List.length_nil] at s2
        omega
theorem pair_same {fuel : Nat} {H H' : Hp} {n r : Int} (h : pairT fuel H n = some (H', r)) : Same H H' (2 * fuel) := by
  unfold pairT at h
  simp only [Option.bind_eq_some_iff] at h
  obtain ⟨⟨H1, T⟩, h1, h2⟩ := h
  obtain ⟨s1, s2⟩ := twos_same h1
  exact (s1.trans (ones_same h2)).mono (by simp at s2 ⊢; omega)
set_option maxRecDepth 100000 in
set_option maxHeartbeats 4000000 in
theorem drop_any {w : World} {bh : Nat} {H H' : Hp} {F : List Nat} (fuel : Nat) (h : HAt w bh H F) (v : Int) (ok : Bool) (hT : dropT fuel H v = some (H', ok)) (hl0 : 0 ≤ H.links) (hl1 : H.links + 2 * fuel < 2305843009213693952) (hfu : fuel ≤ 1048576) (hvr : ∀ H1, partT fuel H (placeT H v) = some H1 → H1.room = H.room ∧ H1.at_ = H.at_) :
    Calls Try.prog 84 #[.pointer (some ⟨bh, 0, none⟩), .int .i64 v] w fun e w' => e = .returned (.bool ok) ∧ HAt w' bh H' F ∧ Mod F w w' := by
  have hp := Lib.hid (place_any h v)
  obtain ⟨ba, ga, c0, c1, c2, c3, c4, cz, cl, cF⟩ := h.head
  have h' := Lib.hid h
  unfold dropT at hT
  by_cases h0 : placeT H v = -1
  · rw [if_pos h0] at hT
    simp only [Option.some.injEq, Prod.mk.injEq] at hT
    obtain ⟨rfl, rfl⟩ := hT
    rw [h0] at hp
    clear h h0
    go_enter Try.func84, Try.ntmps84
    go_wp2_with fail
    refine hp.out.mono ?_
    rintro e w1 ⟨rfl, rfl⟩
    try dsimp only
    go_wp2_with fail
    go_ret
    exact ⟨rfl, h'.out, Mod.refl _ _⟩
  · rw [if_neg h0] at hT
    simp only [Option.bind_eq_some_iff, Option.map_eq_some_iff, Prod.mk.injEq] at hT
    obtain ⟨H1, hpart, xo, hxo, rfl, rfl⟩ := hT
    have hv := hvr H1 hpart
    have hpl : 0 ≤ v ∧ v < H.room := by
      unfold placeT at h0
      split at h0
      · assumption
      · exact absurd rfl h0
    have h1 : (placeT H v == -1) = false := by simpa using h0
    have hpart' := Lib.hid hpart
    have hxo' := Lib.hid hxo
    have hv' := Lib.hid hv
    clear h h0 hvr hpart hxo hv c0 c1 c2 c4
    generalize placeT H v = n at *
    unfold partT at hpart'
    by_cases hr : n = H.root
    case' pos =>
      have e := hpart'.out
      rw [if_pos hr] at e
      simp only [Option.bind_eq_some_iff, Option.map_eq_some_iff] at e
      obtain ⟨x, hx, ⟨H2, r⟩, hpr, he⟩ := e
      have hr1 : (n == H.root) = true := by simp [hr]
      have hg := Lib.hid (get_any h'.out n x hx)
      have hpw := Lib.hid (fun w' (m : Mod [] w w') => pair_any (h'.out.still m) x.child r fuel hpr hl0 (by omega) hfu)
      have he' := Lib.hid he
      clear hr hx hpr hpart' he
      go_enter Try.func84, Try.ntmps84
      go_wp2_with fail
      refine hp.out.mono ?_
      rintro e w1 ⟨rfl, rfl⟩
      try dsimp only
      go_wp2_with fail
      refine hg.out.mono ?_
      rintro e w2 ⟨rfl, hm2⟩
      try dsimp only
      unfold Nd.val
      have hm2' := Lib.hid hm2
      clear hm2 hg
      go_wp2_with fail
      refine (hpw.out _ hm2'.out).mono ?_
      rintro e w3 ⟨rfl, hH3, hm3⟩
      try dsimp only
      obtain ⟨ba3, ga3, d0, d1, d2, d3, d4, dz, dl, dF⟩ := hH3.head
      have hE := Lib.hid (show HAt (w3.setCell ⟨bh, 3, none⟩ (.int .i64 r)) bh H1 F by rw [← he'.out]; exact hH3.root r)
      have hME := Lib.hid (show Mod F w1 (w3.setCell ⟨bh, 3, none⟩ (.int .i64 r)) from (hm2'.out.of0.trans hm3 (fun b hb _ => hb)).setCell ⟨bh, 3, none⟩ (.int .i64 r) (fun _ => dF))
      clear hH3 hm3 hpw hm2' he' d0 d1 d2 d4 h' c3 cz cl cF hp
      go_upto_region 8 with fail
      generalize w3.setCell ⟨bh, 3, none⟩ (.int .i64 r) = wE at *
      clear d3 dz dl hr1
    case' neg =>
      have e := hpart'.out
      rw [if_neg hr] at e
      simp only [Option.bind_eq_some_iff, Option.map_eq_some_iff] at e
      obtain ⟨H0, hcut, x, hx, ⟨H2, r1⟩, hpr, ⟨H3, r⟩, hlk, he⟩ := e
      have hr1 : (n == H.root) = false := by simpa using hr
      have hct := Lib.hid (cut_any h'.out n hcut)
      have hs0 := cut_same hcut
      have hx' := Lib.hid hx
      have hpr' := Lib.hid hpr
      have hlk' := Lib.hid hlk
      have he' := Lib.hid he
      have hs0' := Lib.hid hs0
      clear hr hx hpr hpart' he hcut hlk hs0
      go_enter Try.func84, Try.ntmps84
      go_wp2_with fail
      refine hp.out.mono ?_
      rintro e w1 ⟨rfl, rfl⟩
      try dsimp only
      go_wp2_with fail
      refine hct.out.mono ?_
      rintro e w2 ⟨rfl, hH2, hm2⟩
      try dsimp only
      clear c3 cz cl hct hp
      obtain ⟨ba3, ga3, d0, d1, d2, d3, d4, dz, dl, dF⟩ := hH2.head
      rw [hs0'.out.root] at d3
      have hm2' := Lib.hid hm2
      have hg := Lib.hid (get_any (hH2.still (Mod.refl [] w2).drew) n x hx'.out)
      have hpw := Lib.hid (fun w' (m : Mod [] w2.drew w') => pair_any ((hH2.still (Mod.refl [] w2).drew).still m) x.child r1 fuel hpr'.out (Int.le_trans hl0 hs0'.out.lo) (by have := hs0'.out.hi; omega) hfu)
      have hH2' := Lib.hid hH2
      clear hm2 hH2 h' cF d0 d1 d2 d4
      have e0 : ∀ n2, (w2.drewN n2).cell? ⟨bh, 3, none⟩ = some (.int .i64 H.root) := fun _ => d3
      have hp2 := pair_same hpr'.out
      have hroot2 : H2.root = H.root := hp2.root.trans hs0'.out.root
      have hlw := Lib.hid (fun w' (hH : HAt w' bh H2 F) => link_any hH H.root r1 r hlk'.out (Int.le_trans hl0 (Int.le_trans hs0'.out.lo hp2.lo)) (by have := hs0'.out.hi; have := hp2.hi; omega))
      have hroot2' := Lib.hid hroot2
      clear hp2 hroot2
      go_upto_region 7 with fail
      go_region_law (first
        | (rw [if_pos (by rfl)]; go_simp; go_at_call 135; refine hg.out.mono ?_; rintro e w4 ⟨rfl, hm4⟩; obtain ⟨ba4, ga4, g0, g1, g2, g3, g4, gz, gl, gF⟩ := ((hH2'.out.still (Mod.refl [] w2).drew).still hm4).head; rw [hs0'.out.root] at g3; clear g0 g1 g2 g4; unfold Nd.val; dsimp only)
        | (rw [if_pos (by rfl)]; go_simp; go_at_call 146; refine (hpw.out _ hm4).mono ?_; rintro e w5 ⟨rfl, hH5, hm5⟩; obtain ⟨ba5, ga5, k0, k1, k2, k3, k4, kz, kl, kF⟩ := hH5.head; rw [hroot2'.out] at k3; clear k0 k1 k2 k4; have hH5' := Lib.hid hH5; have hm5' := Lib.hid hm5; clear hH5 hm5; dsimp only)
        | (rw [if_pos (by rfl)]; go_simp; go_at_call 133; refine (hlw.out _ hH5'.out).mono ?_; rintro e w6 ⟨rfl, hH6, hm6⟩; obtain ⟨ba6, ga6, p0, p1, p2, p3, p4, pz, pL, pF⟩ := hH6.head; clear p0 p1 p2 p4; have hH6' := Lib.hid hH6; have hm6' := Lib.hid hm6; clear hH6 hm6; dsimp only))
      all_goals
        have hE := Lib.hid (show HAt (w6.setCell ⟨bh, 3, none⟩ (.int .i64 r)) bh H1 F by rw [← he'.out]; exact hH6'.out.root r)
        have hME := Lib.hid (show Mod F w1 (w6.setCell ⟨bh, 3, none⟩ (.int .i64 r)) from ((((hm2'.out.drew.trans hm4 (by simp)).trans hm5'.out (fun b hb _ => hb)).trans hm6'.out (fun b hb _ => hb))).setCell ⟨bh, 3, none⟩ (.int .i64 r) (fun _ => pF))
        clear hg hpw hlw hm2' hm4 hm5' hm6' hH2' hH5' hH6' d3 dz dl dF g3 gz gl gF k3 kz kl kF p3 pz pL pF he' hlk' hpr' hx' hs0' hroot2' e0 hr1
        go_upto_region 8 with fail
        generalize w6.setCell ⟨bh, 3, none⟩ (.int .i64 r) = wE at *
    all_goals
      obtain ⟨ba8, e1, hfr⟩ := free_heap hE.out n xo hxo'.out
      have hfr' := Lib.hid hfr
      have el := Lib.hid hE.out.head
      obtain ⟨_, _, _, _, _, _, _, _, ebl, _⟩ := el.out
      clear hfr el hxo' hE
      go_wp2_with fail
      refine hfr'.out.mono ?_
      rintro e w9 ⟨rfl, hH9, hm9⟩
      try dsimp only
      obtain ⟨ga9, d2, da, dz9, dl9, dne, dF9, ds⟩ := hH9.at
      have hv := hv'.out
      have da0 := da v.toNat (show v.toNat < H1.room by have := hv.1; omega)
      have hbl9 := hH9.head.choose_spec.choose_spec.2.2.2.2.2.2.1
      have hfin := Lib.hid (show HAt _ bh (outT H1 v n) F ∧ Mod F w1 _ from ⟨ds v.toNat (-1), (hME.out.trans hm9 (fun b hb _ => hb)).setCell ⟨ga9, v.toNat, none⟩ (.int .i64 (-1)) (fun _ => dF9)⟩)
      replace d2 : w9.cell? ⟨bh, 2, none⟩ = some (.slice (some ⟨ga9, 0, none⟩) H1.room H1.room) := d2
      rw [hv.1] at d2
      generalize hau : ({ H1 with A := H1.A.drop n.toNat } : Hp).at_.getD v.toNat (-1) = au at *
      clear hau hv hv' da ds hH9 hm9 hME hfr' e1 ebl
      go_wp2_with fail
      go_ret
      exact ⟨rfl, hfin.out⟩
end Hp
end Go.Proofs.Ytmkbinbggiocaaa
