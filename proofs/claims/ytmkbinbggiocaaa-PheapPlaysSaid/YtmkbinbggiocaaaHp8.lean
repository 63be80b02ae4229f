/- A pairing heap: Push, Raise. -/
import Derived.Test.YtmkbinbggiocaaaHp7
set_option linter.unusedVariables false
set_option linter.unusedSimpArgs false
namespace Go.Proofs.Ytmkbinbggiocaaa
open Go.RowKit Arena
namespace Hp
open Go.Proofs.Ytmkbinbggiocaaa.Code
/-- What a call leaves: the heap is H, nothing else that was there has changed. -/
structure HLeft (w w' : World) (bh : Nat) (H : Hp) (F : List Nat) : Prop where
  mk ::
  out : ∃ F', HAt w' bh H F' ∧ Mod F w w' ∧ ∀ b ∈ F', b ∈ F ∨ w.heap.size ≤ b
theorem HLeft.of {w w' : World} {bh : Nat} {H : Hp} {F : List Nat} (h : HAt w' bh H F) (m : Mod F w w') : HLeft w w' bh H F := ⟨F, h, m, fun b hb => .inl hb⟩
theorem HLeft.trans {w w1 w2 : World} {bh : Nat} {H H' : Hp} {F F1 : List Nat} (h1 : HAt w1 bh H F1) (m1 : Mod F w w1) (hn : ∀ b ∈ F1, b ∈ F ∨ w.heap.size ≤ b) (h2 : HLeft w1 w2 bh H' F1) : HLeft w w2 bh H' F := by
  obtain ⟨F2, h3, m2, hn2⟩ := h2.out
  refine ⟨F2, h3, m1.trans m2 (fun b hb hlt => ?_), fun b hb => ?_⟩
  · rcases hn b hb with h | h
    · exact h
    · omega
  · rcases hn2 b hb with h | h
    · exact hn b h
    · exact .inr (Nat.le_trans m1.size h)
theorem give_any {w : World} {ba : Nat} {A : Ar Nd} {F : List Nat} (H : ArN.At w ba A F) (x : Nd) (n : Nat) (hg : (A.give x).2 = some n) :
    Calls Try.prog 132 #[.pointer (some ⟨ba, 0, none⟩), x.val] w fun e w' => e = .returned (.tuple #[.int .i64 n, .bool true]) ∧ ArN.Left w w' ba (A.give x).1 F := by
  cases he : A.free with
  | cons i l =>
    have e : n = i := by simp [Ar.give, he] at hg; exact hg.symm
    subst e
    refine (ArN.give_old H x n l he).mono ?_
    rintro e w' ⟨rfl, ha, hm⟩
    exact ⟨rfl, ⟨F, ha, hm, fun b hb => .inl hb⟩⟩
  | nil =>
    have hr : A.cells.length < A.room := by
      rcases Nat.lt_or_ge A.cells.length A.room with h | h
      · exact h
      · simp [Ar.give, he, Nat.not_lt.2 h] at hg
    have e : n = A.cells.length := by simp [Ar.give, he, hr] at hg; exact hg.symm
    subst e
    exact ArN.give_new H x he hr
theorem give_heap {w : World} {bh : Nat} {H : Hp} {F : List Nat} (h : HAt w bh H F) (x : Nd) (n : Nat) (hg : (H.A.give x).2 = some n) :
    ∃ ba : Nat, w.cell? ⟨bh, 1, none⟩ = some (.pointer (some ⟨ba, 0, none⟩)) ∧ Calls Try.prog 132 #[.pointer (some ⟨ba, 0, none⟩), x.val] w fun e w' => e = .returned (.tuple #[.int .i64 n, .bool true]) ∧ HLeft w w' bh { H with A := (H.A.give x).1 } F := by
  obtain ⟨ba, ga, Fa, h1, h2, h3, h4, h5, h6, rfl, h7⟩ := h.out
  refine ⟨ba, h1.cell 1 rfl, (give_any h2 x n hg).mono ?_⟩
  rintro e w' ⟨rfl, hl⟩
  refine ⟨rfl, ?_⟩
  obtain ⟨Fa', ha, hm, hn⟩ := hl.out
  have hb1 : bh ∉ Fa' := fun hb => by
    rcases hn bh hb with h | h
    · exact h5 h
    · have := h1.lt; omega
  have hb2 : ga ∉ Fa' := fun hb => by
    rcases hn ga hb with h | h
    · exact h6 h
    · have := h3.lt; omega
  refine ⟨bh :: ga :: Fa', ⟨ba, ga, Fa', h1.keep hm h5, ha, h3.keep hm h6, h4, hb1, hb2, rfl, h7⟩, hm.mono (fun b hb => by simp [hb]), fun b hb => ?_⟩
  simp only [List.mem_cons] at hb ⊢
  rcases hb with hb | hb | hb
  · exact .inl (.inl hb)
  · exact .inl (.inr (.inl hb))
  · rcases hn b hb with h | h
    · exact .inl (.inr (.inr h))
    · exact .inr h
def given (H : Hp) (v key : Int) (n : Nat) : Hp := { H with A := (H.A.give ⟨v, key, -1, -1, -1⟩).1, at_ := H.at_.set v.toNat n }
def pushT (H : Hp) (v key : Int) : Option (Hp × Bool) :=
  if (0 ≤ v ∧ v < H.room) ∧ H.at_.getD v.toNat (-1) = -1 then
    (H.A.give ⟨v, key, -1, -1, -1⟩).2.bind fun n => (linkT (given H v key n) H.root n).map fun p => ({ p.1 with root := p.2 }, true)
  else some (H, false)
set_option maxRecDepth 100000 in
set_option maxHeartbeats 4000000 in
theorem push_any {w : World} {bh : Nat} {H H' : Hp} {F : List Nat} (h : HAt w bh H F) (v key : Int) (ok : Bool) (hT : pushT H v key = some (H', ok)) (hl0 : 0 ≤ H.links) (hl1 : H.links < 4611686018427387904) :
    Calls Try.prog 72 #[.pointer (some ⟨bh, 0, none⟩), .int .i64 v, .int .i64 key] w fun e w' => e = .returned (.bool ok) ∧ HLeft w w' bh H' F := by
  have hr := Lib.hid (room_any h)
  obtain ⟨ga, c2, ca, cz, cl, cne, cF, cs⟩ := h.at
  have hroom := h.out.choose_spec.choose_spec.choose_spec.2.2.2.2.2.2.2.2
  have h' := Lib.hid h
  clear h cs
  unfold pushT at hT
  by_cases hv : v < 0
  · rw [if_neg (by omega)] at hT
    simp only [Option.some.injEq, Prod.mk.injEq] at hT
    obtain ⟨rfl, rfl⟩ := hT
    clear ca
    go_enter Try.func72, Try.ntmps72
    go_wp2_with fail
    go_ret
    exact ⟨rfl, .of h'.out (Mod.refl _ _)⟩
  by_cases hv1 : H.room ≤ v
  · rw [if_neg (by omega)] at hT
    simp only [Option.some.injEq, Prod.mk.injEq] at hT
    obtain ⟨rfl, rfl⟩ := hT
    have hv0 : 0 ≤ v := by omega
    clear ca
    go_enter Try.func72, Try.ntmps72
    go_wp2_with fail
    refine hr.out.mono ?_
    rintro e w1 ⟨rfl, rfl⟩
    try dsimp only
    go_wp2_with fail
    go_ret
    exact ⟨rfl, .of h'.out (Mod.refl _ _)⟩
  have hk := ca v.toNat (by omega)
  have hv0 : 0 ≤ v := by omega
  have hv2 : v < H.room := by omega
  have hv3 : ¬ (H.room : Int) ≤ v := by omega
  by_cases h0 : H.at_.getD v.toNat (-1) = -1
  · rw [if_pos ⟨⟨hv0, hv2⟩, h0⟩] at hT
    simp only [Option.bind_eq_some_iff, Option.map_eq_some_iff, Prod.mk.injEq] at hT
    obtain ⟨n, hn, ⟨H2, r⟩, hlk, rfl, rfl⟩ := hT
    rw [h0] at hk
    obtain ⟨ba, k1, hgv⟩ := give_heap h'.out ⟨v, key, -1, -1, -1⟩ n hn
    have hgv' := Lib.hid hgv
    have hlk' := Lib.hid hlk
    clear ca hgv hlk hn h0
    go_enter Try.func72, Try.ntmps72
    go_wp2_with fail
    refine hr.out.mono ?_
    rintro e w1 ⟨rfl, rfl⟩
    try dsimp only
    go_wp2_with fail
    refine hgv'.out.mono ?_
    rintro e w2 ⟨rfl, hL⟩
    try dsimp only
    obtain ⟨F1, hA, hm, hnF⟩ := hL.out
    obtain ⟨ga2, d2, da, dz, dl, dne, dF, ds⟩ := hA.at
    have hs := ds v.toNat n
    have da0 := da v.toNat (show v.toNat < H.room by omega)
    have hdb := hA.lt bh (by obtain ⟨_, _, _, _, _, _, _, _, _, e, _⟩ := hA.out; rw [e]; simp)
    have hm' := Lib.hid hm
    have hnF' := Lib.hid hnF
    have hA' := Lib.hid hA
    have hs' := Lib.hid hs
    clear hL hA hm hnF hs ds da hgv' hk c2 cz cl cne cF k1 hr
    go_upto_region 7 with fail
    have hG : HAt (w2.setCell ⟨ga2, v.toNat, none⟩ (.int .i64 n)) bh (given H v key n) F1 := hs'.out
    have hm3 := Lib.hid (show Mod F1 w2 (w2.setCell ⟨ga2, v.toNat, none⟩ (.int .i64 n)) from (Mod.refl _ _).setCell _ _ (fun _ => dF))
    generalize w2.setCell ⟨ga2, v.toNat, none⟩ (.int .i64 n) = w3 at *
    obtain ⟨ba3, ga3, e0, e1, e2, e3, e4, ez, el, eF⟩ := hG.head
    replace e3 : w3.cell? ⟨bh, 3, none⟩ = some (.int .i64 H.root) := e3
    have hL2 := Lib.hid (link_any hG H.root n r hlk'.out hl0 hl1)
    clear d2 dz dl dne dF da0 hdb hs' e0 e1 e2 e4 ez hG hlk'
    go_wp2_with fail
    refine hL2.out.mono ?_
    rintro e w4 ⟨rfl, hH4, hm4⟩
    try dsimp only
    obtain ⟨ba4, ga4, g0, g1, g2, g3, g4, gz, gl, gF⟩ := hH4.head
    have hfin := Lib.hid (HLeft.trans hA'.out hm'.out hnF'.out (.of (hH4.root r) (((hm3.out.trans hm4 (fun b hb _ => hb))).setCell ⟨bh, 3, none⟩ (.int .i64 r) (fun _ => gF))))
    clear hL2 e3 el hH4 hm4 g0 g1 g2 g4
    go_wp2_with fail
    go_ret
    exact ⟨rfl, hfin.out⟩
  · rw [if_neg (fun hh => h0 hh.2)] at hT
    simp only [Option.some.injEq, Prod.mk.injEq] at hT
    obtain ⟨rfl, rfl⟩ := hT
    have h1 : (H.at_.getD v.toNat (-1) != -1) = true := by simpa using h0
    clear ca h0
    generalize H.at_.getD v.toNat (-1) = u at *
    go_enter Try.func72, Try.ntmps72
    go_wp2_with fail
    refine hr.out.mono ?_
    rintro e w1 ⟨rfl, rfl⟩
    try dsimp only
    go_wp2_with fail
    go_ret
    exact ⟨rfl, .of h'.out (Mod.refl _ _)⟩
theorem cut_same {H H' : Hp} {n : Int} (h : cutT H n = some H') : Same H H' 0 := by
  obtain ⟨x, H1, H2, y, _, hA, hB, _, rfl⟩ := cutT_some h
  have a : Same H H1 0 := by
    rcases cutA_some hA with ⟨_, rfl⟩ | ⟨_, z, _, rfl⟩
    · exact Same.refl _
    · exact put_same _ _ _
  have b : Same H1 H2 0 := by
    rcases cutB_some hB with ⟨_, rfl⟩ | ⟨_, z, _, rfl⟩
    · exact Same.refl _
    · exact put_same _ _ _
  exact (a.trans b).trans (put_same _ _ _)
def raiseT (H : Hp) (v key : Int) : Option (Hp × Bool) :=
  if placeT H v = -1 then some (H, false) else (H.A.get (placeT H v)).bind fun x =>
    if key < x.key then some (H, false) else
      if placeT H v = H.root then some (H.put (placeT H v) { x with key := key }, true)
      else (cutT (H.put (placeT H v) { x with key := key }) (placeT H v)).bind fun H1 => (linkT H1 H1.root (placeT H v)).map fun p => ({ p.1 with root := p.2 }, true)
set_option maxRecDepth 100000 in
set_option maxHeartbeats 4000000 in
theorem raise_any {w : World} {bh : Nat} {H H' : Hp} {F : List Nat} (h : HAt w bh H F) (v key : Int) (ok : Bool) (hT : raiseT H v key = some (H', ok)) (hl0 : 0 ≤ H.links) (hl1 : H.links < 4611686018427387904) :
    Calls Try.prog 73 #[.pointer (some ⟨bh, 0, none⟩), .int .i64 v, .int .i64 key] w fun e w' => e = .returned (.bool ok) ∧ HLeft w w' bh H' F := by
  have hmf : ∀ (fn : Fn) (first cap : Array Value) (w : World), (Instr.makeFunc fn first cap).run Try.prog w = .ok (.func fn first cap) w := fun _ _ _ _ => rfl
  obtain ⟨wc, hwc⟩ : ∃ wc, wc = w.alloc (.cells #[.int .i64 key] 2) := ⟨_, rfl⟩
  obtain ⟨B, hBb⟩ : ∃ B, B = w.heap.size := ⟨_, rfl⟩
  have m0 : Mod [] w wc := by rw [hwc]; exact (Mod.refl [] w).alloc _
  have k1 : Has wc B [.int .i64 key] 2 := by rw [hwc, hBb]; exact Has.new w _ _
  have hc := h.still m0
  have hp := Lib.hid (place_any hc v)
  have hwc' := Lib.hid hwc
  have hBb' := Lib.hid hBb
  have k1' := Lib.hid k1
  have m0' := Lib.hid m0
  have hc' := Lib.hid hc
  have hBF : ∀ c ∈ F, c < B := fun c hc => by rw [hBb]; exact h.lt c hc
  unfold raiseT at hT
  by_cases h0 : placeT H v = -1
  · rw [if_pos h0] at hT
    simp only [Option.some.injEq, Prod.mk.injEq] at hT
    obtain ⟨rfl, rfl⟩ := hT
    rw [h0] at hp
    clear h hc h0 hwc hBb k1 m0
    go_enter Try.func73, Try.ntmps73
    go_wp2_with fail
    rw [← hwc'.out]
    refine hp.out.mono ?_
    rintro e w1 ⟨rfl, rfl⟩
    try dsimp only
    go_wp2_with fail
    go_quiet (fail)
    go_wp2_with fail
    go_ret
    exact ⟨rfl, .of (hc'.out.still ((Mod.refl [] _).drewN _)) (m0'.out.of0.drewN _)⟩
  · rw [if_neg h0] at hT
    simp only [Option.bind_eq_some_iff] at hT
    obtain ⟨x, hx, hT⟩ := hT
    have h1 : (placeT H v == -1) = false := by simpa using h0
    have hg := Lib.hid (get_any (hc.still (Mod.refl [] wc).drew) _ x hx)
    have fb : ∀ m : Fut (Mod []) wc.drew, m.v.cell? ⟨B, 0, none⟩ = some (.int .i64 key) := fun m => ((k1.drew).keep m.of (by simp)).cell 0 rfl
    have hx' := Lib.hid hx
    have dB : B ∉ F := fun hb => by have := hBF B hb; omega
    clear h hc h0 hwc hBb k1 m0 hx hBF
    generalize placeT H v = n at *
    have hT' := Lib.hid hT
    clear hT
    go_enter Try.func73, Try.ntmps73
    go_wp2_with fail
    rw [← hwc'.out, ← hBb'.out]
    refine hp.out.mono ?_
    rintro e w1 ⟨rfl, rfl⟩
    try dsimp only
    go_upto_region 2 with fail
    refine region_sched (G := Mod []) [([0,1,2,3,4,7],5)] [6,8,9] (by kernel_rfl) (by kernel_rfl) (by kernel_rfl) rfl (Mod.refl _) (fun _ _ _ h1 h2 => h1.trans h2 (by simp)) ?_
    simp only [stages, pickO, nthO, headO, List.cons_append, List.nil_append]
    refine sched_step ?_
    repeat (go_big_quiet_step (fail))
    refine wpQuiet_nil ?_
    intro K hK
    rw [if_pos (by rfl)]
    go_simp
    refine hg.out.mono ?_
    rintro e w2 ⟨rfl, hm⟩
    try dsimp only
    unfold Nd.val
    have q1 := Lib.hid (k1'.out.drew.keep hm (by simp))
    have q2 := Lib.hid ((hc'.out.still (Mod.refl [] _).drew).still hm)
    have q3 := Lib.hid (show Mod [] w w2 from m0'.out.drew.trans hm (by simp))
    refine hK.out _ _ hm ?_
    clear hK K fb hm hg hp hwc' k1' m0' hc'
    refine sched_last ?_
    repeat (go_big_quiet_step (fail))
    refine wpQuiet_nil ?_
    by_cases hk : key < x.key
    · have e := hT'.out
      rw [if_pos hk] at e
      simp only [Option.some.injEq, Prod.mk.injEq] at e
      obtain ⟨rfl, rfl⟩ := e
      clear hT'
      go_wp2_with fail
      go_ret
      exact ⟨rfl, .of q2.out q3.out.of0⟩
    · have e := hT'.out
      rw [if_neg hk] at e
      have e' := Lib.hid e
      have ht := Lib.hid (turn_any q2.out n x _ hx'.out 137 #[.pointer (some ⟨B, 0, none⟩)] (fun B w => by simp [go_sem]) (raise1_makes ⟨q1.out⟩ x))
      clear e hT' hx'
      go_upto_region 4 with fail
      go_wp2_with fail
      refine ht.out.mono ?_
      rintro e w3 ⟨rfl, hH3, hm3⟩
      try dsimp only
      obtain ⟨ba, ga, c0, c1, c2, c3, c4, cz, cl, cF⟩ := hH3.head
      replace c3 : w3.cell? ⟨bh, 3, none⟩ = some (.int .i64 H.root) := c3
      have hH3' := Lib.hid hH3
      have hm3' := Lib.hid (show Mod F w w3 from q3.out.of0.trans hm3 (fun b hb _ => hb))
      clear hH3 hm3 ht q1 q2 q3 c0 c1 c2 c4
      by_cases hr : n = H.root
      · have e := e'.out
        rw [if_pos hr] at e
        simp only [Option.some.injEq, Prod.mk.injEq] at e
        obtain ⟨rfl, rfl⟩ := e
        have hr1 : (n != H.root) = false := by simp [hr]
        clear e' hr
        go_wp2_with fail
        go_ret
        exact ⟨rfl, .of hH3'.out hm3'.out⟩
      · have e := e'.out
        rw [if_neg hr] at e
        simp only [Option.bind_eq_some_iff, Option.map_eq_some_iff, Prod.mk.injEq] at e
        obtain ⟨H1, hcut, ⟨H2, r⟩, hlk, rfl, rfl⟩ := e
        have hr1 : (n != H.root) = true := by simpa using hr
        have hsm := cut_same hcut
        have hct := Lib.hid (cut_any hH3'.out n hcut)
        have hroot : H1.root = H.root := hsm.root
        rw [hroot] at hlk
        have hlk' := Lib.hid hlk
        have hlo : 0 ≤ H1.links := by have := hsm.lo; exact Int.le_trans hl0 this
        have hhi : H1.links < 4611686018427387904 := by
          have := hsm.hi
          have e : (H.put n { x with key := key }).links = H.links := rfl
          rw [e] at this
          omega
        clear e' hr hcut hlk hsm
        go_wp2_with fail
        refine hct.out.mono ?_
        rintro e w4 ⟨rfl, hH4, hm4⟩
        try dsimp only
        obtain ⟨ba4, ga4, d0, d1, d2, d3, d4, dz, dl, dF⟩ := hH4.head
        rw [hroot] at d3
        have hL2 := Lib.hid (link_any hH4 H.root n r hlk'.out hlo hhi)
        have hm4' := Lib.hid (hm3'.out.trans hm4 (fun b hb _ => hb))
        clear hct hH4 hm4 hH3' hm3' c3 cz cl cF d0 d1 d2 d4 hlk'
        clear hroot
        generalize H.root = rt at *
        go_wp2_with fail
        refine hL2.out.mono ?_
        rintro e w5 ⟨rfl, hH5, hm5⟩
        try dsimp only
        obtain ⟨ba5, ga5, g0, g1, g2, g3, g4, gz, gl, gF⟩ := hH5.head
        have hfin := Lib.hid (HLeft.of (hH5.root r) ((hm4'.out.trans hm5 (fun b hb _ => hb)).setCell ⟨bh, 3, none⟩ (.int .i64 r) (fun _ => gF)))
        clear hL2 d3 dz dl hH5 hm5 g0 g1 g2 g4
        go_wp2_with fail
        go_ret
        exact ⟨rfl, hfin.out⟩
end Hp
end Go.Proofs.Ytmkbinbggiocaaa
