/- A pairing heap: Room, Len, Links, place, Key, Top, Push, Raise. -/
import Derived.Test.YtmkbinbggiocaaaHp6
import Derived.Test.YtmkbinbggiocaaaArN3
import Derived.Test.YtmkbinbggiocaaaHpNil
set_option linter.unusedVariables false
set_option linter.unusedSimpArgs false
namespace Go.Proofs.Ytmkbinbggiocaaa
open Go.RowKit Arena
namespace Hp
open Go.Proofs.Ytmkbinbggiocaaa.Code
theorem raise_nil (w : World) (v k : Int) : Calls Try.prog 73 #[.pointer none, .int .i64 v, .int .i64 k] w fun e w' => e = .returned (.bool false) ∧ Mod [] w w' := by
  have hp := Lib.hid (place_nil (w.alloc (.cells #[.int .i64 k] 2)) v)
  go_enter Try.func73, Try.ntmps73
  go_wp2_with fail
  refine hp.out.mono ?_
  rintro e w1 ⟨rfl, rfl⟩
  try dsimp only
  go_wp2_with fail
  go_quiet (fail)
  go_wp2_with fail
  go_ret
  exact ⟨rfl, ((Mod.refl [] w).alloc _).drewN _⟩
theorem room_any {w : World} {bh : Nat} {H : Hp} {F : List Nat} (h : HAt w bh H F) : Calls Try.prog 77 #[.pointer (some ⟨bh, 0, none⟩)] w fun e w' => e = .returned (.int .i64 H.room) ∧ w' = w := by
  obtain ⟨ba, ga, c0, c1, c2, c3, c4, cz, cl, cF⟩ := h.head
  clear h
  go_enter Try.func77, Try.ntmps77
  go_wp2
  go_ret
  exact ⟨rfl, rfl⟩
theorem links_any {w : World} {bh : Nat} {H : Hp} {F : List Nat} (h : HAt w bh H F) : Calls Try.prog 80 #[.pointer (some ⟨bh, 0, none⟩)] w fun e w' => e = .returned (.int .i64 H.links) ∧ w' = w := by
  obtain ⟨ba, ga, c0, c1, c2, c3, c4, cz, cl, cF⟩ := h.head
  clear h
  go_enter Try.func80, Try.ntmps80
  go_wp2
  go_ret
  exact ⟨rfl, rfl⟩
theorem len_any {w : World} {bh : Nat} {H : Hp} {F : List Nat} (h : HAt w bh H F) : Calls Try.prog 75 #[.pointer (some ⟨bh, 0, none⟩)] w fun e w' => e = .returned (.int .i64 H.A.count) ∧ w' = w := by
  obtain ⟨ba, ga, Fa, h1, h2, h3, h4, h5, h6, h7, h8⟩ := h.out
  have c1 := h1.cell 1 rfl
  have hl := Lib.hid (ArN.len_at h2)
  clear h h1 h2 h3 h4 h5 h6 h7 h8
  go_enter Try.func75, Try.ntmps75
  go_wp2_with fail
  refine hl.out.mono ?_
  rintro e w1 ⟨rfl, rfl⟩
  try dsimp only
  go_wp2_with fail
  go_ret
  exact ⟨rfl, rfl⟩
def placeT (H : Hp) (v : Int) : Int := if 0 ≤ v ∧ v < H.room then H.at_.getD v.toNat (-1) else -1
/-- The cell of a vertex's node. -/
theorem HAt.at {w : World} {bh : Nat} {H : Hp} {F : List Nat} (h : HAt w bh H F) : ∃ ga : Nat, w.cell? ⟨bh, 2, none⟩ = some (.slice (some ⟨ga, 0, none⟩) H.room H.room) ∧ (∀ k, k < H.room → w.cell? ⟨ga, k, none⟩ = some (.int .i64 (H.at_.getD k (-1)))) ∧ (∀ i, w.frozen? ⟨ga, i, none⟩ = false) ∧ ga < w.heap.size ∧ bh ≠ ga ∧ ga ∈ F ∧
    (∀ k u, HAt (w.setCell ⟨ga, k, none⟩ (.int .i64 u)) bh { H with at_ := H.at_.set k u } F) := by
  obtain ⟨ba, ga, Fa, h1, h2, h3, h4, h5, h6, rfl, h7, h8⟩ := h.out
  refine ⟨ga, by have := h1.cell 2 rfl; rwa [h7] at this, fun k hk => h3.cell k ?_, h3.free, h3.lt, h4, by simp, fun k u => ?_⟩
  · simp [vi64, List.getD_eq_getElem?_getD, List.getElem?_eq_getElem (show k < H.at_.length by omega)]
  · have m : Mod [ga] w (w.setCell ⟨ga, k, none⟩ (.int .i64 u)) := (Mod.refl _ _).setCell _ _ (by simp)
    refine ⟨ba, ga, Fa, ?_, h2.keep m (fun b hb => by simp only [List.mem_singleton]; rintro rfl; exact h6 hb), ?_, h4, h5, h6, rfl, by simpa using h7, h8⟩
    · have := h1.keep m (by simp [h4])
      simpa using this
    · have := h3.set k (.int .i64 u)
      simpa [vi64, List.map_set] using this
set_option maxHeartbeats 1000000 in
theorem place_any {w : World} {bh : Nat} {H : Hp} {F : List Nat} (h : HAt w bh H F) (v : Int) : Calls Try.prog 134 #[.pointer (some ⟨bh, 0, none⟩), .int .i64 v] w fun e w' => e = .returned (.int .i64 (placeT H v)) ∧ w' = w := by
  have hr := Lib.hid (room_any h)
  obtain ⟨ga, c2, ca, cz, cl, cne, cF, cs⟩ := h.at
  have hroom := h.out.choose_spec.choose_spec.choose_spec.2.2.2.2.2.2.2.2
  clear h cs
  by_cases hv : v < 0
  · have e := Lib.hid (show placeT H v = -1 by unfold placeT; rw [if_neg (by omega)])
    go_enter Try.func134, Try.ntmps134
    go_wp2_with fail
    go_ret
    exact ⟨by rw [e.out]; rfl, rfl⟩
  · have hv0 : 0 ≤ v := by omega
    by_cases hv1 : v < H.room
    · have e := Lib.hid (show placeT H v = H.at_.getD v.toNat (-1) by unfold placeT; rw [if_pos ⟨hv0, hv1⟩])
      have hk := ca v.toNat (by omega)
      have hn : ¬ (H.room : Int) ≤ v := by omega
      clear ca
      go_enter Try.func134, Try.ntmps134
      go_wp2_with fail
      refine hr.out.mono ?_
      rintro e w1 ⟨rfl, rfl⟩
      try dsimp only
      generalize H.at_.getD v.toNat (-1) = u at *
      go_wp2_with fail
      go_ret
      exact ⟨by rw [e.out]; rfl, rfl⟩
    · have e := Lib.hid (show placeT H v = -1 by unfold placeT; rw [if_neg (by omega)])
      have hn : (H.room : Int) ≤ v := by omega
      go_enter Try.func134, Try.ntmps134
      go_wp2_with fail
      refine hr.out.mono ?_
      rintro e w1 ⟨rfl, rfl⟩
      try dsimp only
      go_wp2_with fail
      go_ret
      exact ⟨by rw [e.out]; rfl, rfl⟩
def keyT (H : Hp) (v : Int) : Option (Int × Bool) := if placeT H v = -1 then some (0, false) else (H.A.get (placeT H v)).map fun x => (x.key, true)
set_option maxHeartbeats 1000000 in
theorem key_any {w : World} {bh : Nat} {H : Hp} {F : List Nat} (h : HAt w bh H F) (v k : Int) (ok : Bool) (hT : keyT H v = some (k, ok)) : Calls Try.prog 81 #[.pointer (some ⟨bh, 0, none⟩), .int .i64 v] w fun e w' => e = .returned (.tuple #[.int .i64 k, .bool ok]) ∧ Mod [] w w' := by
  have hp := Lib.hid (place_any h v)
  unfold keyT at hT
  by_cases h0 : placeT H v = -1
  · rw [if_pos h0] at hT
    simp only [Option.some.injEq, Prod.mk.injEq] at hT
    obtain ⟨rfl, rfl⟩ := hT
    rw [h0] at hp
    clear h h0
    go_enter Try.func81, Try.ntmps81
    go_wp2_with fail
    refine hp.out.mono ?_
    rintro e w1 ⟨rfl, rfl⟩
    try dsimp only
    go_wp2_with fail
    go_ret2
    exact ⟨rfl, Mod.refl _ _⟩
  · rw [if_neg h0] at hT
    simp only [Option.map_eq_some_iff, Prod.mk.injEq] at hT
    obtain ⟨x, hx, rfl, rfl⟩ := hT
    have hg := Lib.hid (get_any h _ x hx)
    have h1 : (placeT H v == -1) = false := by simpa using h0
    clear h h0 hx
    generalize placeT H v = p at *
    go_enter Try.func81, Try.ntmps81
    go_wp2_with fail
    refine hp.out.mono ?_
    rintro e w1 ⟨rfl, rfl⟩
    try dsimp only
    go_wp2_with fail
    refine hg.out.mono ?_
    rintro e w2 ⟨rfl, hm⟩
    try dsimp only
    unfold Nd.val
    clear hg hp
    go_wp2_with fail
    go_ret2
    exact ⟨rfl, hm⟩
def topT (H : Hp) : Option (Int × Int × Bool) := if H.root = -1 then some (0, 0, false) else (H.A.get H.root).map fun x => (x.v, x.key, true)
set_option maxHeartbeats 1000000 in
theorem top_any {w : World} {bh : Nat} {H : Hp} {F : List Nat} (h : HAt w bh H F) (v k : Int) (ok : Bool) (hT : topT H = some (v, k, ok)) : Calls Try.prog 83 #[.pointer (some ⟨bh, 0, none⟩)] w fun e w' => e = .returned (.tuple #[.int .i64 v, .int .i64 k, .bool ok]) ∧ Mod [] w w' := by
  obtain ⟨ba, ga, c0, c1, c2, c3, c4, cz, cl, cF⟩ := h.head
  unfold topT at hT
  by_cases h0 : H.root = -1
  · rw [if_pos h0] at hT
    simp only [Option.some.injEq, Prod.mk.injEq] at hT
    obtain ⟨rfl, rfl, rfl⟩ := hT
    rw [h0] at c3
    clear h h0
    go_enter Try.func83, Try.ntmps83
    go_wp2_with fail
    exact bodyPost_ret (v := .tuple #[.int .i64 0, .int .i64 0, .bool false]) (by simp [results, Try.results83, go_sem]) rfl ⟨rfl, Mod.refl _ _⟩
  · rw [if_neg h0] at hT
    simp only [Option.map_eq_some_iff, Prod.mk.injEq] at hT
    obtain ⟨x, hx, rfl, rfl, rfl⟩ := hT
    have hg := Lib.hid (get_any h _ x hx)
    have h1 : (H.root == -1) = false := by simpa using h0
    clear h h0 hx
    generalize H.root = p at *
    go_enter Try.func83, Try.ntmps83
    go_wp2_with fail
    refine hg.out.mono ?_
    rintro e w2 ⟨rfl, hm⟩
    try dsimp only
    unfold Nd.val
    have hm' := Lib.hid hm
    clear hg hm
    go_wp2_with fail
    go_quiet (fail)
    go_wp2_with fail
    exact bodyPost_ret (v := .tuple #[.int .i64 x.v, .int .i64 x.key, .bool true]) (by simp [results, Try.results83, go_sem]) rfl ⟨rfl, (hm'.out.alloc _).drewN _⟩
end Hp
end Go.Proofs.Ytmkbinbggiocaaa
