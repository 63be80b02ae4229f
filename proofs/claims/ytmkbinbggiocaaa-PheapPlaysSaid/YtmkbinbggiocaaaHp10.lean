/- A pairing heap: Pop, New. -/
import Derived.Test.YtmkbinbggiocaaaHp9
import Derived.Test.YtmkbinbggiocaaaKit3
import Derived.Deep.RegionLaw
set_option linter.unusedVariables false
set_option linter.unusedSimpArgs false
namespace Go.Proofs.Ytmkbinbggiocaaa
open Go.RowKit Arena
namespace Hp
open Go.Proofs.Ytmkbinbggiocaaa.Code
def popT (fuel : Nat) (H : Hp) : Option (Hp × Int × Int × Bool) :=
  (topT H).bind fun t => if t.2.2 then (dropT fuel H t.1).map fun p => (p.1, t) else some (H, t)
theorem put_cut (H : Hp) {n : Int} {H' : Hp} (h : cutT H n = some H') : H'.room = H.room ∧ H'.at_ = H.at_ := ⟨(cut_same h).room, (cut_same h).at_⟩
theorem part_same {fuel : Nat} {H H1 : Hp} {n : Int} (h : partT fuel H n = some H1) : H1.room = H.room ∧ H1.at_ = H.at_ ∧ H.links ≤ H1.links ∧ H1.links ≤ H.links + (2 * fuel + 1 : Nat) := by
  unfold partT at h
  split at h
  · simp only [Option.bind_eq_some_iff, Option.map_eq_some_iff] at h
    obtain ⟨x, hx, ⟨H2, r⟩, hp, rfl⟩ := h
    have s := pair_same hp
    exact ⟨s.room, s.at_, s.lo, by have := s.hi; show H2.links ≤ _; omega⟩
  · simp only [Option.bind_eq_some_iff, Option.map_eq_some_iff] at h
    obtain ⟨H0, hc, x, hx, ⟨H2, r1⟩, hp, ⟨H3, r⟩, hl, rfl⟩ := h
    have s := ((cut_same hc).trans (pair_same hp)).trans (link_same hl)
    exact ⟨s.room, s.at_, s.lo, by have := s.hi; show H3.links ≤ _; omega⟩
set_option maxHeartbeats 2000000 in
theorem pop_any {w : World} {bh : Nat} {H H' : Hp} {F : List Nat} (fuel : Nat) (h : HAt w bh H F) (v k : Int) (ok : Bool) (hT : popT fuel H = some (H', v, k, ok)) (hl0 : 0 ≤ H.links) (hl1 : H.links + 2 * fuel < 2305843009213693952) (hfu : fuel ≤ 1048576) :
    Calls Try.prog 74 #[.pointer (some ⟨bh, 0, none⟩)] w fun e w' => e = .returned (.tuple #[.int .i64 v, .int .i64 k, .bool ok]) ∧ HAt w' bh H' F ∧ Mod F w w' := by
  unfold popT at hT
  simp only [Option.bind_eq_some_iff] at hT
  obtain ⟨⟨v1, k1, ok1⟩, ht, hT⟩ := hT
  have htop := Lib.hid (top_any h v1 k1 ok1 ht)
  cases ok1 with
  | false =>
    simp only [Bool.false_eq_true, if_false, Option.some.injEq, Prod.mk.injEq] at hT
    obtain ⟨rfl, rfl, rfl, rfl⟩ := hT
    have h' := Lib.hid h
    clear h ht
    go_enter Try.func74, Try.ntmps74
    go_wp2_with fail
    refine htop.out.mono ?_
    rintro e w1 ⟨rfl, hm⟩
    try dsimp only
    go_wp2_with fail
    exact bodyPost_ret (v := .tuple #[.int .i64 v1, .int .i64 k1, .bool false]) (by simp [results, Try.results74, go_sem]) rfl ⟨rfl, h'.out.still hm, hm.of0⟩
  | true =>
    simp only [if_true, Option.map_eq_some_iff, Prod.mk.injEq] at hT
    obtain ⟨⟨H2, ok2⟩, hd, rfl, rfl, rfl, rfl⟩ := hT
    have hdw := Lib.hid (fun w' (m : Mod [] w w') => drop_any fuel (h.still m) v1 ok2 hd hl0 hl1 hfu (fun H1 hp => ⟨(part_same hp).1, (part_same hp).2.1⟩))
    clear h ht hd
    go_enter Try.func74, Try.ntmps74
    go_wp2_with fail
    refine htop.out.mono ?_
    rintro e w1 ⟨rfl, hm⟩
    try dsimp only
    have hm' := Lib.hid hm
    clear hm htop
    go_wp2_with fail
    refine (hdw.out _ hm'.out).mono ?_
    rintro e w2 ⟨rfl, hH, hm2⟩
    try dsimp only
    have hfin := Lib.hid (show _ ∧ Mod F w w2 from ⟨hH, hm'.out.of0.trans hm2 (fun b hb _ => hb)⟩)
    clear hH hm2 hdw hm'
    go_wp2_with fail
    exact bodyPost_ret (v := .tuple #[.int .i64 v1, .int .i64 k1, .bool true]) (by simp [results, Try.results74, go_sem]) rfl ⟨rfl, hfin.out⟩
def newH (r : Nat) : Hp := ⟨r, -1, 0, List.replicate r (-1), ⟨r, [], []⟩⟩
theorem made_eq (z : Value) (m : Nat) : madeCells #[z] m = (List.replicate m z).toArray := by
  have hl : (madeCells #[z] m).toList = List.replicate m z := by
    apply List.ext_getElem
    · simp [madeCells]
    · intro i h1 h2; simp [madeCells, Nat.mod_one]
  rw [← hl]
theorem has_made (w : World) (m : Nat) : Has (w.alloc (.cells (madeCells #[.int .i64 0] m) 3)) w.heap.size (vi64 (List.replicate m 0)) 3 := by
  rw [made_eq]
  have := Has.new w (List.replicate m (Value.int .i64 0)) 3
  simpa [vi64] using this
theorem fill_set (r k : Nat) (h : k < r) : (List.replicate k (-1 : Int) ++ List.replicate (r - k) 0).set k (-1) = List.replicate (k + 1) (-1) ++ List.replicate (r - (k + 1)) 0 := by
  apply List.ext_getElem
  · simp; omega
  · intro i h1 h2
    rw [List.getElem_set]
    split
    · rename_i e
      subst e
      rw [List.getElem_append_left (by simp)]
      simp
    · rename_i e
      rcases Nat.lt_or_ge i k with hi | hi
      · rw [List.getElem_append_left (by simp; exact hi), List.getElem_append_left (by simp; omega)]
        simp
      · rw [List.getElem_append_right (by simp; omega), List.getElem_append_right (by simp; omega)]
        simp
def fillR (r k : Nat) : List Int := List.replicate k (-1) ++ List.replicate (r - k) 0
structure Mk (w wr : World) (bh r : Nat) (rows : List Int) : Prop where
  ex : ∃ F, HAt wr bh ⟨r, -1, 0, rows, ⟨r, [], []⟩⟩ F ∧ Mod [] w wr ∧ ∀ b ∈ F, w.heap.size ≤ b
theorem heap_of {w : World} {ba ga bh r : Nat} {rows : List Int} (hA : ArN.At w ba ⟨r, [], []⟩ [ba]) (hG : Has w ga (vi64 rows) 3) (hB : Has w bh [.int .i64 (r : Int), .pointer (some ⟨ba, 0, none⟩), .slice (some ⟨ga, 0, none⟩) r r, .int .i64 (-1), .int .i64 0] 189) (n1 : bh ≠ ga) (n2 : bh ≠ ba) (n3 : ga ≠ ba) (hl : rows.length = r) (hr : r ≤ 4096) :
    HAt w bh ⟨r, -1, 0, rows, ⟨r, [], []⟩⟩ [bh, ga, ba] :=
  ⟨ba, ga, [ba], by rw [show (⟨r, -1, 0, rows, ⟨r, [], []⟩⟩ : Hp).at_.length = r from hl]; exact hB, hA, hG, n1, by simpa using n2, by simpa using n3, rfl, hl, hr⟩
set_option maxRecDepth 100000 in
set_option maxHeartbeats 2000000 in
theorem new_any (n : Int) (w : World) : Calls Try.prog 71 #[.int .i64 n] w fun e w' => ∃ bh F, e = .returned (.pointer (some ⟨bh, 0, none⟩)) ∧ HAt w' bh (newH (min (max n 0) 4096).toNat) F ∧ Mod [] w w' ∧ ∀ b ∈ F, w.heap.size ≤ b := by
  obtain ⟨r, hr, hr2, hr3⟩ : ∃ r : Nat, (if 4096 < (if n < 0 then 0 else n) then 4096 else if n < 0 then 0 else n) = (r : Int) ∧ r ≤ 4096 ∧ (min (max n 0) 4096).toNat = r :=
    ⟨(if 4096 < (if n < 0 then 0 else n) then 4096 else if n < 0 then 0 else n).toNat, by split <;> split <;> omega, by split <;> split <;> omega, by split <;> split <;> omega⟩
  rw [hr3]
  have hroom : ArN.roomOf (r : Int) = r := by unfold ArN.roomOf; omega
  have hmk := make_run (P := Try.prog) 36 3 (.int .i64 0) 8 Try.underlying36 infoInt rfl (by omega) r (by omega)
  have hr' := Lib.hid hr
  have hroom' := Lib.hid hroom
  clear hr3 hr hroom
  go_enter Try.func71, Try.ntmps71
  go_upto_region 2 with fail
  rw [hr'.out]
  clear hr'
  generalize (if n < 0 then (0 : Int) else n) = n0
  go_region_law (first
    | (rw [if_pos (by rfl)]; go_simp; go_at_call 131; refine (ArN.new_at _ _).mono ?_; rintro e wA ⟨rfl, hA, hmA⟩; rw [hroom'.out] at hA; have hA' := Lib.hid hA; have hmA' := Lib.hid hmA; clear hA hmA; dsimp only))
  case' refine_3.refine_3.refine_3.refine_1.refine_1.refine_3.refine_1.refine_3 =>
    have hdr : w.drew.heap.size = w.heap.size := rfl
    have hw0 : Mod [] w wA := (Mod.refl [] w).drew.trans hmA'.out (by simp)
    have hlt : w.heap.size < wA.heap.size := hA'.out.lt _ (by simp)
    have hG := (has_made wA r).alloc (.cells #[.int .i64 (r : Int), .pointer (some ⟨w.heap.size, 0, none⟩), .slice (some ⟨wA.heap.size, 0, none⟩) r r, .int .i64 (-1), .int .i64 0] 189)
    have hB := Has.new (wA.alloc (.cells (madeCells #[.int .i64 0] r) 3)) [.int .i64 (r : Int), .pointer (some ⟨w.heap.size, 0, none⟩), .slice (some ⟨wA.heap.size, 0, none⟩) r r, .int .i64 (-1), .int .i64 0] 189
    rw [World.size_alloc] at hB
    have hAA := (hA'.out.still ((Mod.refl [] wA).alloc (.cells (madeCells #[.int .i64 0] r) 3))).still ((Mod.refl [] _).alloc (.cells #[.int .i64 (r : Int), .pointer (some ⟨w.heap.size, 0, none⟩), .slice (some ⟨wA.heap.size, 0, none⟩) r r, .int .i64 (-1), .int .i64 0] 189))
    have hMk := Lib.hid (show Mk w _ (wA.heap.size + 1) r (List.replicate r 0) from ⟨⟨_, heap_of hAA hG hB (by omega) (by omega) (by omega) (by simp) hr2, (hw0.alloc _).alloc _, fun b hb => by
      simp only [List.mem_cons, List.mem_nil_iff, or_false] at hb
      omega⟩⟩)
    clear hG hB hAA hA' hmA'
    go_upto_region 3 with fail
    generalize (wA.alloc (.cells (madeCells #[.int .i64 0] r) 3)).alloc (.cells #[.int .i64 (r : Int), .pointer (some ⟨w.heap.size, 0, none⟩), .slice (some ⟨wA.heap.size, 0, none⟩) r r, .int .i64 (-1), .int .i64 0] 189) = wE at *
    generalize wA.heap.size + 1 = bh at *
    clear hlt hw0 hdr
  case' refine_3.refine_3.refine_3.refine_2.refine_1.refine_1.refine_3.refine_1.refine_3 =>
    have hdr : (w.alloc (.cells (madeCells #[.int .i64 0] r) 3)).drew.heap.size = w.heap.size + 1 := by
      show (w.alloc (.cells (madeCells #[.int .i64 0] r) 3)).heap.size = _
      rw [World.size_alloc]
    have hw0 : Mod [] w wA := ((Mod.refl [] w).alloc _).drew.trans hmA'.out (by simp)
    have hlt := hA'.out.lt _ (List.mem_singleton.2 rfl)
    rw [hdr] at hlt
    have hAx := hA'.out
    rw [hdr] at hAx
    have hG := ((has_made w r).drew.keep hmA'.out (by simp)).alloc (.cells #[.int .i64 (r : Int), .pointer (some ⟨w.heap.size + 1, 0, none⟩), .slice (some ⟨w.heap.size, 0, none⟩) r r, .int .i64 (-1), .int .i64 0] 189)
    have hB := Has.new wA [.int .i64 (r : Int), .pointer (some ⟨w.heap.size + 1, 0, none⟩), .slice (some ⟨w.heap.size, 0, none⟩) r r, .int .i64 (-1), .int .i64 0] 189
    have hAA := hAx.still ((Mod.refl [] wA).alloc (.cells #[.int .i64 (r : Int), .pointer (some ⟨w.heap.size + 1, 0, none⟩), .slice (some ⟨w.heap.size, 0, none⟩) r r, .int .i64 (-1), .int .i64 0] 189))
    have hMk := Lib.hid (show Mk w _ wA.heap.size r (List.replicate r 0) from ⟨⟨_, heap_of hAA hG hB (by omega) (by omega) (by omega) (by simp) hr2, hw0.alloc _, fun b hb => by
      simp only [List.mem_cons, List.mem_nil_iff, or_false] at hb
      omega⟩⟩)
    clear hA' hmA' hAx hG hB hAA
    go_upto_region 3 with fail
    generalize wA.alloc (.cells #[.int .i64 (r : Int), .pointer (some ⟨w.heap.size + 1, 0, none⟩), .slice (some ⟨w.heap.size, 0, none⟩) r r, .int .i64 (-1), .int .i64 0] 189) = wE at *
    generalize wA.heap.size = bh at *
    clear hlt hw0 hdr
  all_goals
    obtain ⟨F, hH, hmF, hnF⟩ := hMk.out.ex
    obtain ⟨ga, d2, da, dz, dl, dne, dF, ds⟩ := hH.at
    replace d2 : wE.cell? ⟨bh, 2, none⟩ = some (.slice (some ⟨ga, 0, none⟩) r r) := d2
    have hbl := hH.head.choose_spec.choose_spec.2.2.2.2.2.2.1
    clear da dz ds hH hmF hnF dF hmk hroom'
    go_wp2_with fail
    clear d2 dl dne hbl
    go_loopw [4, 20] (fun _ iv wr => ∃ k : Nat, k ≤ r ∧ iv = .int .i64 k ∧ Hid (Mk w wr bh r (fillR r k))) (fun _ iv _ => r - (intOf iv).toNat)
    case atStart => exact ⟨0, Nat.zero_le _, rfl, Lib.hid (by simpa [fillR] using hMk.out)⟩
    case round =>
      clear hMk
      obtain ⟨k, hk, rfl, hM⟩ := hrel
      by_cases hlt : k < r
      · have hlt1 : (k : Int) < r := by omega
        obtain ⟨F, hH, hmF, hnF⟩ := hM.out.ex
        obtain ⟨ga, d2, da, dz, dl, dne, dF, ds⟩ := hH.at
        have hbl := hH.head.choose_spec.choose_spec.2.2.2.2.2.2.1
        replace d2 : wr.cell? ⟨bh, 2, none⟩ = some (.slice (some ⟨ga, 0, none⟩) r r) := d2
        obtain ⟨au, da0⟩ : ∃ au, wr.cell? ⟨ga, k, none⟩ = some (.int .i64 au) := ⟨_, da k hlt⟩
        have hs := ds k (-1)
        have hM2 := Lib.hid (show Mk w (wr.setCell ⟨ga, k, none⟩ (.int .i64 (-1))) bh r (fillR r (k + 1)) from by
          unfold fillR
          rw [← fill_set r k hlt]
          exact ⟨F, hs, hmF.setCell _ _ (fun hl => absurd (hnF _ dF) (by simp only at hl; omega)), hnF⟩)
        clear hM hH hmF hnF da ds hs dF
        go_wp2_with fail
        go_roundw
        case rel => exact ⟨k + 1, by omega, by go_num, hM2⟩
        case measure => simp [intOf]; omega
      · have hkr : k = r := by omega
        subst hkr
        obtain ⟨F, hH, hmF, hnF⟩ := hM.out.ex
        have hfin := Lib.hid (show ∃ F, HAt wr bh (newH k) F ∧ Mod [] w wr ∧ ∀ b ∈ F, w.heap.size ≤ b from ⟨F, by simpa [newH, fillR] using hH, hmF, hnF⟩)
        clear hM hH hmF hnF
        go_wp2_with fail
        go_ret
        obtain ⟨F, f1, f2, f3⟩ := hfin.out
        exact ⟨bh, F, rfl, f1, f2, f3⟩
end Hp
end Go.Proofs.Ytmkbinbggiocaaa
