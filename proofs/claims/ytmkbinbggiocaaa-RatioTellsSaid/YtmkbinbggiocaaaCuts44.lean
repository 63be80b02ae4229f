/- Slices of cuts; the thinnest of them. -/
import Derived.Test.YtmkbinbggiocaaaCmpRef
import Derived.Test.YtmkbinbggiocaaaFlat
set_option linter.unusedVariables false
set_option linter.unusedSimpArgs false
namespace Go.Proofs.Ytmkbinbggiocaaa
open Go.RowKit
namespace Ratio
open Go.Proofs.Ytmkbinbggiocaaa.Code
abbrev CutV := Int × Value × List Int
def encCut (c : CutV) : List Value := [.int .i64 c.1, c.2.1]
theorem encCut_len (c : CutV) : (encCut c).length = 2 := rfl
structure Cuts (w : World) (v : Value) (l : List CutV) : Prop where
  rd : Rd w 2 v l.length (flat encCut l)
  side : ∀ c ∈ l, Rd w 1 c.2.1 c.2.2.length (vi64 c.2.2)
  bd : ∀ c ∈ l, c.1 ≤ 9223372036854775807
theorem Cuts.still {w w' : World} {v : Value} {l : List CutV} (h : Cuts w v l) (m : Mod [] w w') : Cuts w' v l := ⟨h.rd.still m, fun c hc => (h.side c hc).still m, h.bd⟩
def cW (l : List CutV) (k : Nat) : Int := (l.getD k (0, .slice none 0 0, [])).1
def cV (l : List CutV) (k : Nat) : Value := (l.getD k (0, .slice none 0 0, [])).2.1
def cS (l : List CutV) (k : Nat) : List Int := (l.getD k (0, .slice none 0 0, [])).2.2
theorem Cuts.get {w : World} {a : Option Addr} {c k : Nat} {l : List CutV} (h : Cuts w (.slice a l.length c) l) (hk : k < l.length) :
    Rd w 1 (cV l k) (cS l k).length (vi64 (cS l k)) ∧ cW l k ≤ 9223372036854775807 := by
  have hm : l.getD k (0, .slice none 0 0, []) ∈ l := by rw [List.getD_eq_getElem?_getD, List.getElem?_eq_getElem hk]; exact List.getElem_mem _
  exact ⟨h.side _ hm, h.bd _ hm⟩
theorem Cuts.cells {w : World} {a : Option Addr} {c k : Nat} {l : List CutV} (h : Cuts w (.slice a l.length c) l) (hk : k < l.length) :
    ∃ g o, a = some ⟨g, o, none⟩ ∧ g < w.heap.size := by
  have hlen := flat_length encCut_len l
  obtain ⟨g, o, rfl, _, _, hc⟩ := h.rd.at (by rw [hlen]; omega)
  obtain ⟨u, hu⟩ : ∃ u, (flat encCut l)[0]? = some u := ⟨_, List.getElem?_eq_getElem (by rw [hlen]; omega)⟩
  exact ⟨g, o, rfl, World.block_lt_of_cell? w _ (hc 0 u hu)⟩
theorem Cuts.cell {w : World} {g o c k : Nat} {l : List CutV} (h : Cuts w (.slice (some ⟨g, o, none⟩) l.length c) l) (hk : k < l.length) :
    w.cell? ⟨g, o + k * 2, none⟩ = some (.int .i64 (cW l k)) ∧ w.cell? ⟨g, o + k * 2 + 1, none⟩ = some (cV l k) := by
  have k0 := flat_get encCut_len l k 0 hk (by omega)
  have k1 := flat_get encCut_len l k 1 hk (by omega)
  have e : l.getD k (0, .slice none 0 0, []) = l[k] := by rw [List.getD_eq_getElem?_getD, List.getElem?_eq_getElem hk]; rfl
  unfold cW cV
  rw [e]
  exact ⟨by have := h.rd.cellAt (k * 2 + 0) (u := .int .i64 l[k].1) (by rw [k0]; rfl); simpa using this, by have := h.rd.cellAt (k * 2 + 1) (u := l[k].2.1) (by rw [k1]; rfl); simpa [Nat.add_assoc] using this⟩
def cmpAt (n : Int) (l : List CutV) (i j : Nat) : Int := cmpP n (cW l i) (cS l i) (cW l j) (cS l j)
/-- The thinnest of the first k. -/
def bestN (n : Int) (l : List CutV) : Nat → Nat
  | 0 => 0
  | k + 1 => if cmpAt n l k (bestN n l k) < 0 then k else bestN n l k
def bestI (n : Int) (l : List CutV) (k : Nat) : Int := if k = 0 then -1 else bestN n l k
theorem bestN_lt (n : Int) (l : List CutV) : ∀ k, bestN n l (k + 1) ≤ k
  | 0 => by unfold bestN; split <;> simp [bestN]
  | k + 1 => by
    have := bestN_lt n l k
    rw [bestN]
    split <;> omega
theorem bestI_succ (n : Int) (l : List CutV) (k : Nat) (h : k ≠ 0) : bestI n l (k + 1) = if cmpAt n l k (bestN n l k) < 0 then (k : Int) else bestN n l k := by
  unfold bestI
  rw [if_neg (by omega), bestN]
  split <;> rfl
theorem bestI_one (n : Int) (l : List CutV) : bestI n l 1 = 0 := by
  unfold bestI
  rw [if_neg (by omega)]
  have : bestN n l 1 ≤ 0 := bestN_lt n l 0
  omega
set_option maxHeartbeats 4000000 in
theorem thin_prog {w : World} {v : Value} {n : Int} {l : List CutV} (h : Cuts w v l) :
    Calls Try.prog 68 #[.int .i64 n, v] w fun e w' => e = .returned (.int .i64 (bestI n l l.length)) ∧ Mod [] w w' := by
  obtain ⟨a1, c1, rfl⟩ := h.rd.val
  have hm1 := h.rd.le
  have h' := Lib.hid h
  clear h
  go_enter Try.func68, Try.ntmps68
  go_wp2_with fail
  go_loopw [5, 10] (fun b i wr => ∃ k : Nat, k ≤ l.length ∧ b = .int .i64 (bestI n l k) ∧ i = .int .i64 k ∧ Hid (Mod [] w wr)) (fun _ i _ => l.length - (intOf i).toNat)
  case atStart => exact ⟨0, Nat.zero_le _, rfl, rfl, Lib.hid (Mod.refl _ _)⟩
  case round =>
    obtain ⟨k, hk, rfl, rfl, hm⟩ := hrel
    by_cases hlt : k < l.length
    · have hlt1 : (k : Int) < l.length := by omega
      have hat := h'.out.still hm.out
      obtain ⟨g, o, rfl, hg⟩ := hat.cells hlt
      obtain ⟨q0, q1⟩ := hat.cell hlt
      obtain ⟨hs, hW⟩ := hat.get hlt
      obtain ⟨ak, ck, hv⟩ := hs.val
      rw [hv] at q1
      have hat' := Lib.hid hat
      have hs' := Lib.hid hs
      have hv' := Lib.hid hv
      clear hat hs hv
      have hone := Lib.hid (bestI_one n l)
      have hsuc := Lib.hid (bestI_succ n l k)
      go_upto_region 5 with fail
      obtain ⟨wc, hwc⟩ : ∃ wc, wc = wr.alloc (.cells #[.int .i64 (cW l k), .slice ak (cS l k).length ck] 95) := ⟨_, rfl⟩
      have hb : Has wc wr.heap.size [.int .i64 (cW l k), .slice ak (cS l k).length ck] 95 := by rw [hwc]; exact Has.new wr _ _
      have mc : Mod [] wr wc := by rw [hwc]; exact (Mod.refl [] wr).alloc _
      rw [← hwc]
      have mw := Lib.hid (hm.out.trans mc (by simp))
      have mc' := Lib.hid mc
      clear hwc hm
      by_cases h0 : k = 0
      · subst h0
        have e : bestI n l 0 = -1 := rfl
        rw [e]
        clear e hsuc hb mc mc' q0 q1 hs' hat' hv'
        go_quiet (fail)
        go_wp2_with fail
        go_roundw
        case rel => exact ⟨1, by omega, by rw [hone.out]; rfl, by simp, Lib.hid (mw.out.drewN _)⟩
        case measure => simp [intOf]; omega
      · have e : bestI n l k = (bestN n l k : Nat) := by unfold bestI; rw [if_neg h0]
        have hjk : bestN n l k < k := by
          obtain ⟨k', rfl⟩ : ∃ k', k = k' + 1 := ⟨k - 1, by omega⟩
          have := bestN_lt n l k'
          omega
        have hs2 := Lib.hid (hsuc.out h0)
        rw [e]
        generalize bestN n l k = j at *
        have hjl : j < l.length := by omega
        have hjl1 : (j : Int) < l.length := by omega
        have hj0 : decide ((j : Int) < 0) = false := by simp
        obtain ⟨hsj, hWj⟩ := hat'.out.get hjl
        obtain ⟨aj, cj, hvj⟩ := hsj.val
        have f10 : ∀ m : Fut (Mod []) wc.drew, m.v.cell? ⟨wr.heap.size, 0, none⟩ = some (.int .i64 (cW l k)) := fun m => (hb.drew.keep m.of (by simp)).cell 0 rfl
        have f11 : ∀ m : Fut (Mod []) wc.drew, m.v.cell? ⟨wr.heap.size, 1, none⟩ = some (.slice ak (cS l k).length ck) := fun m => (hb.drew.keep m.of (by simp)).cell 1 rfl
        have f20 : ∀ m : Fut (Mod []) wc.drew, m.v.cell? ⟨g, o + j * 2, none⟩ = some (.int .i64 (cW l j)) := fun m => ((hat'.out.still (mc'.out.drew.trans m.of (by simp))).cell hjl).1
        have f21 : ∀ m : Fut (Mod []) wc.drew, m.v.cell? ⟨g, o + j * 2 + 1, none⟩ = some (.slice aj (cS l j).length cj) := fun m => by rw [← hvj]; exact ((hat'.out.still (mc'.out.drew.trans m.of (by simp))).cell hjl).2
        have hc := Lib.hid (cmp_any (n := n) (W1 := cW l k) (W2 := cW l j) (l1 := cS l k) (l2 := cS l j) (hs'.out.still mc'.out.drew) (hsj.still mc'.out.drew) hW hWj)
        rw [hv'.out, hvj] at hc
        clear hb mc mc' q0 q1 hs' hat' hv' e hone hsuc hjk hsj hvj
        refine region_sched (G := Mod []) [([0,1,2,3,4,5,6,7,8],9)] [10,11] (by kernel_rfl) (by kernel_rfl) (by kernel_rfl) rfl (Mod.refl _) (fun _ _ _ h1 h2 => h1.trans h2 (by simp)) ?_
        simp only [stages, pickO, nthO, headO, List.cons_append, List.nil_append]
        refine sched_step ?_
        repeat (go_big_quiet_step (fail))
        refine wpQuiet_nil ?_
        intro K hK
        rw [if_pos (by rfl)]
        go_simp
        refine hc.out.mono ?_
        rintro e w3 ⟨rfl, hm3⟩
        try dsimp only
        refine hK.out _ _ hm3 ?_
        have hm4 := Lib.hid (show Mod [] w w3 from mw.out.drew.trans hm3 (by simp))
        clear hK K hm3 f10 f11 f20 f21 hc mw
        refine sched_last ?_
        repeat (go_big_quiet_step (fail))
        refine wpQuiet_nil ?_
        have hcd : cmpP n (cW l k) (cS l k) (cW l j) (cS l j) = cmpAt n l k j := rfl
        rw [hcd]
        clear hcd
        by_cases hlt2 : cmpAt n l k j < 0
        · have hs3 := Lib.hid (show bestI n l (k + 1) = k by rw [hs2.out, if_pos hlt2])
          generalize cmpAt n l k j = cc at *
          go_wp2_with fail
          go_roundw
          case rel => exact ⟨k + 1, by omega, by rw [hs3.out], by go_num, hm4⟩
          case measure => simp [intOf]; omega
        · have hs3 := Lib.hid (show bestI n l (k + 1) = j by rw [hs2.out, if_neg hlt2])
          generalize cmpAt n l k j = cc at *
          go_wp2_with fail
          go_roundw
          case rel => exact ⟨k + 1, by omega, by rw [hs3.out], by go_num, hm4⟩
          case measure => simp [intOf]; omega
    · have hk' : k = l.length := by omega
      subst hk'
      go_wp2_with fail
      go_ret
      exact ⟨rfl, hm.out⟩
set_option maxHeartbeats 4000000 in
theorem thin_ref {w : World} {v : Value} {n : Int} {l : List CutV} (h : Cuts w v l) :
    Calls Try.prog 69 #[.int .i64 n, v] w fun e w' => e = .returned (.int .i64 (bestI n l l.length)) ∧ Mod [] w w' := by
  obtain ⟨a1, c1, rfl⟩ := h.rd.val
  have hm1 := h.rd.le
  have h' := Lib.hid h
  clear h
  go_enter Try.func69, Try.ntmps69
  go_wp2_with fail
  go_loopw [5, 6] (fun b i wr => ∃ k : Nat, k ≤ l.length ∧ b = .int .i64 (bestI n l k) ∧ i = .int .i64 k ∧ Hid (Mod [] w wr)) (fun _ i _ => l.length - (intOf i).toNat)
  case atStart => exact ⟨0, Nat.zero_le _, rfl, rfl, Lib.hid (Mod.refl _ _)⟩
  case round =>
    obtain ⟨k, hk, rfl, rfl, hm⟩ := hrel
    by_cases hlt : k < l.length
    · have hlt1 : (k : Int) < l.length := by omega
      have hat := h'.out.still hm.out
      obtain ⟨g, o, rfl, hg⟩ := hat.cells hlt
      obtain ⟨hs, hW⟩ := hat.get hlt
      obtain ⟨ak, ck, hv⟩ := hs.val
      have hat' := Lib.hid hat
      have hs' := Lib.hid hs
      have hv' := Lib.hid hv
      clear hat hs hv
      have hone := Lib.hid (bestI_one n l)
      have hsuc := Lib.hid (bestI_succ n l k)
      by_cases h0 : k = 0
      · subst h0
        have e : bestI n l 0 = -1 := rfl
        rw [e]
        clear e hsuc hs' hat' hv'
        go_upto_region 5 with fail
        go_quiet (fail)
        go_wp2_with fail
        go_roundw
        case rel => exact ⟨1, by omega, by rw [hone.out]; rfl, by simp, Lib.hid (hm.out.drewN _)⟩
        case measure => simp [intOf]; omega
      · have e : bestI n l k = (bestN n l k : Nat) := by unfold bestI; rw [if_neg h0]
        have hjk : bestN n l k < k := by
          obtain ⟨k', rfl⟩ : ∃ k', k = k' + 1 := ⟨k - 1, by omega⟩
          have := bestN_lt n l k'
          omega
        have hs2 := Lib.hid (hsuc.out h0)
        rw [e]
        generalize bestN n l k = j at *
        have hjl : j < l.length := by omega
        have hjl1 : (j : Int) < l.length := by omega
        have hj0 : decide ((j : Int) < 0) = false := by simp
        obtain ⟨hsj, hWj⟩ := hat'.out.get hjl
        obtain ⟨aj, cj, hvj⟩ := hsj.val
        have f10 : ∀ m : Fut (Mod []) wr.drew, m.v.cell? ⟨g, o + k * 2, none⟩ = some (.int .i64 (cW l k)) := fun m => ((hat'.out.still ((Mod.refl [] wr).drew.trans m.of (by simp))).cell hlt).1
        have f11 : ∀ m : Fut (Mod []) wr.drew, m.v.cell? ⟨g, o + k * 2 + 1, none⟩ = some (.slice ak (cS l k).length ck) := fun m => by rw [← hv'.out]; exact ((hat'.out.still ((Mod.refl [] wr).drew.trans m.of (by simp))).cell hlt).2
        have f20 : ∀ m : Fut (Mod []) wr.drew, m.v.cell? ⟨g, o + j * 2, none⟩ = some (.int .i64 (cW l j)) := fun m => ((hat'.out.still ((Mod.refl [] wr).drew.trans m.of (by simp))).cell hjl).1
        have f21 : ∀ m : Fut (Mod []) wr.drew, m.v.cell? ⟨g, o + j * 2 + 1, none⟩ = some (.slice aj (cS l j).length cj) := fun m => by rw [← hvj]; exact ((hat'.out.still ((Mod.refl [] wr).drew.trans m.of (by simp))).cell hjl).2
        have hc := Lib.hid (cmp_ref (n := n) (W1 := cW l k) (W2 := cW l j) (l1 := cS l k) (l2 := cS l j) (hs'.out.still (Mod.refl [] wr).drew) (hsj.still (Mod.refl [] wr).drew) hW hWj)
        rw [hv'.out, hvj] at hc
        clear hs' hat' hv' e hone hsuc hjk hsj hvj
        go_upto_region 5 with fail
        refine region_sched (G := Mod []) [([0,1,2,3,4,5,6,7,8,9,10,11],12)] [13,14] (by kernel_rfl) (by kernel_rfl) (by kernel_rfl) rfl (Mod.refl _) (fun _ _ _ h1 h2 => h1.trans h2 (by simp)) ?_
        simp only [stages, pickO, nthO, headO, List.cons_append, List.nil_append]
        refine sched_step ?_
        repeat (go_big_quiet_step (fail))
        refine wpQuiet_nil ?_
        intro K hK
        rw [if_pos (by rfl)]
        go_simp
        refine hc.out.mono ?_
        rintro e w3 ⟨rfl, hm3⟩
        try dsimp only
        refine hK.out _ _ hm3 ?_
        have hm4 := Lib.hid (show Mod [] w w3 from hm.out.drew.trans hm3 (by simp))
        clear hK K hm3 f10 f11 f20 f21 hc hm
        refine sched_last ?_
        repeat (go_big_quiet_step (fail))
        refine wpQuiet_nil ?_
        have hcd : cmpP n (cW l k) (cS l k) (cW l j) (cS l j) = cmpAt n l k j := rfl
        rw [hcd]
        clear hcd
        by_cases hlt2 : cmpAt n l k j < 0
        · have hs3 := Lib.hid (show bestI n l (k + 1) = k by rw [hs2.out, if_pos hlt2])
          generalize cmpAt n l k j = cc at *
          go_wp2_with fail
          go_roundw
          case rel => exact ⟨k + 1, by omega, by rw [hs3.out], by go_num, hm4⟩
          case measure => simp [intOf]; omega
        · have hs3 := Lib.hid (show bestI n l (k + 1) = j by rw [hs2.out, if_neg hlt2])
          generalize cmpAt n l k j = cc at *
          go_wp2_with fail
          go_roundw
          case rel => exact ⟨k + 1, by omega, by rw [hs3.out], by go_num, hm4⟩
          case measure => simp [intOf]; omega
    · have hk' : k = l.length := by omega
      subst hk'
      go_wp2_with fail
      go_ret
      exact ⟨rfl, hm.out⟩
end Ratio
end Go.Proofs.Ytmkbinbggiocaaa
