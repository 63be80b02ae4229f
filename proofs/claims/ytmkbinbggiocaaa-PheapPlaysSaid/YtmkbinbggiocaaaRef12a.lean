/- The reference's heap: Has, Push, Raise, Drop. -/
import Derived.Test.YtmkbinbggiocaaaHp11
import Derived.Test.YtmkbinbggiocaaaForest
set_option linter.unusedVariables false
set_option linter.unusedSimpArgs false
namespace Go.Proofs.Ytmkbinbggiocaaa
open Go.RowKit Arena
namespace Ref12
open Go.Proofs.Ytmkbinbggiocaaa.Code
open Go.Proofs.Ytmkbinbggiocaaa.Hp
def pushI (I : List Bool) (v : Int) : List Bool := if pushR I v then I.set v.toNat true else I
def pushX (I : List Bool) (X : List Int) (v key : Int) : List Int := if pushR I v then X.set v.toNat key else X
def raiseX (I : List Bool) (X : List Int) (v key : Int) : List Int := if raiseR I X v key then X.set v.toNat key else X
def dropI (I : List Bool) (v : Int) : List Bool := if inR I v then I.set v.toNat false else I
def dropX (I : List Bool) (X : List Int) (v : Int) : List Int := if inR I v then X.set v.toNat 0 else X
def vbools (l : List Bool) : List Value := l.map fun x => .bool x
/-- The pointer to block bx is the reference's heap of the vertices of I with the keys of X. -/
structure XAt (w : World) (bx : Nat) (I : List Bool) (X : List Int) (F : List Nat) : Prop where
  mk ::
  out : ∃ gi gk : Nat, Has w bx [.slice (some ⟨gi, 0, none⟩) I.length I.length, .slice (some ⟨gk, 0, none⟩) X.length X.length] 115 ∧
    Has w gi (vbools I) 4 ∧ Has w gk (vi64 X) 2 ∧ bx ≠ gi ∧ bx ≠ gk ∧ gi ≠ gk ∧ F = [bx, gi, gk] ∧ X.length = I.length ∧ I.length ≤ 4096
theorem XAt.lt {w : World} {bx : Nat} {I : List Bool} {X : List Int} {F : List Nat} (h : XAt w bx I X F) : ∀ b ∈ F, b < w.heap.size := by
  obtain ⟨gi, gk, h1, h2, h3, _, _, _, rfl, _⟩ := h.out
  intro b hb
  simp only [List.mem_cons, List.mem_nil_iff, or_false] at hb
  rcases hb with rfl | rfl | rfl
  · exact h1.lt
  · exact h2.lt
  · exact h3.lt
theorem XAt.keep {w w' : World} {bx : Nat} {I : List Bool} {X : List Int} {F F0 : List Nat} (h : XAt w bx I X F) (m : Mod F0 w w') (hd : ∀ b ∈ F, b ∉ F0) : XAt w' bx I X F := by
  obtain ⟨gi, gk, h1, h2, h3, h4, h5, h6, rfl, h7, h8⟩ := h.out
  exact ⟨gi, gk, h1.keep m (hd _ (by simp)), h2.keep m (hd _ (by simp)), h3.keep m (hd _ (by simp)), h4, h5, h6, rfl, h7, h8⟩
theorem XAt.still {w w' : World} {bx : Nat} {I : List Bool} {X : List Int} {F : List Nat} (h : XAt w bx I X F) (m : Mod [] w w') : XAt w' bx I X F := h.keep m (by simp)
theorem vbools_len (l : List Bool) : (vbools l).length = l.length := by simp [vbools]
/-- What the walk reads. -/
structure Cells (w : World) (bx gi gk n : Nat) (I : List Bool) (X : List Int) : Prop where
  c0 : w.cell? ⟨bx, 0, none⟩ = some (.slice (some ⟨gi, 0, none⟩) n n)
  c1 : w.cell? ⟨bx, 1, none⟩ = some (.slice (some ⟨gk, 0, none⟩) n n)
  ci : ∀ k, k < n → w.cell? ⟨gi, k, none⟩ = some (.bool (I.getD k false))
  ck : ∀ k, k < n → w.cell? ⟨gk, k, none⟩ = some (.int .i64 (X.getD k 0))
  zi : ∀ i, w.frozen? ⟨gi, i, none⟩ = false
  zk : ∀ i, w.frozen? ⟨gk, i, none⟩ = false
  bl : bx < w.heap.size
  il : gi < w.heap.size
  kl : gk < w.heap.size
  n1 : bx ≠ gi
  n2 : bx ≠ gk
  n3 : gi ≠ gk
theorem XAt.cells {w : World} {bx : Nat} {I : List Bool} {X : List Int} {F : List Nat} (h : XAt w bx I X F) : ∃ gi gk, Cells w bx gi gk I.length I X ∧ F = [bx, gi, gk] ∧ I.length ≤ 4096 := by
  obtain ⟨gi, gk, h1, h2, h3, h4, h5, h6, rfl, h7, h8⟩ := h.out
  refine ⟨gi, gk, ⟨h1.cell 0 rfl, by have := h1.cell 1 rfl; rwa [h7] at this, fun k hk => h2.cell k ?_, fun k hk => h3.cell k ?_, h2.free, h3.free, h1.lt, h2.lt, h3.lt, h4, h5, h6⟩, rfl, h8⟩
  · simp [vbools, List.getElem?_eq_getElem hk, List.getD_eq_getElem?_getD]
  · simp [vi64, List.getElem?_eq_getElem (show k < X.length by omega), List.getD_eq_getElem?_getD]
/-- A place is set in both rows. -/
theorem XAt.set2 {w : World} {bx : Nat} {I : List Bool} {X : List Int} {F : List Nat} (h : XAt w bx I X F) {gi gk : Nat} (hF : F = [bx, gi, gk]) (k : Nat) (b : Bool) (u : Int) :
    XAt ((w.setCell ⟨gi, k, none⟩ (.bool b)).setCell ⟨gk, k, none⟩ (.int .i64 u)) bx (I.set k b) (X.set k u) F := by
  obtain ⟨gi', gk', h1, h2, h3, h4, h5, h6, hF', h7, h8⟩ := h.out
  rw [hF] at hF'
  simp only [List.cons.injEq, and_true, true_and] at hF'
  obtain ⟨rfl, rfl⟩ := hF'
  have m1 : Mod [gi] w (w.setCell ⟨gi, k, none⟩ (.bool b)) := (Mod.refl _ _).setCell _ _ (by simp)
  have m2 : Mod [gk] (w.setCell ⟨gi, k, none⟩ (.bool b)) ((w.setCell ⟨gi, k, none⟩ (.bool b)).setCell ⟨gk, k, none⟩ (.int .i64 u)) := (Mod.refl _ _).setCell _ _ (by simp)
  refine ⟨gi, gk, ?_, ?_, ?_, h4, h5, h6, hF, by simpa using h7, by simpa using h8⟩
  · rw [List.length_set, List.length_set]
    exact (h1.keep m1 (by simp [h4])).keep m2 (by simp [h5])
  · have := (h2.set k (.bool b)).keep m2 (by simp [h6])
    simpa [vbools, List.map_set] using this
  · have := (h3.keep m1 (by simp [Ne.symm h6])).set k (.int .i64 u)
    simpa [vi64, List.map_set] using this
theorem XAt.setK {w : World} {bx : Nat} {I : List Bool} {X : List Int} {F : List Nat} (h : XAt w bx I X F) {gi gk : Nat} (hF : F = [bx, gi, gk]) (k : Nat) (u : Int) :
    XAt (w.setCell ⟨gk, k, none⟩ (.int .i64 u)) bx I (X.set k u) F := by
  obtain ⟨gi', gk', h1, h2, h3, h4, h5, h6, hF', h7, h8⟩ := h.out
  rw [hF] at hF'
  simp only [List.cons.injEq, and_true, true_and] at hF'
  obtain ⟨rfl, rfl⟩ := hF'
  have m2 : Mod [gk] w (w.setCell ⟨gk, k, none⟩ (.int .i64 u)) := (Mod.refl _ _).setCell _ _ (by simp)
  refine ⟨gi, gk, ?_, h2.keep m2 (by simp [h6]), ?_, h4, h5, h6, hF, by simpa using h7, h8⟩
  · rw [List.length_set]
    exact h1.keep m2 (by simp [h5])
  · have := h3.set k (.int .i64 u)
    simpa [vi64, List.map_set] using this
set_option maxHeartbeats 1000000 in
theorem has_x {w : World} {bx : Nat} {I : List Bool} {X : List Int} {F : List Nat} (h : XAt w bx I X F) (v : Int) :
    Calls Try.prog 82 #[.pointer (some ⟨bx, 0, none⟩), .int .i64 v] w fun e w' => e = .returned (.bool (inR I v)) ∧ w' = w := by
  obtain ⟨gi, gk, hc, hF, hl⟩ := h.cells
  obtain ⟨c0, c1, ci, ck, zi, zk, bl, il, kl, n1, n2, n3⟩ := hc
  clear h ck c1 zi zk kl n1 n2 n3 hF
  by_cases hv : v < 0
  · have e := Lib.hid (show inR I v = false by unfold inR; rw [decide_eq_false (by omega)]; rfl)
    have t1 : decide (0 ≤ v) = false := by simp; omega
    clear ci
    go_enter Try.func82, Try.ntmps82
    go_wp2_with fail
    go_ret
    exact ⟨by rw [e.out]; rfl, rfl⟩
  by_cases hv1 : (I.length : Int) ≤ v
  · have e := Lib.hid (show inR I v = false by unfold inR; rw [decide_eq_false (by omega)]; rfl)
    have t1 : decide (0 ≤ v) = true := by simp; omega
    have t2 : decide (v < (I.length : Int)) = false := by simp; omega
    clear ci
    generalize I.length = n at *
    go_enter Try.func82, Try.ntmps82
    go_wp2_with fail
    go_ret
    exact ⟨by rw [e.out]; rfl, rfl⟩
  · have hv0 : 0 ≤ v := by omega
    have hv2 : v < I.length := by omega
    have e := Lib.hid (show inR I v = I.getD v.toNat false by unfold inR; rw [decide_eq_true ⟨hv0, hv2⟩]; rfl)
    have hk := ci v.toNat (by omega)
    have t1 : decide (0 ≤ v) = true := by simp; omega
    have t2 : decide (v < (I.length : Int)) = true := by simp; omega
    clear ci
    generalize I.getD v.toNat false = b at *
    generalize I.length = n at *
    go_enter Try.func82, Try.ntmps82
    go_wp2_with fail
    go_ret
    exact ⟨by rw [e.out]; rfl, rfl⟩
set_option maxRecDepth 100000 in
set_option maxHeartbeats 2000000 in
theorem push_x {w : World} {bx : Nat} {I : List Bool} {X : List Int} {F : List Nat} (h : XAt w bx I X F) (v key : Int) :
    Calls Try.prog 141 #[.pointer (some ⟨bx, 0, none⟩), .int .i64 v, .int .i64 key] w fun e w' => e = .returned (.bool (pushR I v)) ∧ XAt w' bx (pushI I v) (pushX I X v key) F ∧ Mod F w w' := by
  obtain ⟨gi, gk, hc, hF, hl⟩ := h.cells
  obtain ⟨c0, c1, ci, ck, zi, zk, bl, il, kl, n1, n2, n3⟩ := hc
  by_cases hv : v < 0
  · have e := Lib.hid (show pushR I v = false by unfold pushR; rw [decide_eq_false (by omega)]; rfl)
    have t1 : decide (v < 0) = true := by simp; omega
    have h' := Lib.hid h
    clear ci ck h hF
    go_enter Try.func141, Try.ntmps141
    go_wp2_with fail
    go_ret
    unfold pushI pushX
    rw [e.out]
    exact ⟨rfl, h'.out, Mod.refl _ _⟩
  by_cases hv1 : (I.length : Int) ≤ v
  · have e := Lib.hid (show pushR I v = false by unfold pushR; rw [decide_eq_false (by omega)]; rfl)
    have t1 : decide (v < 0) = false := by simp; omega
    have t2 : decide ((I.length : Int) ≤ v) = true := by simp; omega
    have h' := Lib.hid h
    clear ci ck h hF
    generalize hn : I.length = n at *
    clear hn
    go_enter Try.func141, Try.ntmps141
    go_wp2_with fail
    go_ret
    unfold pushI pushX
    rw [e.out]
    exact ⟨rfl, h'.out, Mod.refl _ _⟩
  have hv0 : 0 ≤ v := by omega
  have hv2 : v < I.length := by omega
  have hk := ci v.toNat (by omega)
  have t1 : decide (v < 0) = false := by simp; omega
  have t2 : decide ((I.length : Int) ≤ v) = false := by simp; omega
  have e := Lib.hid (show pushR I v = !I.getD v.toNat false by unfold pushR; rw [decide_eq_true ⟨hv0, hv2⟩]; rfl)
  cases hb : I.getD v.toNat false with
  | true =>
    have h' := Lib.hid h
    have hb' := Lib.hid hb
    rw [hb] at hk
    clear ci ck h hF hb
    generalize hn : I.length = n at *
    clear hn
    go_enter Try.func141, Try.ntmps141
    go_wp2_with fail
    go_ret
    unfold pushI pushX
    rw [e.out, hb'.out]
    exact ⟨rfl, h'.out, Mod.refl _ _⟩
  | false =>
    have hkk := ck v.toNat (by omega)
    have hfin := Lib.hid (h.set2 hF v.toNat true key)
    have hm := Lib.hid (show Mod F w ((w.setCell ⟨gi, v.toNat, none⟩ (.bool true)).setCell ⟨gk, v.toNat, none⟩ (.int .i64 key)) from ((Mod.refl _ _).setCell _ _ (fun _ => by rw [hF]; simp)).setCell _ _ (fun _ => by rw [hF]; simp))
    have hb' := Lib.hid hb
    rw [hb] at hk
    clear ci ck h hF hb
    generalize hn : I.length = n at *
    clear hn
    go_enter Try.func141, Try.ntmps141
    go_wp2_with fail
    go_ret
    unfold pushI pushX
    rw [e.out, hb'.out]
    exact ⟨rfl, hfin.out, hm.out⟩
set_option maxRecDepth 100000 in
set_option maxHeartbeats 2000000 in
theorem raise_x {w : World} {bx : Nat} {I : List Bool} {X : List Int} {F : List Nat} (h : XAt w bx I X F) (v key : Int) :
    Calls Try.prog 142 #[.pointer (some ⟨bx, 0, none⟩), .int .i64 v, .int .i64 key] w fun e w' => e = .returned (.bool (raiseR I X v key)) ∧ XAt w' bx I (raiseX I X v key) F ∧ Mod F w w' := by
  obtain ⟨gi, gk, hc, hF, hl⟩ := h.cells
  obtain ⟨c0, c1, ci, ck, zi, zk, bl, il, kl, n1, n2, n3⟩ := hc
  have hh := Lib.hid (has_x h v)
  cases hi : inR I v with
  | false =>
    rw [hi] at hh
    have e := Lib.hid (show raiseR I X v key = false by unfold raiseR; rw [hi]; rfl)
    have h' := Lib.hid h
    clear ci ck h hF hi
    go_enter Try.func142, Try.ntmps142
    go_wp2_with fail
    refine hh.out.mono ?_
    rintro e w1 ⟨rfl, rfl⟩
    try dsimp only
    go_wp2_with fail
    go_ret
    unfold raiseX
    rw [e.out]
    exact ⟨rfl, h'.out, Mod.refl _ _⟩
  | true =>
    rw [hi] at hh
    have hr : 0 ≤ v ∧ v < I.length := by
      unfold inR at hi
      rw [Bool.and_eq_true, decide_eq_true_eq] at hi
      exact hi.1
    obtain ⟨hv0, hv2⟩ := hr
    have hkk := ck v.toNat (by omega)
    have e := Lib.hid (show raiseR I X v key = !decide (key < X.getD v.toNat 0) by unfold raiseR; rw [hi]; rfl)
    have hfin := Lib.hid (h.setK hF v.toNat key)
    have hm := Lib.hid (show Mod F w (w.setCell ⟨gk, v.toNat, none⟩ (.int .i64 key)) from ((Mod.refl _ _).setCell _ _ (fun _ => by rw [hF]; simp)))
    have h' := Lib.hid h
    clear ci ck h hF hi
    generalize X.getD v.toNat 0 = u at *
    generalize hn : I.length = n at *
    clear hn
    by_cases hlt : key < u
    · have t1 : decide (key < u) = true := by simpa using hlt
      go_enter Try.func142, Try.ntmps142
      go_wp2_with fail
      refine hh.out.mono ?_
      rintro e w1 ⟨rfl, rfl⟩
      try dsimp only
      go_wp2_with fail
      go_ret
      unfold raiseX
      rw [e.out, t1]
      exact ⟨rfl, h'.out, Mod.refl _ _⟩
    · have t1 : decide (key < u) = false := by simpa using hlt
      go_enter Try.func142, Try.ntmps142
      go_wp2_with fail
      refine hh.out.mono ?_
      rintro e w1 ⟨rfl, rfl⟩
      try dsimp only
      go_wp2_with fail
      go_ret
      unfold raiseX
      rw [e.out, t1]
      exact ⟨rfl, hfin.out, hm.out⟩
set_option maxRecDepth 100000 in
set_option maxHeartbeats 2000000 in
theorem drop_x {w : World} {bx : Nat} {I : List Bool} {X : List Int} {F : List Nat} (h : XAt w bx I X F) (v : Int) :
    Calls Try.prog 143 #[.pointer (some ⟨bx, 0, none⟩), .int .i64 v] w fun e w' => e = .returned (.bool (inR I v)) ∧ XAt w' bx (dropI I v) (dropX I X v) F ∧ Mod F w w' := by
  obtain ⟨gi, gk, hc, hF, hl⟩ := h.cells
  obtain ⟨c0, c1, ci, ck, zi, zk, bl, il, kl, n1, n2, n3⟩ := hc
  have hh := Lib.hid (has_x h v)
  cases hi : inR I v with
  | false =>
    rw [hi] at hh
    have h' := Lib.hid (show XAt w bx (dropI I v) (dropX I X v) F by unfold dropI dropX; rw [hi]; exact h)
    clear ci ck h hF hi
    go_enter Try.func143, Try.ntmps143
    go_wp2_with fail
    refine hh.out.mono ?_
    rintro e w1 ⟨rfl, rfl⟩
    try dsimp only
    go_wp2_with fail
    go_ret
    exact ⟨rfl, h'.out, Mod.refl _ _⟩
  | true =>
    rw [hi] at hh
    have hr : 0 ≤ v ∧ v < I.length := by
      unfold inR at hi
      rw [Bool.and_eq_true, decide_eq_true_eq] at hi
      exact hi.1
    obtain ⟨hv0, hv2⟩ := hr
    have hk := ci v.toNat (by omega)
    have hkk := ck v.toNat (by omega)
    have hfin := Lib.hid (show XAt _ bx (dropI I v) (dropX I X v) F by unfold dropI dropX; rw [hi]; exact h.set2 hF v.toNat false 0)
    have hm := Lib.hid (show Mod F w ((w.setCell ⟨gi, v.toNat, none⟩ (.bool false)).setCell ⟨gk, v.toNat, none⟩ (.int .i64 0)) from ((Mod.refl _ _).setCell _ _ (fun _ => by rw [hF]; simp)).setCell _ _ (fun _ => by rw [hF]; simp))
    clear ci ck h hF hi
    generalize hn : I.length = n at *
    clear hn
    go_enter Try.func143, Try.ntmps143
    go_wp2_with fail
    refine hh.out.mono ?_
    rintro e w1 ⟨rfl, rfl⟩
    try dsimp only
    go_wp2_with fail
    go_ret
    exact ⟨rfl, hfin.out, hm.out⟩
end Ref12
end Go.Proofs.Ytmkbinbggiocaaa
