/- The edges of each vertex: link. -/
import Derived.Test.YtjpfmkfikidgkaaGreatEdge1
import Derived.Test.YtjpfmkfikidgkaaGreatStepApp
import Derived.Test.YtjpfmkfikidgkaaGreatFork
import Derived.StillTailTactics
import Derived.Deep.RegionLaw
import Derived.BigQuiet
set_option linter.unusedVariables false
set_option linter.unusedSimpArgs false
namespace Go.Proofs.YtjpfmkfikidgkaaGreat
open Go.RowKit
namespace Edge
theorem infoInt : (Tryz.prog.info? 3).map (fun i => (i.zero, i.size, i.bytes)) = some (some (.int .i64 0), 1, 8) := by kernel_rfl
def rowsP (RS : List Value) (XS : List (List Int)) : List Part := List.zipWith (fun r x => Row 3 1 x.length r (i64s x)) RS XS
/-- A graph as it is being made. -/
def endsL (b gn gd n : Nat) (vl : Value) (tot : Int) (RS : List Value) (XS : List (List Int)) (DS : List Int) (R : List Part) : List Part :=
  Blk b [.slice (some ⟨gn, 0, none⟩) n n, .slice (some ⟨gd, 0, none⟩) n n, vl, .int .i64 tot] 169 :: Blk gn RS 51 :: Blk gd (i64s DS) 2 :: (rowsP RS XS ++ R)
structure ESt (w0 w : World) (b gn gd n : Nat) (vl : Value) (tot : Int) (RS : List Value) (XS : List (List Int)) (DS : List Int) (R : List Part) : Prop where
  sep : Sep w0 w (endsL b gn gd n vl tot RS XS DS R)
  lr : RS.length = n
  lx : XS.length = n
  ld : DS.length = n
theorem ESt.still {w0 w w' : World} {b gn gd n : Nat} {vl : Value} {tot : Int} {RS : List Value} {XS : List (List Int)} {DS : List Int} {R : List Part} (h : ESt w0 w b gn gd n vl tot RS XS DS R) (m : Mod [] w w') : ESt w0 w' b gn gd n vl tot RS XS DS R :=
  ⟨h.sep.still m, h.lr, h.lx, h.ld⟩
theorem rowsP_set {RS : List Value} {XS : List (List Int)} {v : Nat} {r : Value} {x : List Int} : (rowsP RS XS).set v (Row 3 1 x.length r (i64s x)) = rowsP (RS.set v r) (XS.set v x) := by
  unfold rowsP
  apply List.ext_getElem?
  intro i
  rw [List.getElem?_set, List.getElem?_zipWith, List.getElem?_zipWith, List.getElem?_set, List.getElem?_set, List.length_zipWith]
  by_cases e : v = i
  · subst e
    simp only [if_true]
    by_cases h1 : v < RS.length
    · by_cases h2 : v < XS.length
      · simp [h1, h2]
        omega
      · simp [h1, h2]
        omega
    · simp [h1]
      omega
  · simp only [if_neg e]
/-- A vertex's row, and what may become of it. -/
theorem ESt.row {w0 w : World} {b gn gd n : Nat} {vl : Value} {tot : Int} {RS : List Value} {XS : List (List Int)} {DS : List Int} {R : List Part} (h : ESt w0 w b gn gd n vl tot RS XS DS R) {v : Nat} (hv : v < n) :
    ∃ a c x, RS[v]? = some (.slice a x.length c) ∧ XS[v]? = some x ∧ w.ownsRow 0 3 1 (.slice a x.length c) x.length (i64s x) ∧ (∀ g, (Value.slice a x.length c).ownBlock = some g → g ≠ b ∧ g ≠ gn ∧ g ≠ gd) ∧
      (∀ (w' : World) (a1 : Option Addr) (c1 : Nat) (x1 : List Int), w'.ownsRow 0 3 1 (.slice a1 x1.length c1) x1.length (i64s x1) → Mod (Value.slice a x.length c).ownBlock.toList w w' → ((Value.slice a1 x1.length c1).ownBlock = (Value.slice a x.length c).ownBlock ∨ ∃ b, (Value.slice a1 x1.length c1).ownBlock = some b ∧ w.heap.size ≤ b) →
        ESt w0 (w'.setCell ⟨gn, v, none⟩ (.slice a1 x1.length c1)) b gn gd n vl tot (RS.set v (.slice a1 x1.length c1)) (XS.set v x1) DS R) := by
  have h1 : v < RS.length := by rw [h.lr]; exact hv
  have h2 : v < XS.length := by rw [h.lx]; exact hv
  have hi : 3 + v < (endsL b gn gd n vl tot RS XS DS R).length := by
    unfold endsL rowsP
    simp only [List.length_cons, List.length_append, List.length_zipWith]
    omega
  have hp := h.sep.pick (3 + v) hi
  have e : (endsL b gn gd n vl tot RS XS DS R)[3 + v] = Row 3 1 XS[v].length RS[v] (i64s XS[v]) := by
    unfold endsL rowsP
    simp only [Nat.add_comm 3 v, List.getElem_cons_succ]
    rw [List.getElem_append_left (by simp only [List.length_zipWith]; omega), List.getElem_zipWith]
  rw [e] at hp
  have ho := hp.row
  obtain ⟨a, c, hs⟩ : ∃ a c, RS[v] = .slice a XS[v].length c := by
    rcases ho.2 with ⟨he, h0⟩ | ⟨g, cap, cur, he, _⟩
    · exact ⟨none, 0, by rw [he, h0]⟩
    · exact ⟨_, _, he⟩
  rw [hs] at hp ho
  refine ⟨a, c, XS[v], by rw [List.getElem?_eq_getElem h1, hs], List.getElem?_eq_getElem h2, ho, ?_, fun w' a1 c1 x1 o1 m1 n1 => ⟨?_, by rw [List.length_set]; exact h.lr, by rw [List.length_set]; exact h.lx, h.ld⟩⟩
  · intro g hg
    rw [show (endsL b gn gd n vl tot RS XS DS R).eraseIdx (3 + v) = Blk b [.slice (some ⟨gn, 0, none⟩) n n, .slice (some ⟨gd, 0, none⟩) n n, vl, .int .i64 tot] 169 :: Blk gn RS 51 :: Blk gd (i64s DS) 2 :: (rowsP RS XS ++ R).eraseIdx v by unfold endsL; rw [Nat.add_comm 3 v]; rfl] at hp
    obtain ⟨F, ⟨_, F0, F00, rfl, ⟨_, rfl⟩, ⟨_, F1, F2, rfl, ⟨_, rfl⟩, ⟨_, F3, F4, rfl, ⟨_, rfl⟩, ⟨_, F5, F6, rfl, ⟨_, rfl⟩, _, _⟩, d2⟩, d1⟩, d0⟩, _⟩ := hp.out
    have a1 := d0 g (by rw [hg]; simp)
    simp only [List.mem_append, List.mem_singleton, not_or] at a1
    exact ⟨a1.1, a1.2.1, a1.2.2.1⟩
  have hg := (hp.grow o1 m1 n1).putBack hi
  have e2 : (endsL b gn gd n vl tot RS XS DS R).set (3 + v) (Row 3 1 x1.length (.slice a1 x1.length c1) (i64s x1)) = Blk b [.slice (some ⟨gn, 0, none⟩) n n, .slice (some ⟨gd, 0, none⟩) n n, vl, .int .i64 tot] 169 :: Blk gn RS 51 :: Blk gd (i64s DS) 2 :: (rowsP (RS.set v (.slice a1 x1.length c1)) (XS.set v x1) ++ R) := by
    unfold endsL
    rw [Nat.add_comm 3 v]
    simp only [List.set_cons_succ]
    rw [List.set_append_left _ _ (by unfold rowsP; simp only [List.length_zipWith]; omega), rowsP_set]
  rw [e2] at hg
  exact (hg.swap.set v (.slice a1 x1.length c1)).swap
theorem ESt.deg {w0 w : World} {b gn gd n : Nat} {vl : Value} {tot : Int} {RS : List Value} {XS : List (List Int)} {DS : List Int} {R : List Part} (h : ESt w0 w b gn gd n vl tot RS XS DS R) (v : Nat) (x : Int) :
    ESt w0 (w.setCell ⟨gd, v, none⟩ (.int .i64 x)) b gn gd n vl tot RS XS (DS.set v x) R := by
  refine ⟨?_, h.lr, h.lx, by rw [List.length_set]; exact h.ld⟩
  have hi : 2 < (endsL b gn gd n vl tot RS XS DS R).length := by unfold endsL; simp
  have h1 : Sep w0 w (Blk gd (i64s DS) 2 :: (endsL b gn gd n vl tot RS XS DS R).eraseIdx 2) := h.sep.pick 2 hi
  have h2 := (h1.set v (.int .i64 x)).putBack hi
  rw [i64s_set] at h2
  exact h2
theorem ESt.total {w0 w : World} {b gn gd n : Nat} {vl : Value} {tot : Int} {RS : List Value} {XS : List (List Int)} {DS : List Int} {R : List Part} (h : ESt w0 w b gn gd n vl tot RS XS DS R) (x : Int) :
    ESt w0 (w.setCell ⟨b, 3, none⟩ (.int .i64 x)) b gn gd n vl x RS XS DS R := ⟨h.sep.set 3 (.int .i64 x), h.lr, h.lx, h.ld⟩
/-- What the walk reads of it. -/
theorem ESt.cells {w0 w : World} {b gn gd n : Nat} {vl : Value} {tot : Int} {RS : List Value} {XS : List (List Int)} {DS : List Int} {R : List Part} (h : ESt w0 w b gn gd n vl tot RS XS DS R) :
    Has w b [.slice (some ⟨gn, 0, none⟩) n n, .slice (some ⟨gd, 0, none⟩) n n, vl, .int .i64 tot] 169 ∧ Has w gn RS 51 ∧ Has w gd (i64s DS) 2 ∧ b ≠ gn ∧ b ≠ gd ∧ gn ≠ gd := by
  have hi : 2 < (endsL b gn gd n vl tot RS XS DS R).length := by unfold endsL; simp
  have h1 : Sep w0 w (Blk gd (i64s DS) 2 :: (endsL b gn gd n vl tot RS XS DS R).eraseIdx 2) := h.sep.pick 2 hi
  refine ⟨h.sep.blk, h.sep.swap.blk, h1.blk, ?_⟩
  obtain ⟨F, ⟨_, F1, F2, rfl, ⟨_, rfl⟩, ⟨_, F3, F4, rfl, ⟨_, rfl⟩, ⟨_, F5, F6, rfl, ⟨_, rfl⟩, _, _⟩, d2⟩, d1⟩, _⟩ := h.sep.out
  have a1 := d1 b (by simp)
  have a2 := d2 gn (by simp)
  simp only [List.mem_append, List.mem_singleton, not_or] at a1 a2
  exact ⟨a1.1, a1.2.1, a2.1⟩
theorem endsL_rest {b gn gd n : Nat} {vl : Value} {tot : Int} {RS : List Value} {XS : List (List Int)} {DS : List Int} {P : Part} {R : List Part} : (P :: endsL b gn gd n vl tot RS XS DS R).Perm (endsL b gn gd n vl tot RS XS DS (P :: R)) := by
  unfold endsL
  refine (List.Perm.swap _ _ _).trans (List.Perm.cons _ ((List.Perm.swap _ _ _).trans (List.Perm.cons _ ((List.Perm.swap _ _ _).trans (List.Perm.cons _ ?_)))))
  exact List.perm_middle.symm
theorem ESt.box {w0 w : World} {b gn gd n : Nat} {vl : Value} {tot : Int} {RS : List Value} {XS : List (List Int)} {DS : List Int} {R : List Part} (h : ESt w0 w b gn gd n vl tot RS XS DS R) (cs : List Value) (t : TypeId) : ESt w0 (w.alloc (.cells cs.toArray t)) b gn gd n vl tot RS XS DS (Blk w.heap.size cs t :: R) :=
  ⟨(h.sep.box cs t).perm endsL_rest, h.lr, h.lx, h.ld⟩
theorem ESt.unbox {w0 w : World} {b gn gd n : Nat} {vl : Value} {tot : Int} {RS : List Value} {XS : List (List Int)} {DS : List Int} {P : Part} {R : List Part} (h : ESt w0 w b gn gd n vl tot RS XS DS (P :: R)) : ESt w0 w b gn gd n vl tot RS XS DS R :=
  ⟨(h.sep.perm endsL_rest.symm).tail, h.lr, h.lx, h.ld⟩
theorem ESt.fst {w0 w : World} {b gn gd n : Nat} {vl : Value} {tot : Int} {RS : List Value} {XS : List (List Int)} {DS : List Int} {B : Nat} {cs : List Value} {t : TypeId} {R : List Part} (h : ESt w0 w b gn gd n vl tot RS XS DS (Blk B cs t :: R)) : Has w B cs t ∧ B ≠ b ∧ B ≠ gn ∧ B ≠ gd := by
  have h1 := h.sep.perm endsL_rest.symm
  refine ⟨h1.blk, ?_⟩
  obtain ⟨F, ⟨_, F0, F00, rfl, ⟨_, rfl⟩, ⟨_, F1, F2, rfl, ⟨_, rfl⟩, ⟨_, F3, F4, rfl, ⟨_, rfl⟩, ⟨_, F5, F6, rfl, ⟨_, rfl⟩, _, _⟩, d2⟩, d1⟩, d0⟩, _⟩ := h1.out
  have a1 := d0 B (by simp)
  simp only [List.mem_append, List.mem_singleton, not_or] at a1
  exact ⟨a1.1, a1.2.1, a1.2.2.1⟩
/-! ### link -/
def XSk (X : List (List Int)) (u v : Int) : Nat → List (List Int)
  | 0 => X
  | 1 => X.set u.toNat (X.getD u.toNat [] ++ [v])
  | _ => (X.set u.toNat (X.getD u.toNat [] ++ [v])).set v.toNat ((X.set u.toNat (X.getD u.toNat [] ++ [v])).getD v.toNat [] ++ [u])
def DSk (D : List Int) (u v c : Int) : Nat → List Int
  | 0 => D
  | 1 => D.set u.toNat (D.getD u.toNat 0 + c)
  | _ => (D.set u.toNat (D.getD u.toNat 0 + c)).set v.toNat ((D.set u.toNat (D.getD u.toNat 0 + c)).getD v.toNat 0 + c)
set_option maxRecDepth 100000 in
set_option maxHeartbeats 4000000 in
theorem link_any {w0 w : World} {b gn gd n : Nat} {vl : Value} {tot : Int} {RS : List Value} {XS : List (List Int)} {DS : List Int} {R : List Part} (h : ESt w0 w b gn gd n vl tot RS XS DS R) (hn : n ≤ 4096) (u v c : Int) (hu : 0 ≤ u ∧ u < n) (hv : 0 ≤ v ∧ v < n) (huv : u ≠ v) (hc : 0 ≤ c ∧ c ≤ 4503599627370496)
    (hX : ∀ x ∈ XS, x.length ≤ 4194304) (hD : ∀ x ∈ DS, 0 ≤ x ∧ x ≤ 4503599627370496) :
    Calls Tryz.prog 102 #[.pointer (some ⟨b, 0, none⟩), .agg #[.int .i64 u, .int .i64 v, .int .i64 c]] w fun e w' => e = .returned (.tuple #[]) ∧ ∃ RS', ESt w0 w' b gn gd n vl tot RS' (XSk XS u v 2) (DSk DS u v c 2) R := by
  have hix : ∀ k : Nat, k < 2 → ∃ (p0 p1 : Int), (∀ w : World, (Instr.index 245 (.agg #[.int .i64 u, .int .i64 v, .int .i64 v, .int .i64 u]) (.int .i64 (k : Int))).run Tryz.prog w = .ok (.agg #[.int .i64 p0, .int .i64 p1]) w) ∧ 0 ≤ p0 ∧ p0 < n ∧ XSk XS u v (k + 1) = (XSk XS u v k).set p0.toNat ((XSk XS u v k).getD p0.toNat [] ++ [p1]) ∧ DSk DS u v c (k + 1) = (DSk DS u v c k).set p0.toNat ((DSk DS u v c k).getD p0.toNat 0 + c) := by
    intro k hk
    rcases (show k = 0 ∨ k = 1 by omega) with rfl | rfl
    · exact ⟨u, v, fun _ => by kernel_rfl, hu.1, hu.2, rfl, rfl⟩
    · exact ⟨v, u, fun _ => by kernel_rfl, hv.1, hv.2, rfl, rfl⟩
  have hXk : ∀ k : Nat, k < 2 → ∀ x ∈ XSk XS u v k, x.length ≤ 4194305 := by
    intro k hk x hx
    rcases (show k = 0 ∨ k = 1 by omega) with rfl | rfl
    · have := hX x hx; omega
    · rcases List.mem_or_eq_of_mem_set hx with hx | rfl
      · have := hX x hx; omega
      · have : (XS.getD u.toNat []).length ≤ 4194304 := by
          rw [List.getD_eq_getElem?_getD]
          cases hg : XS[u.toNat]? with
          | none => simp
          | some y => exact hX y (List.mem_of_getElem? hg)
        simp only [List.length_append, List.length_cons, List.length_nil]; omega
  have hDk : ∀ k : Nat, k < 2 → ∀ x ∈ DSk DS u v c k, 0 ≤ x ∧ x ≤ 9007199254740992 := by
    intro k hk x hx
    rcases (show k = 0 ∨ k = 1 by omega) with rfl | rfl
    · have := hD x hx; omega
    · rcases List.mem_or_eq_of_mem_set hx with hx | rfl
      · have := hD x hx; omega
      · have : 0 ≤ DS.getD u.toNat 0 ∧ DS.getD u.toNat 0 ≤ 4503599627370496 := by
          rw [List.getD_eq_getElem?_getD]
          cases hg : DS[u.toNat]? with
          | none => simp
          | some y => exact hD y (List.mem_of_getElem? hg)
        omega
  have hix' := Lib.hid hix
  have hXk' := Lib.hid hXk
  have hDk' := Lib.hid hDk
  have hst : Hid (∃ RS', ESt w0 (w.alloc (.cells #[.int .i64 u, .int .i64 v, .int .i64 c] 146)) b gn gd n vl tot RS' (XSk XS u v 0) (DSk DS u v c 0) (Blk w.heap.size [.int .i64 u, .int .i64 v, .int .i64 c] 146 :: R)) := Lib.hid ⟨RS, h.box [.int .i64 u, .int .i64 v, .int .i64 c] 146⟩
  clear h hix hXk hDk hX hD hu hv
  go_enter Tryz.func102, Tryz.ntmps102
  go_wp2_with fail
  generalize w.alloc _ = w1 at *
  generalize w.heap.size = B at *
  go_loopw [17] (fun i wr => ∃ k : Nat, k ≤ 2 ∧ i = .int .i64 k ∧ Hid (∃ RS', ESt w0 wr b gn gd n vl tot RS' (XSk XS u v k) (DSk DS u v c k) (Blk B [.int .i64 u, .int .i64 v, .int .i64 c] 146 :: R))) (fun i _ => 2 - (intOf i).toNat)
  case atStart => exact ⟨0, by omega, rfl, hst⟩
  case round =>
    clear hst
    obtain ⟨k, hk, rfl, hst⟩ := hrel
    by_cases hlt : k < 2
    · have hlt1 : (k : Int) < 2 := by omega
      obtain ⟨p0, p1, hidx, h0, h1, eX, eD⟩ := hix'.out k hlt
      obtain ⟨RS', hE⟩ := hst.out
      have hbx := hXk'.out k hlt
      have hbd := hDk'.out k hlt
      have eX' := Lib.hid eX
      have eD' := Lib.hid eD
      clear eX eD hst
      generalize XSk XS u v k = X1 at *
      generalize DSk DS u v c k = D1 at *
      have hE1 := hE.box [.int .i64 p0, .int .i64 p1] 109
      obtain ⟨kb, kgn, kgd, n1, n2, n3⟩ := hE1.cells
      obtain ⟨kp, m1, m2, m3⟩ := hE1.fst
      obtain ⟨a, cc, x, r1, r2, hrow, hne, hgo⟩ := (hE1.still (Mod.refl [] _).drew).row (v := p0.toNat) (by omega)
      have hpb : ∀ g, (Value.slice a x.length cc).ownBlock = some g → g ≠ wr.heap.size := by
        intro g hg
        obtain ⟨a', c', x', s1, s2, hrow', _, _⟩ := hE.row (v := p0.toNat) (by omega)
        rw [r1] at s1
        simp only [Option.some.injEq] at s1
        rw [s1] at hg
        have := own_lt hrow' hg
        omega
      have hpb' := Lib.hid hpb
      clear hpb
      have hx1 := hbx x (List.mem_of_getElem? r2)
      have hd1 : D1[p0.toNat]? = some (D1.getD p0.toNat 0) := by
        have := hE1.ld
        rw [List.getD_eq_getElem?_getD, List.getElem?_eq_getElem (by omega)]; rfl
      have hd2 := hbd _ (List.mem_of_getElem? hd1)
      generalize hW1 : wr.alloc (.cells [.int .i64 p0, .int .i64 p1].toArray 109) = W1 at *
      have hW1' := Lib.hid hW1
      have lb := kb.lt
      have lgn := kgn.lt
      have lp := kp.lt
      have b0 := kb.cell 0 rfl
      have g0 := kgn.cell p0.toNat r1
      have q0 := kp.cell 0 rfl
      have q1 := kp.cell 1 rfl
      have y1 : ∀ (o : Obj), (W1.drew.alloc o).cell? ⟨gn, p0.toNat, none⟩ = some (.slice a x.length cc) := fun o => (kgn.drew.alloc o).cell p0.toNat r1
      have hrow' := Lib.hid hrow
      have hgo' := Lib.hid hgo
      have hkgn := Lib.hid kgn
      have hkb := Lib.hid kb
      have hkp := Lib.hid kp
      have hne' := Lib.hid hne
      have r1' := Lib.hid r1
      have r2' := Lib.hid r2
      have hd1' := Lib.hid hd1
      clear hE hE1 kb kgn kgd kp hrow hgo hW1 hbx hbd r1 r2 hd1 hne
      go_upto_region 4 with fail
      rw [hW1'.out]
      clear hW1'
      generalize wr.heap.size = PB at *
      obtain ⟨F, hF⟩ : ∃ F, F = gn :: (Value.slice a x.length cc).ownBlock.toList := ⟨_, rfl⟩
      have hbF : b ∉ F := by
        rw [hF, List.mem_cons, Option.mem_toList, not_or]
        exact ⟨n1, fun hh => (hne'.out b hh).1 rfl⟩
      have hpF : PB ∉ F := by
        rw [hF, List.mem_cons, Option.mem_toList, not_or]
        exact ⟨m2, fun hh => hpb'.out PB hh rfl⟩
      have fb : ∀ m : Fut (Mod F) W1.drew, m.v.cell? ⟨b, 0, none⟩ = some (.slice (some ⟨gn, 0, none⟩) n n) := fun m => (hkb.out.drew.keep m.of hbF).cell 0 rfl
      have fp : ∀ m : Fut (Mod F) W1.drew, m.v.cell? ⟨PB, 0, none⟩ = some (.int .i64 p0) := fun m => (hkp.out.drew.keep m.of hpF).cell 0 rfl
      have fp1 : ∀ m : Fut (Mod F) W1.drew, m.v.cell? ⟨PB, 1, none⟩ = some (.int .i64 p1) := fun m => (hkp.out.drew.keep m.of hpF).cell 1 rfl
      have hF' := Lib.hid hF
      clear hF hbF hpF
      refine region_head (G := Mod F) [0, 1, 2, 3, 4, 5, 6, 7, 8, 9, 10, 11, 12, 14, 15] #[true, true, true, true, true, true, true, true, true, true, true, true, true, false, true, true, false, false, false, false] 5 (by kernel_rfl) (by kernel_rfl) (by kernel_rfl) rfl (Mod.refl F) ?_
      simp only [pickO, nthO, List.cons_append, List.nil_append]
      repeat (go_big_quiet_step (fail))
      refine wpQuiet_nil ?_
      clear fb fp fp1
      refine tail_two 13 16 (by kernel_rfl) rfl rfl ?_ ?_
      case' refine_1 =>
        intro K hK
        rw [if_pos (by rfl)]
        go_simp
        refine hK.out _ _ (Mod.refl _ _) ?_
        clear hK K
        refine tail_one 16 (by kernel_rfl) rfl ?_
        intro K hK
        rw [if_pos (by rfl)]
        go_simp
        refine hK.out _ _ ((Mod.refl _ _).alloc _) ?_
        clear hK K
      case' refine_2 =>
        intro K hK
        rw [if_pos (by rfl)]
        go_simp
        refine hK.out _ _ ((Mod.refl _ _).alloc _) ?_
        clear hK K
        refine tail_one 13 (by kernel_rfl) rfl ?_
        intro K hK
        rw [if_pos (by rfl)]
        go_simp
        refine hK.out _ _ ((Mod.refl _ _).alloc _) ?_
        clear hK K
      all_goals
        refine tail_one 17 (by kernel_rfl) rfl ?_
        intro K hK
        refine step_appS (W := W1.drew) rfl (.tmp 33) (.tmp 36) 51 3 _ 1 8 rfl Tryz.underlying51 infoInt rfl (by omega) (by omega) (.slice a x.length cc) x.length 1 (i64s x) [.int .i64 p1] rfl rfl rfl rfl (by simp [Value.oneCell']) hrow'.out (by omega) ?_
        intro a1 c1 w2 hown hm hv
        have hmF : Mod F W1.drew w2 := hm.mono (fun g hg => by rw [hF'.out]; exact List.mem_cons_of_mem _ hg)
        refine hK.out _ _ hmF ?_
        clear hK K
        have hg2 := hkgn.out.drew.keep hm (fun hh => (hne'.out gn (by simpa using hh)).2.1 rfl)
        have gc := hg2.cell p0.toNat r1'.out
        have gz := hg2.free p0.toNat
        have gl := hg2.lt
        have hE20 := hgo'.out w2 a1 c1 (x ++ [p1]) (by rw [i64s_append, List.length_append]; exact hown) hm (by rw [List.length_append]; exact hv)
        rw [show (x ++ [p1]).length = x.length + 1 by simp] at hE20
        have hE2 := Lib.hid hE20
        clear hE20
        clear hg2 hown hm hv
        have hmF' := Lib.hid hmF
        clear hmF
        refine tail_one 18 (by kernel_rfl) rfl ?_
        intro K hK
        rw [if_pos (by rfl)]
        go_simp
        refine hK.out _ _ hmF'.out ?_
        clear hK K
        refine tail_one 19 (by kernel_rfl) rfl ?_
        intro K hK
        rw [if_pos (by rfl)]
        go_simp
        refine hK.out _ _ (hmF'.out.setCell _ _ (fun _ => by rw [hF'.out]; simp)) ?_
        clear hK K
        refine tail_done (by kernel_rfl) ?_
        clear hmF' gc gz gl y1 b0 g0 q0 q1 lb lgn lp
        generalize w2.setCell ⟨gn, p0.toNat, none⟩ (.slice a1 (x.length + 1) c1) = w3 at *
        obtain ⟨kb, kgn2, kgd, _, _, _⟩ := hE2.out.cells
        have kp := hE2.out.fst.1
        have kB := hE2.out.unbox.fst.1
        have kd := kgd.cell p0.toNat (v := .int .i64 (D1.getD p0.toNat 0)) (by unfold i64s; rw [List.getElem?_map, hd1'.out]; rfl)
        have b1 := kb.cell 1 rfl
        have p0c := kp.cell 0 rfl
        have Bc := kB.cell 2 rfl
        have zd := kgd.free p0.toNat
        have lb := kb.lt
        have ld := kgd.lt
        have lp := kp.lt
        have lB := kB.lt
        clear kb kgn2 kgd kp kB hkgn hkb hkp hne' r1' hrow' hgo' hpb' hF'
        obtain ⟨dv, hdv⟩ : ∃ dv, D1.getD p0.toNat 0 = dv := ⟨_, rfl⟩
        rw [hdv] at kd hd2
        have hdv' := Lib.hid hdv
        have hc0 := hc.1
        have hc1 := hc.2
        have hd20 := hd2.1
        have hd21 := hd2.2
        clear hdv
        go_wp2_with fail
        go_still_tail 12, (by kernel_rfl)
        go_wp2_with fail
        go_roundw
        case rel => exact ⟨k + 1, by omega, by go_num, Lib.hid (by
          rw [eX'.out, eD'.out, hdv'.out, show X1.getD p0.toNat [] = x by rw [List.getD_eq_getElem?_getD, r2'.out]; rfl]
          exact ⟨_, ((hE2.out.deg p0.toNat (dv + c)).unbox.still (Mod.refl [] _).drew)⟩)⟩
        case measure => simp [intOf]; omega
    · have hk2 : k = 2 := by omega
      subst hk2
      obtain ⟨RS', hE⟩ := hst.out
      have hE' := Lib.hid hE.unbox
      clear hst hE
      go_wp2_with fail
      exact bodyPost_end (v := .tuple #[]) (by simp [results, Tryz.results102, go_sem]) rfl ⟨rfl, RS', hE'.out⟩
end Edge
end Go.Proofs.YtjpfmkfikidgkaaGreat
