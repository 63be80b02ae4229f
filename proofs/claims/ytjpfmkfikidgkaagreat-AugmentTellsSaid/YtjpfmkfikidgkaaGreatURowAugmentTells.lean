/- How far it is to a vertex: the search. (Ahead of it: The edges of each vertex: link. A map from pairs of whole numbers to whole numbers, of the call's own making. Merge: DeleteFunc of the edges that weigh nothing. Merge. A graph is made: its parts; rows of numbers are sorted. A graph is made: New. What a graph tells. A graph's arcs as an object, and what it tells. The arcs of a graph are made: New. Two edges' pairs are compared; where a pair lies is sought. What an edge of a graph weighs. The law's awake: a graph is made at all, and tells. A graph's edges: one, all. Whether two slices hold the same numbers. The reference's edges: the same list? slices.Equal of edges. What no graph at all tells; whether two graphs are the same. The arcs of a graph that is there; the law's awake: arcs are told at all. What is left of arcs, as an object: what it tells; a push. What is left of arcs: a push along an arc; all flows; of nil there is nothing. What is left of arcs: all flows; of nil there is nothing; New. What is left of arcs: to where something may go. The search for how far it is: a vertex is seen. The search for how far it is to a vertex: who leads to a vertex is seen.) -/
import Derived.Test.YtjpfmkfikidgkaaGreatEdge1
import Derived.Test.YtjpfmkfikidgkaaGreatStepApp
import Derived.Test.YtjpfmkfikidgkaaGreatFork
import Derived.StillTailTactics
import Derived.Deep.RegionLaw
import Derived.BigQuiet
import Derived.Test.YtjpfmkfikidgkaaGreatSep
import Derived.Maps.Own
import Derived.Maps.OwnOps
import Derived.Maps.Views
import Derived.DeepKeys4
import Derived.WideKeyPair
import Derived.Test.YtjpfmkfikidgkaaGreatEdRow
import Derived.Test.YtjpfmkfikidgkaaGreatPosLaw
import Derived.Lib.SliceRun
import Derived.Laws.EntriesVeiled
import Derived.Test.YtjpfmkfikidgkaaGreatTotLaw
import Derived.Test.YtjpfmkfikidgkaaGreatMerge3
import Derived.Test.YtjpfmkfikidgkaaGreatShelf
import Derived.Test.YtjpfmkfikidgkaaGreatKit3
import Derived.Deep.Onto
import Derived.Test.YtjpfmkfikidgkaaGreatCsr4
import Derived.Test.YtjpfmkfikidgkaaGreatCsr2
import Derived.Test.YtjpfmkfikidgkaaGreatNetLaw
import Derived.Test.YtjpfmkfikidgkaaGreatRd
import Derived.Laws.StructEq
import Derived.Test.YtjpfmkfikidgkaaGreatResLaw
import Derived.Test.YtjpfmkfikidgkaaGreatReachLaw
import Derived.Test.YtjpfmkfikidgkaaGreatLevLaw
set_option linter.unusedVariables false
set_option linter.unusedSimpArgs false
namespace Go.Proofs.YtjpfmkfikidgkaaGreat
open Go.RowKit
namespace Edge
theorem infoInt : (Tryz.prog.info? 3).map (fun i => (i.zero, i.size, i.bytes)) = some (some (.int .i64 0), 1, 8) := by kernel_rfl
def rowsP (RS : List Value) (XS : List (List Int)) : List Part := List.zipWith (fun r x => Row 3 1 x.length r (i64s x)) RS XS
/-- A graph as it is being made. -/
def endsL (b gn gd n : Nat) (vl : Value) (tot : Int) (RS : List Value) (XS : List (List Int)) (DS : List Int) (R : List Part) : List Part :=
  Blk b [.slice (some ⟨gn, 0, none⟩) n n, .slice (some ⟨gd, 0, none⟩) n n, vl, .int .i64 tot] 169 :: Blk gn RS 51 :: Blk gd (i64s DS) 2 :: (rowsP RS XS ++ R)
structure ESt (w0 w : World) (b gn gd n : Nat) (vl : Value) (tot : Int) (RS : List Value) (XS : List (List Int)) (DS : List Int) (R : List Part) : Prop where
  sep : Sep w0 w (endsL b gn gd n vl tot RS XS DS R)
  lr : RS.length = n
  lx : XS.length = n
  ld : DS.length = n
theorem ESt.still {w0 w w' : World} {b gn gd n : Nat} {vl : Value} {tot : Int} {RS : List Value} {XS : List (List Int)} {DS : List Int} {R : List Part} (h : ESt w0 w b gn gd n vl tot RS XS DS R) (m : Mod [] w w') : ESt w0 w' b gn gd n vl tot RS XS DS R :=
  ⟨h.sep.still m, h.lr, h.lx, h.ld⟩
theorem rowsP_set {RS : List Value} {XS : List (List Int)} {v : Nat} {r : Value} {x : List Int} : (rowsP RS XS).set v (Row 3 1 x.length r (i64s x)) = rowsP (RS.set v r) (XS.set v x) := by
  unfold rowsP
  apply List.ext_getElem?
  intro i
  rw [List.getElem?_set, List.getElem?_zipWith, List.getElem?_zipWith, List.getElem?_set, List.getElem?_set, List.length_zipWith]
  by_cases e : v = i
  · subst e
    simp only [if_true]
    by_cases h1 : v < RS.length
    · by_cases h2 : v < XS.length
      · simp [h1, h2]
        omega
      · simp [h1, h2]
        omega
    · simp [h1]
      omega
  · simp only [if_neg e]
/-- A vertex's row, and what may become of it. -/
theorem ESt.row {w0 w : World} {b gn gd n : Nat} {vl : Value} {tot : Int} {RS : List Value} {XS : List (List Int)} {DS : List Int} {R : List Part} (h : ESt w0 w b gn gd n vl tot RS XS DS R) {v : Nat} (hv : v < n) :
    ∃ a c x, RS[v]? = some (.slice a x.length c) ∧ XS[v]? = some x ∧ w.ownsRow 0 3 1 (.slice a x.length c) x.length (i64s x) ∧ (∀ g, (Value.slice a x.length c).ownBlock = some g → g ≠ b ∧ g ≠ gn ∧ g ≠ gd) ∧
      (∀ (w' : World) (a1 : Option Addr) (c1 : Nat) (x1 : List Int), w'.ownsRow 0 3 1 (.slice a1 x1.length c1) x1.length (i64s x1) → Mod (Value.slice a x.length c).ownBlock.toList w w' → ((Value.slice a1 x1.length c1).ownBlock = (Value.slice a x.length c).ownBlock ∨ ∃ b, (Value.slice a1 x1.length c1).ownBlock = some b ∧ w.heap.size ≤ b) →
        ESt w0 (w'.setCell ⟨gn, v, none⟩ (.slice a1 x1.length c1)) b gn gd n vl tot (RS.set v (.slice a1 x1.length c1)) (XS.set v x1) DS R) := by
  have h1 : v < RS.length := by rw [h.lr]; exact hv
  have h2 : v < XS.length := by rw [h.lx]; exact hv
  have hi : 3 + v < (endsL b gn gd n vl tot RS XS DS R).length := by
    unfold endsL rowsP
    simp only [List.length_cons, List.length_append, List.length_zipWith]
    omega
  have hp := h.sep.pick (3 + v) hi
  have e : (endsL b gn gd n vl tot RS XS DS R)[3 + v] = Row 3 1 XS[v].length RS[v] (i64s XS[v]) := by
    unfold endsL rowsP
    simp only [Nat.add_comm 3 v, List.getElem_cons_succ]
    rw [List.getElem_append_left (by simp only [List.length_zipWith]; omega), List.getElem_zipWith]
  rw [e] at hp
  have ho := hp.row
  obtain ⟨a, c, hs⟩ : ∃ a c, RS[v] = .slice a XS[v].length c := by
    rcases ho.2 with ⟨he, h0⟩ | ⟨g, cap, cur, he, _⟩
    · exact ⟨none, 0, by rw [he, h0]⟩
    · exact ⟨_, _, he⟩
  rw [hs] at hp ho
  refine ⟨a, c, XS[v], by rw [List.getElem?_eq_getElem h1, hs], List.getElem?_eq_getElem h2, ho, ?_, fun w' a1 c1 x1 o1 m1 n1 => ⟨?_, by rw [List.length_set]; exact h.lr, by rw [List.length_set]; exact h.lx, h.ld⟩⟩
  · intro g hg
    rw [show (endsL b gn gd n vl tot RS XS DS R).eraseIdx (3 + v) = Blk b [.slice (some ⟨gn, 0, none⟩) n n, .slice (some ⟨gd, 0, none⟩) n n, vl, .int .i64 tot] 169 :: Blk gn RS 51 :: Blk gd (i64s DS) 2 :: (rowsP RS XS ++ R).eraseIdx v by unfold endsL; rw [Nat.add_comm 3 v]; rfl] at hp
    obtain ⟨F, ⟨_, F0, F00, rfl, ⟨_, rfl⟩, ⟨_, F1, F2, rfl, ⟨_, rfl⟩, ⟨_, F3, F4, rfl, ⟨_, rfl⟩, ⟨_, F5, F6, rfl, ⟨_, rfl⟩, _, _⟩, d2⟩, d1⟩, d0⟩, _⟩ := hp.out
    have a1 := d0 g (by rw [hg]; simp)
    simp only [List.mem_append, List.mem_singleton, not_or] at a1
    exact ⟨a1.1, a1.2.1, a1.2.2.1⟩
  have hg := (hp.grow o1 m1 n1).putBack hi
  have e2 : (endsL b gn gd n vl tot RS XS DS R).set (3 + v) (Row 3 1 x1.length (.slice a1 x1.length c1) (i64s x1)) = Blk b [.slice (some ⟨gn, 0, none⟩) n n, .slice (some ⟨gd, 0, none⟩) n n, vl, .int .i64 tot] 169 :: Blk gn RS 51 :: Blk gd (i64s DS) 2 :: (rowsP (RS.set v (.slice a1 x1.length c1)) (XS.set v x1) ++ R) := by
    unfold endsL
    rw [Nat.add_comm 3 v]
    simp only [List.set_cons_succ]
    rw [List.set_append_left _ _ (by unfold rowsP; simp only [List.length_zipWith]; omega), rowsP_set]
  rw [e2] at hg
  exact (hg.swap.set v (.slice a1 x1.length c1)).swap
theorem ESt.deg {w0 w : World} {b gn gd n : Nat} {vl : Value} {tot : Int} {RS : List Value} {XS : List (List Int)} {DS : List Int} {R : List Part} (h : ESt w0 w b gn gd n vl tot RS XS DS R) (v : Nat) (x : Int) :
    ESt w0 (w.setCell ⟨gd, v, none⟩ (.int .i64 x)) b gn gd n vl tot RS XS (DS.set v x) R := by
  refine ⟨?_, h.lr, h.lx, by rw [List.length_set]; exact h.ld⟩
  have hi : 2 < (endsL b gn gd n vl tot RS XS DS R).length := by unfold endsL; simp
  have h1 : Sep w0 w (Blk gd (i64s DS) 2 :: (endsL b gn gd n vl tot RS XS DS R).eraseIdx 2) := h.sep.pick 2 hi
  have h2 := (h1.set v (.int .i64 x)).putBack hi
  rw [i64s_set] at h2
  exact h2
theorem ESt.total {w0 w : World} {b gn gd n : Nat} {vl : Value} {tot : Int} {RS : List Value} {XS : List (List Int)} {DS : List Int} {R : List Part} (h : ESt w0 w b gn gd n vl tot RS XS DS R) (x : Int) :
    ESt w0 (w.setCell ⟨b, 3, none⟩ (.int .i64 x)) b gn gd n vl x RS XS DS R := ⟨h.sep.set 3 (.int .i64 x), h.lr, h.lx, h.ld⟩
/-- What the walk reads of it. -/
theorem ESt.cells {w0 w : World} {b gn gd n : Nat} {vl : Value} {tot : Int} {RS : List Value} {XS : List (List Int)} {DS : List Int} {R : List Part} (h : ESt w0 w b gn gd n vl tot RS XS DS R) :
    Has w b [.slice (some ⟨gn, 0, none⟩) n n, .slice (some ⟨gd, 0, none⟩) n n, vl, .int .i64 tot] 169 ∧ Has w gn RS 51 ∧ Has w gd (i64s DS) 2 ∧ b ≠ gn ∧ b ≠ gd ∧ gn ≠ gd := by
  have hi : 2 < (endsL b gn gd n vl tot RS XS DS R).length := by unfold endsL; simp
  have h1 : Sep w0 w (Blk gd (i64s DS) 2 :: (endsL b gn gd n vl tot RS XS DS R).eraseIdx 2) := h.sep.pick 2 hi
  refine ⟨h.sep.blk, h.sep.swap.blk, h1.blk, ?_⟩
  obtain ⟨F, ⟨_, F1, F2, rfl, ⟨_, rfl⟩, ⟨_, F3, F4, rfl, ⟨_, rfl⟩, ⟨_, F5, F6, rfl, ⟨_, rfl⟩, _, _⟩, d2⟩, d1⟩, _⟩ := h.sep.out
  have a1 := d1 b (by simp)
  have a2 := d2 gn (by simp)
  simp only [List.mem_append, List.mem_singleton, not_or] at a1 a2
  exact ⟨a1.1, a1.2.1, a2.1⟩
theorem endsL_rest {b gn gd n : Nat} {vl : Value} {tot : Int} {RS : List Value} {XS : List (List Int)} {DS : List Int} {P : Part} {R : List Part} : (P :: endsL b gn gd n vl tot RS XS DS R).Perm (endsL b gn gd n vl tot RS XS DS (P :: R)) := by
  unfold endsL
  refine (List.Perm.swap _ _ _).trans (List.Perm.cons _ ((List.Perm.swap _ _ _).trans (List.Perm.cons _ ((List.Perm.swap _ _ _).trans (List.Perm.cons _ ?_)))))
  exact List.perm_middle.symm
theorem ESt.box {w0 w : World} {b gn gd n : Nat} {vl : Value} {tot : Int} {RS : List Value} {XS : List (List Int)} {DS : List Int} {R : List Part} (h : ESt w0 w b gn gd n vl tot RS XS DS R) (cs : List Value) (t : TypeId) : ESt w0 (w.alloc (.cells cs.toArray t)) b gn gd n vl tot RS XS DS (Blk w.heap.size cs t :: R) :=
  ⟨(h.sep.box cs t).perm endsL_rest, h.lr, h.lx, h.ld⟩
theorem ESt.unbox {w0 w : World} {b gn gd n : Nat} {vl : Value} {tot : Int} {RS : List Value} {XS : List (List Int)} {DS : List Int} {P : Part} {R : List Part} (h : ESt w0 w b gn gd n vl tot RS XS DS (P :: R)) : ESt w0 w b gn gd n vl tot RS XS DS R :=
  ⟨(h.sep.perm endsL_rest.symm).tail, h.lr, h.lx, h.ld⟩
theorem ESt.fst {w0 w : World} {b gn gd n : Nat} {vl : Value} {tot : Int} {RS : List Value} {XS : List (List Int)} {DS : List Int} {B : Nat} {cs : List Value} {t : TypeId} {R : List Part} (h : ESt w0 w b gn gd n vl tot RS XS DS (Blk B cs t :: R)) : Has w B cs t ∧ B ≠ b ∧ B ≠ gn ∧ B ≠ gd := by
  have h1 := h.sep.perm endsL_rest.symm
  refine ⟨h1.blk, ?_⟩
  obtain ⟨F, ⟨_, F0, F00, rfl, ⟨_, rfl⟩, ⟨_, F1, F2, rfl, ⟨_, rfl⟩, ⟨_, F3, F4, rfl, ⟨_, rfl⟩, ⟨_, F5, F6, rfl, ⟨_, rfl⟩, _, _⟩, d2⟩, d1⟩, d0⟩, _⟩ := h1.out
  have a1 := d0 B (by simp)
  simp only [List.mem_append, List.mem_singleton, not_or] at a1
  exact ⟨a1.1, a1.2.1, a1.2.2.1⟩
/-! ### link -/
def XSk (X : List (List Int)) (u v : Int) : Nat → List (List Int)
  | 0 => X
  | 1 => X.set u.toNat (X.getD u.toNat [] ++ [v])
  | _ => (X.set u.toNat (X.getD u.toNat [] ++ [v])).set v.toNat ((X.set u.toNat (X.getD u.toNat [] ++ [v])).getD v.toNat [] ++ [u])
def DSk (D : List Int) (u v c : Int) : Nat → List Int
  | 0 => D
  | 1 => D.set u.toNat (D.getD u.toNat 0 + c)
  | _ => (D.set u.toNat (D.getD u.toNat 0 + c)).set v.toNat ((D.set u.toNat (D.getD u.toNat 0 + c)).getD v.toNat 0 + c)
set_option maxRecDepth 100000 in
set_option maxHeartbeats 4000000 in
theorem link_any {w0 w : World} {b gn gd n : Nat} {vl : Value} {tot : Int} {RS : List Value} {XS : List (List Int)} {DS : List Int} {R : List Part} (h : ESt w0 w b gn gd n vl tot RS XS DS R) (hn : n ≤ 4096) (u v c : Int) (hu : 0 ≤ u ∧ u < n) (hv : 0 ≤ v ∧ v < n) (huv : u ≠ v) (hc : 0 ≤ c ∧ c ≤ 4503599627370496)
    (hX : ∀ x ∈ XS, x.length ≤ 4194304) (hD : ∀ x ∈ DS, 0 ≤ x ∧ x ≤ 4503599627370496) :
    Calls Tryz.prog 102 #[.pointer (some ⟨b, 0, none⟩), .agg #[.int .i64 u, .int .i64 v, .int .i64 c]] w fun e w' => e = .returned (.tuple #[]) ∧ ∃ RS', ESt w0 w' b gn gd n vl tot RS' (XSk XS u v 2) (DSk DS u v c 2) R := by
  have hix : ∀ k : Nat, k < 2 → ∃ (p0 p1 : Int), (∀ w : World, (Instr.index 245 (.agg #[.int .i64 u, .int .i64 v, .int .i64 v, .int .i64 u]) (.int .i64 (k : Int))).run Tryz.prog w = .ok (.agg #[.int .i64 p0, .int .i64 p1]) w) ∧ 0 ≤ p0 ∧ p0 < n ∧ XSk XS u v (k + 1) = (XSk XS u v k).set p0.toNat ((XSk XS u v k).getD p0.toNat [] ++ [p1]) ∧ DSk DS u v c (k + 1) = (DSk DS u v c k).set p0.toNat ((DSk DS u v c k).getD p0.toNat 0 + c) := by
    intro k hk
    rcases (show k = 0 ∨ k = 1 by omega) with rfl | rfl
    · exact ⟨u, v, fun _ => by kernel_rfl, hu.1, hu.2, rfl, rfl⟩
    · exact ⟨v, u, fun _ => by kernel_rfl, hv.1, hv.2, rfl, rfl⟩
  have hXk : ∀ k : Nat, k < 2 → ∀ x ∈ XSk XS u v k, x.length ≤ 4194305 := by
    intro k hk x hx
    rcases (show k = 0 ∨ k = 1 by omega) with rfl | rfl
    · have := hX x hx; omega
    · rcases List.mem_or_eq_of_mem_set hx with hx | rfl
      · have := hX x hx; omega
      · have : (XS.getD u.toNat []).length ≤ 4194304 := by
          rw [List.getD_eq_getElem?_getD]
          cases hg : XS[u.toNat]? with
          | none => simp
          | some y => exact hX y (List.mem_of_getElem? hg)
        simp only [List.length_append, List.length_cons, List.length_nil]; omega
  have hDk : ∀ k : Nat, k < 2 → ∀ x ∈ DSk DS u v c k, 0 ≤ x ∧ x ≤ 9007199254740992 := by
    intro k hk x hx
    rcases (show k = 0 ∨ k = 1 by omega) with rfl | rfl
    · have := hD x hx; omega
    · rcases List.mem_or_eq_of_mem_set hx with hx | rfl
      · have := hD x hx; omega
      · have : 0 ≤ DS.getD u.toNat 0 ∧ DS.getD u.toNat 0 ≤ 4503599627370496 := by
          rw [List.getD_eq_getElem?_getD]
          cases hg : DS[u.toNat]? with
          | none => simp
          | some y => exact hD y (List.mem_of_getElem? hg)
        omega
  have hix' := Lib.hid hix
  have hXk' := Lib.hid hXk
  have hDk' := Lib.hid hDk
  have hst : Hid (∃ RS', ESt w0 (w.alloc (.cells #[.int .i64 u, .int .i64 v, .int .i64 c] 146)) b gn gd n vl tot RS' (XSk XS u v 0) (DSk DS u v c 0) (Blk w.heap.size [.int .i64 u, .int .i64 v, .int .i64 c] 146 :: R)) := Lib.hid ⟨RS, h.box [.int .i64 u, .int .i64 v, .int .i64 c] 146⟩
  clear h hix hXk hDk hX hD hu hv
  go_enter Tryz.func102, Tryz.ntmps102
  go_wp2_with fail
  generalize w.alloc _ = w1 at *
  generalize w.heap.size = B at *
  go_loopw [17] (fun i wr => ∃ k : Nat, k ≤ 2 ∧ i = .int .i64 k ∧ Hid (∃ RS', ESt w0 wr b gn gd n vl tot RS' (XSk XS u v k) (DSk DS u v c k) (Blk B [.int .i64 u, .int .i64 v, .int .i64 c] 146 :: R))) (fun i _ => 2 - (intOf i).toNat)
  case atStart => exact ⟨0, by omega, rfl, hst⟩
  case round =>
    clear hst
    obtain ⟨k, hk, rfl, hst⟩ := hrel
    by_cases hlt : k < 2
    · have hlt1 : (k : Int) < 2 := by omega
      obtain ⟨p0, p1, hidx, h0, h1, eX, eD⟩ := hix'.out k hlt
      obtain ⟨RS', hE⟩ := hst.out
      have hbx := hXk'.out k hlt
      have hbd := hDk'.out k hlt
      have eX' := Lib.hid eX
      have eD' := Lib.hid eD
      clear eX eD hst
      generalize XSk XS u v k = X1 at *
      generalize DSk DS u v c k = D1 at *
      have hE1 := hE.box [.int .i64 p0, .int .i64 p1] 109
      obtain ⟨kb, kgn, kgd, n1, n2, n3⟩ := hE1.cells
      obtain ⟨kp, m1, m2, m3⟩ := hE1.fst
      obtain ⟨a, cc, x, r1, r2, hrow, hne, hgo⟩ := (hE1.still (Mod.refl [] _).drew).row (v := p0.toNat) (by omega)
      have hpb : ∀ g, (Value.slice a x.length cc).ownBlock = some g → g ≠ wr.heap.size := by
        intro g hg
        obtain ⟨a', c', x', s1, s2, hrow', _, _⟩ := hE.row (v := p0.toNat) (by omega)
        rw [r1] at s1
        simp only [Option.some.injEq] at s1
        rw [s1] at hg
        have := own_lt hrow' hg
        omega
      have hpb' := Lib.hid hpb
      clear hpb
      have hx1 := hbx x (List.mem_of_getElem? r2)
      have hd1 : D1[p0.toNat]? = some (D1.getD p0.toNat 0) := by
        have := hE1.ld
        rw [List.getD_eq_getElem?_getD, List.getElem?_eq_getElem (by omega)]; rfl
      have hd2 := hbd _ (List.mem_of_getElem? hd1)
      generalize hW1 : wr.alloc (.cells [.int .i64 p0, .int .i64 p1].toArray 109) = W1 at *
      have hW1' := Lib.hid hW1
      have lb := kb.lt
      have lgn := kgn.lt
      have lp := kp.lt
      have b0 := kb.cell 0 rfl
      have g0 := kgn.cell p0.toNat r1
      have q0 := kp.cell 0 rfl
      have q1 := kp.cell 1 rfl
      have y1 : ∀ (o : Obj), (W1.drew.alloc o).cell? ⟨gn, p0.toNat, none⟩ = some (.slice a x.length cc) := fun o => (kgn.drew.alloc o).cell p0.toNat r1
      have hrow' := Lib.hid hrow
      have hgo' := Lib.hid hgo
      have hkgn := Lib.hid kgn
      have hkb := Lib.hid kb
      have hkp := Lib.hid kp
      have hne' := Lib.hid hne
      have r1' := Lib.hid r1
      have r2' := Lib.hid r2
      have hd1' := Lib.hid hd1
      clear hE hE1 kb kgn kgd kp hrow hgo hW1 hbx hbd r1 r2 hd1 hne
      go_upto_region 4 with fail
      rw [hW1'.out]
      clear hW1'
      generalize wr.heap.size = PB at *
      obtain ⟨F, hF⟩ : ∃ F, F = gn :: (Value.slice a x.length cc).ownBlock.toList := ⟨_, rfl⟩
      have hbF : b ∉ F := by
        rw [hF, List.mem_cons, Option.mem_toList, not_or]
        exact ⟨n1, fun hh => (hne'.out b hh).1 rfl⟩
      have hpF : PB ∉ F := by
        rw [hF, List.mem_cons, Option.mem_toList, not_or]
        exact ⟨m2, fun hh => hpb'.out PB hh rfl⟩
      have fb : ∀ m : Fut (Mod F) W1.drew, m.v.cell? ⟨b, 0, none⟩ = some (.slice (some ⟨gn, 0, none⟩) n n) := fun m => (hkb.out.drew.keep m.of hbF).cell 0 rfl
      have fp : ∀ m : Fut (Mod F) W1.drew, m.v.cell? ⟨PB, 0, none⟩ = some (.int .i64 p0) := fun m => (hkp.out.drew.keep m.of hpF).cell 0 rfl
      have fp1 : ∀ m : Fut (Mod F) W1.drew, m.v.cell? ⟨PB, 1, none⟩ = some (.int .i64 p1) := fun m => (hkp.out.drew.keep m.of hpF).cell 1 rfl
      have hF' := Lib.hid hF
      clear hF hbF hpF
      refine region_head (G := Mod F) [0, 1, 2, 3, 4, 5, 6, 7, 8, 9, 10, 11, 12, 14, 15] #[true, true, true, true, true, true, true, true, true, true, true, true, true, false, true, true, false, false, false, false] 5 (by kernel_rfl) (by kernel_rfl) (by kernel_rfl) rfl (Mod.refl F) ?_
      simp only [pickO, nthO, List.cons_append, List.nil_append]
      repeat (go_big_quiet_step (fail))
      refine wpQuiet_nil ?_
      clear fb fp fp1
      refine tail_two 13 16 (by kernel_rfl) rfl rfl ?_ ?_
      case' refine_1 =>
        intro K hK
        rw [if_pos (by rfl)]
        go_simp
        refine hK.out _ _ (Mod.refl _ _) ?_
        clear hK K
        refine tail_one 16 (by kernel_rfl) rfl ?_
        intro K hK
        rw [if_pos (by rfl)]
        go_simp
        refine hK.out _ _ ((Mod.refl _ _).alloc _) ?_
        clear hK K
      case' refine_2 =>
        intro K hK
        rw [if_pos (by rfl)]
        go_simp
        refine hK.out _ _ ((Mod.refl _ _).alloc _) ?_
        clear hK K
        refine tail_one 13 (by kernel_rfl) rfl ?_
        intro K hK
        rw [if_pos (by rfl)]
        go_simp
        refine hK.out _ _ ((Mod.refl _ _).alloc _) ?_
        clear hK K
      all_goals
        refine tail_one 17 (by kernel_rfl) rfl ?_
        intro K hK
        refine step_appS (W := W1.drew) rfl (.tmp 33) (.tmp 36) 51 3 _ 1 8 rfl Tryz.underlying51 infoInt rfl (by omega) (by omega) (.slice a x.length cc) x.length 1 (i64s x) [.int .i64 p1] rfl rfl rfl rfl (by simp [Value.oneCell']) hrow'.out (by omega) ?_
        intro a1 c1 w2 hown hm hv
        have hmF : Mod F W1.drew w2 := hm.mono (fun g hg => by rw [hF'.out]; exact List.mem_cons_of_mem _ hg)
        refine hK.out _ _ hmF ?_
        clear hK K
        have hg2 := hkgn.out.drew.keep hm (fun hh => (hne'.out gn (by simpa using hh)).2.1 rfl)
        have gc := hg2.cell p0.toNat r1'.out
        have gz := hg2.free p0.toNat
        have gl := hg2.lt
        have hE20 := hgo'.out w2 a1 c1 (x ++ [p1]) (by rw [i64s_append, List.length_append]; exact hown) hm (by rw [List.length_append]; exact hv)
        rw [show (x ++ [p1]).length = x.length + 1 by simp] at hE20
        have hE2 := Lib.hid hE20
        clear hE20
        clear hg2 hown hm hv
        have hmF' := Lib.hid hmF
        clear hmF
        refine tail_one 18 (by kernel_rfl) rfl ?_
        intro K hK
        rw [if_pos (by rfl)]
        go_simp
        refine hK.out _ _ hmF'.out ?_
        clear hK K
        refine tail_one 19 (by kernel_rfl) rfl ?_
        intro K hK
        rw [if_pos (by rfl)]
        go_simp
        refine hK.out _ _ (hmF'.out.setCell _ _ (fun _ => by rw [hF'.out]; simp)) ?_
        clear hK K
        refine tail_done (by kernel_rfl) ?_
        clear hmF' gc gz gl y1 b0 g0 q0 q1 lb lgn lp
        generalize w2.setCell ⟨gn, p0.toNat, none⟩ (.slice a1 (x.length + 1) c1) = w3 at *
        obtain ⟨kb, kgn2, kgd, _, _, _⟩ := hE2.out.cells
        have kp := hE2.out.fst.1
        have kB := hE2.out.unbox.fst.1
        have kd := kgd.cell p0.toNat (v := .int .i64 (D1.getD p0.toNat 0)) (by unfold i64s; rw [List.getElem?_map, hd1'.out]; rfl)
        have b1 := kb.cell 1 rfl
        have p0c := kp.cell 0 rfl
        have Bc := kB.cell 2 rfl
        have zd := kgd.free p0.toNat
        have lb := kb.lt
        have ld := kgd.lt
        have lp := kp.lt
        have lB := kB.lt
        clear kb kgn2 kgd kp kB hkgn hkb hkp hne' r1' hrow' hgo' hpb' hF'
        obtain ⟨dv, hdv⟩ : ∃ dv, D1.getD p0.toNat 0 = dv := ⟨_, rfl⟩
        rw [hdv] at kd hd2
        have hdv' := Lib.hid hdv
        have hc0 := hc.1
        have hc1 := hc.2
        have hd20 := hd2.1
        have hd21 := hd2.2
        clear hdv
        go_wp2_with fail
        go_still_tail 12, (by kernel_rfl)
        go_wp2_with fail
        go_roundw
        case rel => exact ⟨k + 1, by omega, by go_num, Lib.hid (by
          rw [eX'.out, eD'.out, hdv'.out, show X1.getD p0.toNat [] = x by rw [List.getD_eq_getElem?_getD, r2'.out]; rfl]
          exact ⟨_, ((hE2.out.deg p0.toNat (dv + c)).unbox.still (Mod.refl [] _).drew)⟩)⟩
        case measure => simp [intOf]; omega
    · have hk2 : k = 2 := by omega
      subst hk2
      obtain ⟨RS', hE⟩ := hst.out
      have hE' := Lib.hid hE.unbox
      clear hst hE
      go_wp2_with fail
      exact bodyPost_end (v := .tuple #[]) (by simp [results, Tryz.results102, go_sem]) rfl ⟨rfl, RS', hE'.out⟩
end Edge
end Go.Proofs.YtjpfmkfikidgkaaGreat

set_option linter.unusedVariables false
set_option linter.unusedSimpArgs false
namespace Go.Proofs.YtjpfmkfikidgkaaGreat
open Go.RowKit
namespace PairMap
open Go.Maps (Keyed IsMap)
theorem laid : laidOutB Tryz.prog = true := by kernel_rfl
theorem keyed : Keyed Tryz.prog 109 := Keyed.of_law (deep_law_laid laid (m := 2) (by omega) (of_decide_eq_true (by kernel_rfl)) (by kernel_rfl) (by kernel_rfl))
def pl (a b : Int) : Lit := .string (keyBytes [.int .i64 a, .int .i64 b])
def fits (k : Int × Int) : Prop := 0 ≤ k.1 ∧ k.1 < 4611686018427387904 ∧ 0 ≤ k.2 ∧ k.2 < 4611686018427387904
theorem wf_i64 {a : Int} (h : 0 ≤ a) (h2 : a < 9223372036854775808) : (Lit.int .i64 a).wf = true := by
  simp [Lit.wf, IntKind.min, IntKind.max, IntKind.bits, IntKind.signed]
  omega
theorem key_pl {a b : Int} (h : fits (a, b)) : keyOf Tryz.prog 109 (.agg #[.int .i64 a, .int .i64 b]) = some (pl a b) := by
  obtain ⟨h1, h2, h3, h4⟩ := h
  simp only at h1 h2 h3 h4
  exact WideMaps.keyOf_pair (e := 3) (q := .i64) ⟨by kernel_rfl, by kernel_rfl, by kernel_rfl, by kernel_rfl⟩ (by kernel_rfl) ⟨Tryz.prog.types.size - 1, of_decide_eq_true (by kernel_rfl)⟩ (wf_i64 h1 (by omega)) (wf_i64 h3 (by omega))
theorem pl_inj {k k' : Int × Int} (h : fits k) (h' : fits k') (e : pl k.1 k.2 = pl k'.1 k'.2) : k = k' := by
  have h1 := key_pl h
  have h2 := key_pl h'
  rw [e] at h1
  have := keyed.inj h1 h2
  simp only [Value.agg.injEq, Array.mk.injEq, List.cons.injEq, Value.int.injEq, true_and, and_true] at this
  exact Prod.ext this.1 this.2
/-- Block b is a map of at most n entries that answers f. -/
def Is (w : World) (b n : Nat) (f : Int × Int → Option Int) : Prop :=
  ∃ D : DataW Unit, w.ownsMap Tryz.prog 109 (plainElem Tryz.prog 3) b n D ∧ IsMap D ∧ ∀ k, fits k → (f k = none ∧ ∀ z, D.atKey (pl k.1 k.2) z = z) ∨ (∃ c, f k = some c ∧ ∀ z, D.atKey (pl k.1 k.2) z = .lit (.int .i64 c))
theorem Is.lt {w : World} {b n : Nat} {f : Int × Int → Option Int} (h : Is w b n f) : b < w.heap.size := by
  obtain ⟨D, h, _⟩ := h
  exact h.lt
theorem Is.keep {w w' : World} {F : List Nat} {b n : Nat} {f : Int × Int → Option Int} (h : Is w b n f) (m : Mod F w w') (hb : b ∉ F) : Is w' b n f := by
  have hlt := h.lt
  obtain ⟨D, ⟨es, clock, h1, h2⟩, h3⟩ := h
  exact ⟨D, ⟨es, clock, (m.block b hlt hb).trans h1, h2⟩, h3⟩
theorem Is.made (w : World) : Is (w.alloc (.map #[] 0)) w.heap.size 0 (fun _ => none) :=
  ⟨_, World.ownsMap_made w Tryz.prog _ _, Maps.isMap_empty, fun k _ => .inl ⟨rfl, fun z => rfl⟩⟩
theorem Is.look {w : World} {b n : Nat} {f : Int × Int → Option Int} (h : Is w b n f) {k : Int × Int} (hk : fits k) :
    (Instr.lookup 227 (.map (some b)) (.agg #[.int .i64 k.1, .int .i64 k.2]) true).run Tryz.prog w = .ok (.tuple #[.int .i64 ((f k).getD 0), .bool (f k).isSome]) w := by
  obtain ⟨D, ⟨es, clock, hb, F, _, rfl⟩, _, hf⟩ := h
  rcases Maps.fit_look true keyed (e := 3) (t := 227) (by kernel_rfl) (Tryz.zeroValue3 w) hb F (key_pl hk) with ⟨hrun, _, hat⟩ | ⟨e0, y, _, _, hrun, hRv, hat, _⟩
  · have e : f k = none := by
      rcases hf k hk with ⟨h1, _⟩ | ⟨c, _, h2⟩
      · exact h1
      · have := (hat .nil).symm.trans (h2 .nil)
        cases this
    rw [hrun, e]
    rfl
  · obtain ⟨c, hc, hy, _⟩ := plainElem_int_inv (q := .i64) (by kernel_rfl) hRv
    have e : f k = some c := by
      rcases hf k hk with ⟨_, h2⟩ | ⟨c', h1, h2⟩
      · have := (hat .nil).symm.trans (h2 .nil)
        rw [hy] at this
        cases this
      · have := (hat .nil).symm.trans (h2 .nil)
        rw [hy] at this
        simp only [DataW.lit.injEq, Lit.int.injEq, true_and] at this
        rw [h1, this]
    rw [hrun, e, hc]
    rfl
def upd (f : Int × Int → Option Int) (k : Int × Int) (v : Int) : Int × Int → Option Int := fun k' => if k' = k then some v else f k'
theorem Is.put {w : World} {b n : Nat} {f : Int × Int → Option Int} (h : Is w b n f) (hn : n ≤ 1000000000) {k : Int × Int} (hk : fits k) {v : Int} (hv0 : 0 ≤ v) (hv1 : v < 9223372036854775808) :
    ∃ w', (Instr.mapUpdate 227 (.map (some b)) (.agg #[.int .i64 k.1, .int .i64 k.2]) (.int .i64 v)).run Tryz.prog w = .ok () w' ∧ Is w' b (n + 1) (upd f k v) ∧ Mod [b] w w' := by
  obtain ⟨D, hown, hm, hf⟩ := h
  obtain ⟨w', hrun, h1, h2⟩ := hown.update keyed (e := 3) (t := 227) (by kernel_rfl) (by simp only [maxLen]; omega) (key_pl hk) (plainElem_int (q := .i64) (by kernel_rfl) (wf_i64 hv0 hv1))
  refine ⟨w', hrun, ⟨_, h1, hm.put _ _, fun k' hk' => ?_⟩, (Mod.refl [b] w).grown h2 (fun g hg _ => by simp only [Option.some.injEq] at hg; simp [hg])⟩
  unfold upd
  by_cases e : k' = k
  · subst e
    rw [if_pos rfl]
    exact .inr ⟨v, rfl, fun z => Maps.atKey_put_same hm (keyed.key (key_pl hk)) _ z⟩
  · rw [if_neg e]
    have hne : pl k'.1 k'.2 ≠ pl k.1 k.2 := fun hh => e (pl_inj hk' hk hh)
    rcases hf k' hk' with ⟨a1, a2⟩ | ⟨c, a1, a2⟩
    · exact .inl ⟨a1, fun z => by rw [Maps.atKey_put_other hne]; exact a2 z⟩
    · exact .inr ⟨c, a1, fun z => by rw [Maps.atKey_put_other hne]; exact a2 z⟩
/-- A map as an object. -/
def MapP (b n : Nat) (f : Int × Int → Option Int) : Part := fun w F => Is w b n f ∧ F = [b]
instance (b n : Nat) (f : Int × Int → Option Int) : Good (MapP b n f) where
  lt h b' hb := by obtain ⟨h, rfl⟩ := h; rw [List.mem_singleton.1 hb]; exact h.lt
  keep h m hd := ⟨h.1.keep m (hd _ (by rw [h.2]; simp)), h.2⟩
section
variable {ops : Array Oper} {rest : List Oper} {o : Oper} {a : Act} {Q : Exit → Act → World → Prop}
theorem wpList_put {w0 w : World} {L : List Part} (hg : o.guard = none) (m x v : Operand) (hop : o.op = Op.mapUpdate 227 m x v) (b n : Nat) (f : Int × Int → Option Int) (k : Int × Int) (V : Int) (hm : a.eval m = .map (some b)) (hx : a.eval x = .agg #[.int .i64 k.1, .int .i64 k.2]) (hv : a.eval v = .int .i64 V)
    (h : Sep w0 w (MapP b n f :: L)) (hn : n ≤ 1000000000) (hk : fits k) (hv0 : 0 ≤ V) (hv1 : V < 9223372036854775808)
    (hK : ∀ w', Sep w0 w' (MapP b (n + 1) (upd f k V) :: L) → wpList Tryz.prog ops Q rest (a.put o.dst undef) w') :
    wpList Tryz.prog ops Q (o :: rest) a w := by
  refine wpList_plain hg fun K' hK' => ?_
  obtain ⟨F, ⟨h1, rfl⟩, _, h3⟩ := h.first
  obtain ⟨w', hrun, r1, r2⟩ := h1.put hn hk hv0 hv1
  unfold Oper.wp
  simp [execOp, hop, hm, hx, hv, hrun, Result.andThen]
  exact hK' _ _ (hK w' (h3 _ w' [b] ⟨r1, rfl⟩ r2 (by simp)))
end
end PairMap
end Go.Proofs.YtjpfmkfikidgkaaGreat

set_option linter.unusedVariables false
set_option linter.unusedSimpArgs false
namespace Go.Proofs.YtjpfmkfikidgkaaGreat
open Go.RowKit
namespace Edge
theorem zero_any (e : Ed) (w : World) : Calls Tryz.prog 170 #[edV e] w fun en w' => en = .returned (.bool (e.2.2 == 0)) ∧ Mod [] w w' := by
  obtain ⟨u, v, c⟩ := e
  unfold edV
  go_enter Tryz.func170, Tryz.ntmps170
  go_wp2_with fail
  go_ret
  exact ⟨rfl, (Mod.refl [] w).alloc _⟩
/-- The place of the first one that weighs nothing. -/
def firstZ : Nat → List Ed → Int
  | _, [] => -1
  | i, e :: l => if e.2.2 = 0 then i else firstZ (i + 1) l
theorem firstZ_none : ∀ {l : List Ed} {i : Nat}, firstZ i l = -1 → heavy l = l
  | [], _, _ => rfl
  | e :: l, i, h => by
    unfold firstZ at h
    by_cases c : e.2.2 = 0
    · rw [if_pos c] at h; omega
    · rw [if_neg c] at h
      have := firstZ_none h
      unfold heavy at this ⊢
      rw [List.filter_cons, if_pos (by simpa using c), this]
theorem firstZ_some : ∀ {l : List Ed} {i : Nat}, firstZ i l ≠ -1 → ∃ (j : Nat) (hj : j < l.length), firstZ i l = ((i + j : Nat) : Int) ∧ l[j].2.2 = 0 ∧ heavy (l.take j) = l.take j
  | [], _, h => absurd rfl h
  | e :: l, i, h => by
    unfold firstZ at h ⊢
    by_cases c : e.2.2 = 0
    · rw [if_pos c]
      exact ⟨0, by simp, by omega, c, rfl⟩
    · rw [if_neg c] at h ⊢
      obtain ⟨j, hj, h1, h2, h3⟩ := firstZ_some h
      refine ⟨j + 1, by simp; omega, by rw [h1]; omega, h2, ?_⟩
      rw [List.take_succ_cons]
      unfold heavy at h3 ⊢
      rw [List.filter_cons, if_pos (by simpa using c), h3]
set_option maxRecDepth 100000 in
set_option maxHeartbeats 1000000 in
theorem index_any {l : List Ed} {v : Value} {w : World} (h : Rd w 3 v l.length (flat encEd l)) :
    Calls Tryz.prog 219 #[v, .func (.func 170) #[] #[]] w fun en w' => en = .returned (.int .i64 (firstZ 0 l)) ∧ Mod [] w w' := by
  obtain ⟨a, c, rfl⟩ := h.val
  have hle := h.le
  have h' := Lib.hid h
  obtain ⟨r, hr⟩ : ∃ r, firstZ 0 l = r := ⟨_, rfl⟩
  rw [hr]
  have hr' := Lib.hid hr
  obtain ⟨m, hm⟩ : ∃ m, l.length = m := ⟨_, rfl⟩
  rw [hm]
  have hm' := Lib.hid hm
  rw [hm] at hle
  clear h hr hm
  go_enter Tryz.func219, Tryz.ntmps219
  go_wp2_with fail
  go_loopw [8] (fun i wr => ∃ k : Nat, k ≤ m ∧ i = .int .i64 k ∧ Hid (firstZ k (l.drop k) = r) ∧ Hid (Mod [] w wr)) (fun i _ => m - (intOf i).toNat)
  case atStart => exact ⟨0, Nat.zero_le _, rfl, hr', Lib.hid (Mod.refl _ _)⟩
  case round =>
    clear hr'
    obtain ⟨k, hk, rfl, hc, hmod⟩ := hrel
    by_cases hlt : k < m
    · have hlt1 : (k : Int) < m := by omega
      have hkl : k < l.length := by rw [hm'.out]; exact hlt
      obtain ⟨g, o, rfl, hg, hcell⟩ := ed_cells h'.out hkl
      obtain ⟨q0, q1, q2⟩ := hcell _ hmod.out
      have hgl : g < wr.heap.size := Nat.lt_of_lt_of_le hg hmod.out.size
      have hd : l.drop k = l[k] :: l.drop (k + 1) := List.drop_eq_getElem_cons hkl
      rw [hd] at hc
      generalize l[k] = e at *
      obtain ⟨eu, ev, ec⟩ := e
      simp only at q0 q1 q2
      have hz := fun W => zero_any (eu, ev, ec) W
      unfold edV at hz
      simp only at hz
      have hc2 : Hid ((ec ≠ 0 ∧ firstZ (k + 1) (l.drop (k + 1)) = r) ∨ (ec = 0 ∧ r = k)) := by
        have := hc.out
        unfold firstZ at this
        by_cases h0 : ec = 0
        · rw [if_pos h0] at this; exact Lib.hid (.inr ⟨h0, this.symm⟩)
        · rw [if_neg h0] at this; exact Lib.hid (.inl ⟨h0, this⟩)
      clear hc hd hcell hkl
      rcases hc2.out with ⟨hne, hc3⟩ | ⟨rfl, rfl⟩
      · have hne1 : (ec == 0) = false := by simpa using hne
        rw [hne1] at hz
        have hz' := Lib.hid hz
        have hc3' := Lib.hid hc3
        clear hc2 hc3 hne hne1 hz
        go_wp2_with fail
        refine (hz'.out _).mono ?_
        rintro e w1 ⟨rfl, hm1⟩
        try dsimp only
        have hm2 := Lib.hid (hmod.out.trans hm1 (by simp))
        clear hm1
        go_wp2_with fail
        go_roundw
        case rel => exact ⟨k + 1, by omega, by go_num, hc3', hm2⟩
        case measure => simp [intOf]; omega
      · have hz' := Lib.hid hz
        clear hc2 hz
        go_wp2_with fail
        refine (hz'.out _).mono ?_
        rintro e w1 ⟨rfl, hm1⟩
        try dsimp only
        have hm2 := Lib.hid (hmod.out.trans hm1 (by simp))
        clear hm1
        go_wp2_with fail
        go_ret
        exact ⟨rfl, hm2.out⟩
    · have hkm : k = m := by omega
      subst hkm
      have hd : l.drop k = [] := by rw [← hm'.out]; exact List.drop_length
      rw [hd] at hc
      have hc2 : -1 = r := hc.out
      subst hc2
      clear hd hc
      go_wp2_with fail
      go_ret
      exact ⟨rfl, hmod.out⟩
/-! ### what is left of a row -/
theorem sep_shrink {w0 w : World} {e size n g c : Nat} {xs : List Value} {L : List Part} (h : Sep w0 w (Row e size n (.slice (some ⟨g, 0, none⟩) n c) xs :: L)) {i : Nat} (hi : i ≤ n) :
    Sep w0 w (Row e size i (.slice (some ⟨g, 0, none⟩) i c) (xs.take (i * size)) :: L) := by
  obtain ⟨F, ⟨h1, rfl⟩, h2, h3⟩ := h.first
  refine h3 _ w _ ⟨?_, rfl⟩ (Mod.refl _ _) (fun b hb => .inl hb)
  obtain ⟨hl, h1⟩ := h1
  have hle : i * size ≤ n * size := Nat.mul_le_mul_right _ hi
  refine ⟨by rw [List.length_take, hl]; omega, ?_⟩
  rcases h1 with ⟨he, _⟩ | ⟨g', cap, cur, he, a1, a2, a3, a4, a5, a6⟩
  · cases he
  · injection he with e1 e2 e3
    injection e1 with e1
    injection e1 with e1
    subst e1
    subst e3
    refine .inr ⟨g, c, cur, rfl, a1, a2, by omega, a4, a5, ?_⟩
    rw [← a6, List.take_take, Nat.min_eq_left hle]
theorem sep_beyond {w0 w : World} {e size n g c : Nat} {xs : List Value} {L : List Part} (h : Sep w0 w (Row e size n (.slice (some ⟨g, 0, none⟩) n c) xs :: L)) : ∀ (vs : List Value) (j : Nat) (w : World), Sep w0 w (Row e size n (.slice (some ⟨g, 0, none⟩) n c) xs :: L) → n * size ≤ j → Sep w0 (w.setCells g j vs) (Row e size n (.slice (some ⟨g, 0, none⟩) n c) xs :: L)
  | [], _, _, h, _ => h
  | v :: vs, j, w, h, hj => by
    have hx : xs.length = n * size := by have := h.row; exact this.1
    have h2 := h.rowset j v
    rw [List.set_eq_of_length_le (by omega)] at h2
    exact sep_beyond h2 vs (j + 1) _ h2 (by omega)
theorem flat_set3 {L : List Ed} {j : Nat} (hj : j < L.length) (x : Ed) : (((flat encEd L).set (j * 3) (.int .i64 x.1)).set (j * 3 + 1) (.int .i64 x.2.1)).set (j * 3 + 2) (.int .i64 x.2.2) = flat encEd (L.set j x) := by
  rw [flat_split L j hj, show j * 3 = j * 3 + 0 from rfl]
  have hl := flat_take_length (enc := encEd) (size := 3) encEd_len L j hj
  rw [mid_set _ _ _ (j * 3) 0 _ hl (by simp [encEd]), mid_set _ _ _ (j * 3) 1 _ hl (by simp [encEd]), mid_set _ _ _ (j * 3) 2 _ hl (by simp [encEd]), ← flat_mid L j hj]
  rfl
theorem flat_take {L : List Ed} {i : Nat} (hi : i ≤ L.length) : (flat encEd L).take (i * 3) = flat encEd (L.take i) := by
  have e : flat encEd L = flat encEd (L.take i) ++ flat encEd (L.drop i) := by rw [← flat_append, List.take_append_drop]
  rw [e, List.take_left' (by rw [flat_length encEd_len, List.length_take, Nat.min_eq_left hi])]
def zs (n : Nat) : List Value := (Builtin.zeroCells #[.int .i64 0, .int .i64 0, .int .i64 0] n).toList
theorem zs_len (n : Nat) : (zs n).length = n * 3 := by simp [zs, Builtin.zeroCells]
theorem zs_one (n : Nat) : ∀ u ∈ zs n, u.oneCell' = true := by
  intro u hu
  simp only [zs, Builtin.zeroCells, Array.toList_map, List.mem_map] at hu
  obtain ⟨i, _, rfl⟩ := hu
  have h : i % 3 < 3 := Nat.mod_lt _ (by omega)
  show (#[Value.int .i64 0, Value.int .i64 0, Value.int .i64 0][i % 3]!).oneCell' = true
  rcases (show i % 3 = 0 ∨ i % 3 = 1 ∨ i % 3 = 2 by omega) with e | e | e <;> rw [e] <;> rfl
theorem run_clear_ed (w : World) (ty : TypeId) (g o n c : Nat) (hn : 0 < n) (hc : ∀ j, j < n * 3 → (w.cell? ⟨g, o + j, none⟩).isSome = true) (hf : ∀ j, j < n * 3 → w.frozen? ⟨g, o + j, none⟩ = false) :
    (Builtin.clear_ #[22] ty #[.slice (some ⟨g, o, none⟩) n c]).run Tryz.prog w = .ok (.tuple #[]) (w.setCells g o (zs n)) := by
  have hst := run_storeCells_cells (P := Tryz.prog) g o (zs n) 0 w (by rw [zs_len]; simpa using hc) (by rw [zs_len]; simpa using hf) (zs_one n)
  simp only [Nat.add_zero] at hst
  have hv := Tryz.zeroValue146
  obtain ⟨m, rfl⟩ : ∃ m, n = m + 1 := ⟨n - 1, by omega⟩
  unfold zs at hst ⊢
  simp [Builtin.clear_, run_underlying Tryz.underlying22, hv, hst, Value.cells]
/-- What DeleteFunc has behind j edges: i are kept. -/
structure Kept (L D : List Ed) (i j : Nat) : Prop where
  len : D.length = L.length
  lt : i < j
  le : j ≤ L.length
  low : D.take i = heavy (L.take j)
  high : D.drop j = L.drop j
theorem Kept.start {L : List Ed} {j : Nat} (hj : j < L.length) (hz : L[j].2.2 = 0) (hh : heavy (L.take j) = L.take j) : Kept L L j (j + 1) :=
  ⟨rfl, by omega, by omega, by rw [List.take_succ_eq_append_getElem hj]; unfold heavy at hh ⊢; rw [List.filter_append, hh]; simp [hz], rfl⟩
theorem Kept.at {L D : List Ed} {i j : Nat} (h : Kept L D i j) (hj : j < L.length) : D[j]'(by rw [h.len]; exact hj) = L[j] := by
  have h1 := h.high
  rw [List.drop_eq_getElem_cons hj, List.drop_eq_getElem_cons (by rw [h.len]; exact hj)] at h1
  exact (List.cons.inj h1).1
theorem Kept.skip {L D : List Ed} {i j : Nat} (h : Kept L D i j) (hj : j < L.length) (hz : L[j].2.2 = 0) : Kept L D i (j + 1) := by
  refine ⟨h.len, by have := h.lt; omega, by omega, ?_, ?_⟩
  · rw [h.low, List.take_succ_eq_append_getElem hj]; unfold heavy; rw [List.filter_append]; simp [hz]
  · have := congrArg (List.drop 1) h.high
    simpa [List.drop_drop] using this
theorem Kept.keep {L D : List Ed} {i j : Nat} (h : Kept L D i j) (hj : j < L.length) (hz : L[j].2.2 ≠ 0) : Kept L (D.set i L[j]) (i + 1) (j + 1) := by
  have hlt := h.lt
  have hlen := h.len
  refine ⟨by rw [List.length_set]; exact h.len, by omega, by omega, ?_, ?_⟩
  · rw [List.take_succ_eq_append_getElem (by rw [List.length_set]; omega), List.getElem_set_self, List.take_set_of_le (Nat.le_refl _), h.low, List.take_succ_eq_append_getElem hj]
    unfold heavy
    rw [List.filter_append]
    simp [hz]
  · rw [List.drop_set_of_lt (by omega)]
    have := congrArg (List.drop 1) h.high
    simpa [List.drop_drop] using this
set_option maxRecDepth 100000 in
set_option maxHeartbeats 4000000 in
theorem delete_any {w0 w : World} {L : List Ed} {a : Option Addr} {c : Nat} {R : List Part} (hS : Sep w0 w (Row 146 3 L.length (.slice a L.length c) (flat encEd L) :: R)) (hl : L.length ≤ 1048576) :
    Calls Tryz.prog 169 #[.slice a L.length c, .func (.func 170) #[] #[]] w fun en w' => en = .returned (.slice a (heavy L).length c) ∧ Sep w0 w' (Row 146 3 (heavy L).length (.slice a (heavy L).length c) (flat encEd (heavy L)) :: R) := by
  have hix := Lib.hid (index_any (Rd.own hS.row))
  have hS' := Lib.hid hS
  clear hS
  obtain ⟨n, hn⟩ : ∃ n, L.length = n := ⟨_, rfl⟩
  by_cases hz : firstZ 0 L = -1
  · have hh := Lib.hid (firstZ_none hz)
    rw [hz] at hix
    rw [hn] at hix hl ⊢
    have hn' := Lib.hid hn
    clear hz hn
    go_enter Tryz.func169, Tryz.ntmps169
    go_wp2_with fail
    refine hix.out.mono ?_
    rintro e w1 ⟨rfl, hm⟩
    try dsimp only
    have hS1 := Lib.hid (hS'.out.still hm)
    clear hm hS'
    go_wp2_with fail
    go_ret
    rw [hh.out, hn'.out]
    have := hS1.out
    rw [hn'.out] at this
    exact ⟨rfl, this⟩
  · obtain ⟨j0, hj0, hz1, hz2, hz3⟩ := firstZ_some hz
    rw [Nat.zero_add] at hz1
    rw [hz1] at hix
    obtain ⟨g, rfl, _⟩ : ∃ g, a = some ⟨g, 0, none⟩ ∧ True := by
      rcases hS'.out.row.2 with ⟨he, h0⟩ | ⟨g, cap, cur, he, _⟩
      · omega
      · injection he with he _ _; exact ⟨g, he, trivial⟩
    have hst := Lib.hid (Kept.start hj0 hz2 hz3)
    rw [hn] at hix hl hS' ⊢
    have hn' := Lib.hid hn
    have hj0' : j0 < n := by omega
    clear hz hz1 hz2 hz3 hn hj0
    go_enter Tryz.func169, Tryz.ntmps169
    go_wp2_with fail
    refine hix.out.mono ?_
    rintro e w1 ⟨rfl, hm⟩
    try dsimp only
    have hS1 := Lib.hid (hS'.out.still hm)
    have hj1 : ((j0 : Int) == -1) = false := by simp
    clear hm hS' hix
    go_wp2_with fail
    go_loopw [5, 6] (fun s5 s6 wr => ∃ (i j : Nat) (D : List Ed), j ≤ n ∧ s5 = .int .i64 i ∧ s6 = .int .i64 j ∧ Hid (Kept L D i j) ∧ Hid (Sep w0 wr (Row 146 3 n (.slice (some ⟨g, 0, none⟩) n c) (flat encEd D) :: R))) (fun _ s6 _ => n - (intOf s6).toNat)
    case atStart => exact ⟨j0, j0 + 1, L, by omega, rfl, by go_num, hst, hS1⟩
    case round =>
      clear hst hS1 hj1 hj0'
      obtain ⟨i, j, D, hj, rfl, rfl, hK, hS⟩ := hrel
      have hDl : D.length = n := by rw [hK.out.len, hn'.out]
      have hij := hK.out.lt
      by_cases hlt : j < n
      · have hlt1 : (j : Int) < n := by omega
        have hjl : j < L.length := by rw [hn'.out]; exact hlt
        have hrow := hS.out.row
        have hDj := hK.out.at hjl
        obtain ⟨g', eg, hgl, hzf, q0, q1, q2⟩ := ed_row (L := D) (by rw [hDl]; exact hrow) (show j < D.length by omega)
        obtain ⟨g'', eg2, _, _, r0, r1, r2⟩ := ed_row (L := D) (by rw [hDl]; exact hrow) (show i < D.length by omega)
        simp only [Option.some.injEq, Addr.mk.injEq, and_true] at eg eg2
        subst eg
        subst eg2
        rw [hDj] at q0 q1 q2
        have hkp := Lib.hid (fun (h0 : L[j].2.2 ≠ 0) => hK.out.keep hjl h0)
        have hsk := Lib.hid (fun (h0 : L[j].2.2 = 0) => hK.out.skip hjl h0)
        have hz := fun W => zero_any L[j] W
        have hfs := Lib.hid (flat_set3 (L := D) (show i < D.length by omega) L[j])
        generalize L[j] = e at *
        obtain ⟨eu, ev, ec⟩ := e
        unfold edV at hz
        simp only at hz q0 q1 q2
        generalize D[i] = y at *
        obtain ⟨yu, yv, yc⟩ := y
        simp only at r0 r1 r2
        have hDl' := Lib.hid hDl
        clear hrow hDj hDl
        by_cases h0 : ec = 0
        · have hk2 := Lib.hid (hsk.out h0)
          subst h0
          have hz' := Lib.hid hz
          clear hz hkp hsk hK hfs r0 r1 r2
          go_wp2_with fail
          refine (hz'.out _).mono ?_
          rintro e w2 ⟨rfl, hm2⟩
          try dsimp only
          have hS2 := Lib.hid ((hS.out.still ((Mod.refl [] wr).alloc _)).still hm2)
          clear hm2 hS
          go_wp2_with fail
          go_roundw
          case rel => exact ⟨i, j + 1, D, by omega, rfl, by go_num, hk2, hS2⟩
          case measure => simp [intOf]; omega
        · have hk2 := Lib.hid (hkp.out h0)
          have h0' : (ec == 0) = false := by simpa using h0
          rw [h0'] at hz
          have hz' := Lib.hid hz
          clear hz hkp hsk hK h0 h0'
          go_wp2_with fail
          refine (hz'.out _).mono ?_
          rintro e w2 ⟨rfl, hm2⟩
          try dsimp only
          have hS2 := Lib.hid ((hS.out.still ((Mod.refl [] wr).alloc (.cells #[.int .i64 eu, .int .i64 ev, .int .i64 ec] 146))).still hm2)
          have hB := (Has.new wr [.int .i64 eu, .int .i64 ev, .int .i64 ec] 146).keep hm2 (by simp)
          have b0 := hB.cell 0 rfl
          have b1 := hB.cell 1 rfl
          have b2 := hB.cell 2 rfl
          have bl := hB.lt
          have hiD : i < D.length := by have := hDl'.out; omega
          obtain ⟨g', eg, hgl, hzf, r0, r1, r2⟩ := ed_row (L := D) (by rw [hDl'.out]; exact hS2.out.row) hiD
          simp only [Option.some.injEq, Addr.mk.injEq, and_true] at eg
          subst eg
          generalize D[i] = y2 at *
          obtain ⟨zu, zv, zc⟩ := y2
          simp only at r0 r1 r2
          clear hm2 hS hB q0 q1 q2
          go_wp2_with fail
          go_roundw
          case rel =>
            have h6 := ((hS2.out.rowset (i * 3) (.int .i64 eu)).rowset (i * 3 + 1) (.int .i64 ev)).rowset (i * 3 + 2) (.int .i64 ec)
            rw [hfs.out] at h6
            exact ⟨i + 1, j + 1, _, by omega, by go_num, by go_num, hk2, Lib.hid h6⟩
          case measure => simp [intOf]; omega
      · have hjn : j = n := by omega
        subst hjn
        have hi2 : (i : Int) < j := by omega
        have hrow := hS.out.row
        rw [← hDl] at hrow
        have hfit : j ≤ c := by
          rcases hrow.2 with ⟨he, _⟩ | ⟨g', cap, cur, he, _, _, h1, _⟩
          · cases he
          · injection he with _ _ e3; omega
        have hsl := slice_from (P := Tryz.prog) 22 146 3 (by kernel_rfl) (fun w => by kernel_rfl) g 0 j c i (i : Int) rfl (by omega)
        rw [show offAt c i 0 3 = i * 3 by unfold offAt; rw [if_neg (by omega)]; omega] at hsl
        have hcl : ∀ ty, (Builtin.clear_ #[22] ty #[.slice (some ⟨g, i * 3, none⟩) (j - i) (c - i)]).run Tryz.prog wr = .ok (.tuple #[]) (wr.setCells g (i * 3) (zs (j - i))) := fun ty => run_clear_ed wr ty g (i * 3) (j - i) (c - i) (by omega)
          (fun t ht => by
            rw [hrow.cellAt (i * 3 + t) (by omega), List.getElem?_eq_getElem (by rw [hrow.1]; omega)]
            rfl)
          (fun t ht => hrow.frozenAt (i * 3 + t))
        have hlow : heavy L = D.take i := by have := hK.out.low; rw [← hn'.out, List.take_length] at this; exact this.symm
        have hlen : (heavy L).length = i := by rw [hlow, List.length_take]; omega
        have hS2 := sep_beyond (sep_shrink hS.out (show i ≤ j by omega)) (zs (j - i)) (i * 3) _ (sep_shrink hS.out (show i ≤ j by omega)) (by omega)
        rw [flat_take (by omega), ← hlow] at hS2
        have hlen' := Lib.hid hlen
        have hS2' := Lib.hid hS2
        clear hrow hlow hlen hS2 hK hS hDl
        go_wp2_with fail
        go_ret
        rw [hlen'.out]
        exact ⟨rfl, hS2'.out⟩
end Edge
end Go.Proofs.YtjpfmkfikidgkaaGreat

set_option linter.unusedVariables false
set_option linter.unusedSimpArgs false
namespace Go.Proofs.YtjpfmkfikidgkaaGreat
open Go.RowKit
namespace Edge
open PairMap
theorem upd_snoc {L : List Ed} {e : Ed} (h : posAt (key e) 0 L = none) : upd (fun q => posAt q 0 L) (key e) (L.length : Int) = fun q => posAt q 0 (L ++ [e]) := by
  funext q
  rw [pos_snoc]
  show (if q = key e then some (L.length : Int) else posAt q 0 L) = _
  by_cases c : q = key e
  · subst c
    rw [if_pos rfl, h]
    simp
  · rw [if_neg c]
    cases hq : posAt q 0 L with
    | none => simp only; rw [if_neg (fun hh => c hh.symm)]
    | some d => rfl
/-- What Merge holds behind k edges. -/
structure MSt (w wr : World) (bm : Nat) (l : List Ed) (k : Nat) (L : List Ed) (a : Option Addr) (c : Nat) : Prop where
  eq : soFar l k = L
  sep : ∃ n, n ≤ k ∧ Sep w wr [MapP bm n (fun q => posAt q 0 L), Row 146 3 L.length (.slice a L.length c) (flat encEd L)]
/-- What Merge answers. -/
structure MergeOut (l : List Ed) (w : World) (e : Ending) (w' : World) : Prop where
  mk ::
  out : ∃ a c, e = .returned (.tuple #[.slice a (merged l).length c, .bool true]) ∧ Made w w' 146 3 a (merged l).length c (flat encEd (merged l))
set_option maxRecDepth 100000 in
set_option maxHeartbeats 4000000 in
theorem merge_tot {l : List Ed} {v : Value} {w : World} (h : Rd w 3 v l.length (flat encEd l)) (hl : l.length ≤ 1048576) (hw : ∀ e ∈ l, 0 ≤ e.1 ∧ e.1 < 4096 ∧ 0 ≤ e.2.1 ∧ e.2.1 < 4096 ∧ 0 ≤ e.2.2) (hT : total l ≤ 2251799813685248) :
    Calls Tryz.prog 101 #[v] w (MergeOut l w) := by
  obtain ⟨a0, c0, rfl⟩ := h.val
  have h' := Lib.hid h
  have hw' := Lib.hid hw
  obtain ⟨m, hm⟩ : ∃ m, l.length = m := ⟨_, rfl⟩
  rw [hm] at hl
  rw [hm]
  have hm' := Lib.hid hm
  clear h hw hm
  have hst := Lib.hid (show MSt w (w.alloc (.map #[] 0)) w.heap.size l 0 [] none 0 from ⟨by simp [soFar, ins], 0, Nat.le_refl _, by
    have h1 : Sep w w [Row 146 3 0 (.slice none 0 0) []] := (Sep.empty w).add (P := Row 146 3 0 (.slice none 0 0) []) (Mod.refl _ _) (F := []) ⟨World.ownsRow_nil w 0 _ 3, by simp [Value.ownBlock]⟩ (by simp)
    exact h1.add (P := MapP w.heap.size 0 (fun q => posAt q 0 [])) ((Mod.refl [] w).alloc _) (F := [w.heap.size]) ⟨Is.made w, rfl⟩ (by simp)⟩)
  have hmk : ∀ W : World, (Instr.makeMap 227 none).run Tryz.prog W = .ok (.map (some W.heap.size)) (W.alloc (.map #[] 0)) := fun W => run_makeMap _ W
  go_enter Tryz.func101, Tryz.ntmps101
  go_wp2_with fail
  generalize w.alloc (.map #[] 0) = w1 at *
  generalize w.heap.size = bm at *
  go_loopw [5, 17] (fun s5 i wr => ∃ (k : Nat) (L : List Ed) (a : Option Addr) (c : Nat), k ≤ m ∧ i = .int .i64 k ∧ s5 = .slice a L.length c ∧ Hid (MSt w wr bm l k L a c)) (fun _ i _ => m - (intOf i).toNat)
  case atStart => exact ⟨0, [], none, 0, Nat.zero_le _, rfl, rfl, hst⟩
  case round =>
    clear hst
    obtain ⟨k, L, a, c, hk, rfl, rfl, hst⟩ := hrel
    by_cases hlt : k < m
    · have hlt1 : (k : Int) < m := by omega
      have hkl : k < l.length := by rw [hm'.out]; exact hlt
      obtain ⟨n, hn, hS⟩ := hst.out.sep
      obtain ⟨g, o, rfl, hg, hcell⟩ := ed_cells h'.out hkl
      obtain ⟨q0, q1, q2⟩ := hcell _ hS.mod
      have hgl : g < wr.heap.size := Nat.lt_of_lt_of_le hg hS.mod.size
      have hck0 := hw'.out l[k] (List.getElem_mem hkl)
      have hckT := (tot_in (l := l) (fun e he => (hw'.out e he).2.2.2.2)).2 l[k] (List.getElem_mem hkl)
      have hck : 0 ≤ l[k].1 ∧ l[k].1 < 4096 ∧ 0 ≤ l[k].2.1 ∧ l[k].2.1 < 4096 ∧ 0 ≤ l[k].2.2 ∧ l[k].2.2 ≤ 2251799813685248 := ⟨hck0.1, hck0.2.1, hck0.2.2.1, hck0.2.2.2.1, hck0.2.2.2.2, by omega⟩
      clear hck0 hckT
      have hloop := Lib.hid (fun (hh : l[k].1 = l[k].2.1) => soFar_loop hkl hh)
      have hstep := Lib.hid (fun (hh : l[k].1 ≠ l[k].2.1) => soFar_step hkl hh)
      have hnl := Lib.hid (fun (hh : l[k].1 ≠ l[k].2.1) => norm_ends (e := l[k]) hh)
      have hnw := Lib.hid (norm_w l[k])
      generalize l[k] = x at *
      obtain ⟨xu, xv, xw⟩ := x
      simp only at q0 q1 q2 hck
      have hno := fun W => normal_any (xu, xv, xw) W
      generalize hen : norm (xu, xv, xw) = e at *
      obtain ⟨eu, ev, ew⟩ := e
      unfold edV at hno
      simp only at hno
      have hno' := Lib.hid hno
      have hS1 := Lib.hid (hS.still ((Mod.refl [] wr).alloc (.cells #[.int .i64 xu, .int .i64 xv, .int .i64 xw] 146)))
      have heq := Lib.hid hst.out.eq
      clear hst hS hcell hno hkl
      by_cases hxx : xu = xv
      · have he : (eu, ev, ew) = ((xu, xv, xw) : Ed) := by rw [← hen]; unfold norm; rw [if_neg (by simp only; omega)]
        simp only [Prod.mk.injEq] at he
        obtain ⟨rfl, rfl, rfl⟩ := he
        have hnx := Lib.hid (hloop.out hxx)
        subst hxx
        clear hen hloop hstep hnl hnw
        go_wp2_with fail
        refine (hno'.out _).mono ?_
        rintro e w2 ⟨rfl, hm2⟩
        try dsimp only
        have hS2 := Lib.hid (hS1.out.still (hm2.alloc (.cells #[.int .i64 eu, .int .i64 eu, .int .i64 ew] 146)))
        clear hm2 hS1
        go_wp2_with fail
        go_roundw
        case rel => exact ⟨k + 1, L, a, c, by omega, by go_num, rfl, Lib.hid ⟨by rw [hnx.out]; exact heq.out, n, by omega, hS2.out⟩⟩
        case measure => simp [intOf]; omega
      · obtain ⟨n1, n2, n3⟩ := hnl.out hxx
        simp only at n1 n2 n3
        have t1 : (eu == ev) = false := by simp; omega
        have hfit : fits (eu, ev) := ⟨by simp only; omega, by simp only; omega, by simp only; omega, by simp only; omega⟩
        have hst2 := Lib.hid (hstep.out hxx)
        have hnw' := Lib.hid hnw.out
        clear hen hloop hstep hnl hnw hxx n2 n3
        go_wp2_with fail
        refine (hno'.out _).mono ?_
        rintro e w2 ⟨rfl, hm2⟩
        try dsimp only
        have hS2 := (hS1.out.still hm2).box [.int .i64 eu, .int .i64 ev, .int .i64 ew] 146
        have hS3 := hS2.still ((Mod.refl [] _).alloc (.cells #[.int .i64 eu, .int .i64 ev] 109))
        have hS4 := Lib.hid hS3
        obtain ⟨F4, hF4, _⟩ := hS3.swap.first
        have hlk := hF4.1.look hfit
        simp only at hlk
        clear hm2 hS1 hS2 hF4 hS3
        cases hp : posAt (eu, ev) 0 L with
        | none =>
          rw [hp] at hlk
          simp only [Option.getD_none, Option.isSome_none] at hlk
          have hpn := Lib.hid hp
          clear hp
          have hLk : L.length ≤ k := by rw [← heq.out]; exact soFar_len l k
          have hnew := Lib.hid (pos_none (e := (eu, ev, ew)) hpn.out)
          go_wp2_with (first
            | (at_mapUpdate; refine wpList_put (w0 := w) rfl _ _ _ rfl bm n (fun q => posAt q 0 L) (eu, ev) L.length rfl rfl rfl hS4.out.swap (by omega) hfit (by omega) (by omega) ?_; intro w5 hS5; have hbe := hS5.swap.blk; have e0 := hbe.cell 0 rfl; have e1 := hbe.cell 1 rfl; have e2 := hbe.cell 2 rfl; have el := hbe.lt; have hS5' := Lib.hid (hS5.pick 2 (by simp)); clear hS5 hbe)
            | (at_builtin; refine app_own rfl (.tmp 45) (.tmp 47) 22 146 _ 3 24 rfl Tryz.underlying22 infoEd rfl (by omega) (by omega) (.slice a L.length c) L.length 1 (flat encEd L) (encEd (eu, ev, ew)) rfl rfl rfl rfl (by simp [encEd, Value.oneCell']) hS5'.out.row (by omega) ?_; intro a1 c1 w6 ho6 hm6 hb6; have hS6 := Lib.hid (hS5'.out.grow ho6 hm6 hb6); clear ho6 hm6 hb6))
          go_roundw
          case rel =>
            refine ⟨k + 1, L ++ [(eu, ev, ew)], a1, c1, by omega, by go_num, by simp, Lib.hid ⟨by rw [hst2.out, heq.out, hnew.out], n + 1, by omega, ?_⟩⟩
            have h6 := hS6.out.back2.second
            rw [show upd (fun q => posAt q 0 L) (eu, ev) (L.length : Int) = _ from upd_snoc (e := (eu, ev, ew)) hpn.out] at h6
            rw [flat_append, flat_one, List.length_append]
            exact h6
          case measure => simp [intOf]; omega
        | some i =>
          rw [hp] at hlk
          simp only [Option.getD_some, Option.isSome_some] at hlk
          obtain ⟨j, hj, rfl, hkj, hadd⟩ := pos_some (e := (eu, ev, ew)) hp
          rw [Nat.zero_add] at hlk
          have hbnd := soFar_le (l := l) (fun e he => (hw'.out e he).2.2.2.2) k L[j] (by rw [heq.out]; exact List.getElem_mem hj)
          have hj2 : (j : Int) < L.length := by omega
          have hrow := (hS4.out.pick 2 (by simp)).row
          obtain ⟨gr, rfl, hgr, hzr, _, _, r2⟩ := ed_row hrow hj
          have hsw := Lib.hid (flat_setw hj (L[j].2.2 + ew))
          have hpos : Hid (∀ q, posAt q 0 (L.set j (L[j].1, L[j].2.1, L[j].2.2 + ew)) = posAt q 0 L) := Lib.hid (fun q => pos_set (e := (L[j].1, L[j].2.1, L[j].2.2 + ew)) hj rfl)
          have hadd' := Lib.hid hadd
          have hew : ew ≤ 2251799813685248 := by have : ew = xw := hnw'.out; omega
          have hew0 : 0 ≤ ew := by have : ew = xw := hnw'.out; omega
          have hk3 : (k : Int) ≤ 1048576 := by omega
          have hsum : L[j].2.2 + ew ≤ 4611686018427387904 := by omega
          have hb0 := hbnd.1
          generalize L[j] = y at *
          obtain ⟨yu, yv, yw⟩ := y
          simp only at r2 hsum hb0
          have had := Lib.hid (fun W => add_any hb0 hew0 hsum W)
          clear hp hkj hadd hrow hbnd hew hnw'
          go_wp2_with fail
          go_quiet ((go_at_call 168; exact Calls.quiet_of_same (had.out _)))
          go_wp2_with fail
          go_roundw
          case rel =>
            refine ⟨k + 1, L.set j (yu, yv, yw + ew), some ⟨gr, 0, none⟩, c, by omega, by go_num, by rw [List.length_set], Lib.hid ⟨by rw [hst2.out, heq.out, hadd'.out], n, by omega, ?_⟩⟩
            have h6 := fun q => (((hS4.out.still ((Mod.refl [] _).drewN q)).pick 2 (by simp)).rowset (j * 3 + 2) (.int .i64 (yw + ew))).back2.tail
            rw [List.length_set, ← hsw.out, show (fun q => posAt q 0 (L.set j (yu, yv, yw + ew))) = fun q => posAt q 0 L from funext hpos.out]
            exact h6 _
          case measure => simp [intOf]; omega
    · have hkm : k = m := by omega
      subst hkm
      obtain ⟨n, hn, hS⟩ := hst.out.sep
      have heq := hst.out.eq
      rw [← hm'.out, soFar_all] at heq
      have hLk : L.length ≤ 1048576 := by
        have := soFar_len l l.length
        rw [soFar_all, heq] at this
        have := hm'.out
        omega
      have hd := Lib.hid (delete_any hS.tail hLk)
      have hap : Apart L := by rw [← heq]; exact (foldP (ins l) [] List.Pairwise.nil).1
      have hap2 : Apart (heavy L) := hap.sublist heavy_sub
      have hLk2 : (heavy L).length ≤ 1048576 := Nat.le_trans (List.length_filter_le _ _) hLk
      have hsort := Lib.hid (fun w1 hS1 => sort_any (w0 := w) (w := w1) (L := heavy L) (a := a) (c := c) (R := []) hS1 hap2 hLk2)
      have hsame := Lib.hid (fun M (hp : M.Perm (heavy L)) (hs : Rising M) => merge_same l (by unfold heavy at *; rw [heq]; exact hp) hs)
      clear hst hS heq hap hap2 hLk2 hLk hmk
      go_wp2_with fail
      refine hd.out.mono ?_
      rintro e w2 ⟨rfl, hS2⟩
      try dsimp only
      have hs2 := Lib.hid (hsort.out _ hS2)
      clear hS2 hd hsort
      go_wp2_with fail
      refine hs2.out.mono ?_
      rintro e w3 ⟨rfl, M, hp, hr, hS3⟩
      try dsimp only
      have hM := hsame.out M hp hr
      have hl2 := hp.length_eq
      rw [← hl2, hM] at hS3
      have hfin := Lib.hid hS3.toMade
      have hle := Lib.hid (show (heavy L).length = (merged l).length by rw [← hl2, hM])
      clear hp hr hS3 hM hl2 hs2 hsame
      go_wp2_with fail
      go_ret2
      rw [hle.out]
      exact ⟨a, c, rfl, hfin.out⟩
theorem merge_any {l : List Ed} {v : Value} {w : World} (h : Rd w 3 v l.length (flat encEd l)) (hl : l.length ≤ 1048576) (hw : ∀ e ∈ l, checkE 4096 e = 0) :
    Calls Tryz.prog 101 #[v] w (MergeOut l w) :=
  merge_tot h hl (fun e he => by have := checkE_ok.1 (hw e he); omega) (by
    have := (total_le (l := l) (fun e he => by have := checkE_ok.1 (hw e he); omega)).2
    omega)
end Edge
end Go.Proofs.YtjpfmkfikidgkaaGreat

set_option linter.unusedVariables false
set_option linter.unusedSimpArgs false
namespace Go.Proofs.YtjpfmkfikidgkaaGreat
open Go.RowKit
section
open Go.Sort
theorem putRow_map {α : Type} [Inhabited α] (enc : α → Value) (w : World) (g : Nat) (d : Array α) : putRow enc w g 0 d = putRow id w g 0 (d.map enc) := by
  unfold putRow
  refine mapBlock_congr _ _ _ _ (fun c e fr _ => ?_)
  unfold putCells
  apply Array.ext
  · simp
  · intro i h1 h2
    simp only [Array.getElem_mapIdx, Array.size_map, Nat.sub_zero]
    by_cases h : 0 ≤ i ∧ i < 0 + d.size
    · rw [if_pos h, if_pos h, getElem!_pos d i (by omega), getElem!_pos (d.map enc) i (by simp; omega)]
      simp
    · rw [if_neg h, if_neg h]
theorem own_holdsI {w : World} {e g c : Nat} {xs : List Int} (h : w.ownsRow 0 e 1 (.slice (some ⟨g, 0, none⟩) xs.length c) xs.length (i64s xs)) : Holds (Value.int .i64) w g 0 xs.toArray := by
  intro j hj
  simp only [List.size_toArray] at hj
  rw [Nat.zero_add, h.cellAt j (by omega), h.frozenAt j, i64s_get hj, getElem!_pos _ _ (by simpa using hj)]
  exact ⟨rfl, rfl⟩
/-- slices.Sort of numbers. -/
theorem sortI_any {w : World} {a : Option Addr} {c : Nat} {xs : List Int} (h : w.ownsRow 0 3 1 (.slice a xs.length c) xs.length (i64s xs)) (hl : xs.length ≤ 4294967296) :
    Calls Tryz.prog 103 #[.slice a xs.length c] w fun e w' => e = .returned (.tuple #[]) ∧ w'.ownsRow 0 3 1 (.slice a xs.length c) xs.length (i64s (xs.mergeSort fun x y => decide (x ≤ y))) ∧ Mod (Value.slice a xs.length c).ownBlock.toList w w' := by
  rcases Nat.eq_zero_or_pos xs.length with h0 | h0
  · have hx := List.eq_nil_of_length_eq_zero h0
    subst hx
    refine Calls.mono (show Calls Tryz.prog 103 _ _ _ from AnyM.slices_Sort_int_none Sh.sortI a c w) ?_
    rintro e w' ⟨rfl, rfl⟩
    exact ⟨rfl, by simpa using h, Mod.refl _ _⟩
  · obtain ⟨g, rfl, hg, _⟩ := row_form h h0
    refine Calls.mono (show Calls Tryz.prog 103 _ _ _ from AnyM.slices_Sort_int Sh.sortI g 0 c xs w (own_holdsI h) hg (by omega)) ?_
    rintro e w' ⟨rfl, n, os, rfl⟩
    rw [putRow_map]
    have := own_put (m := n) h ((xs.mergeSort fun x y => decide (x ≤ y)).toArray.map (Value.int .i64)) (by simp) os
    refine ⟨rfl, ?_, by simpa [Value.ownBlock] using this.2⟩
    have e1 : ((xs.mergeSort fun x y => decide (x ≤ y)).toArray.map (Value.int .i64)).toList = i64s (xs.mergeSort fun x y => decide (x ≤ y)) := by simp [i64s]
    rw [e1] at this
    exact this.1
end
namespace Edge
/-- A vertex's row whose numbers are set in another order. -/
theorem ESt.rowIn {w0 w : World} {b gn gd n : Nat} {vl : Value} {tot : Int} {RS : List Value} {XS : List (List Int)} {DS : List Int} {R : List Part} (h : ESt w0 w b gn gd n vl tot RS XS DS R) {v : Nat} (hv : v < n) :
    ∃ a c x, RS[v]? = some (.slice a x.length c) ∧ XS[v]? = some x ∧ w.ownsRow 0 3 1 (.slice a x.length c) x.length (i64s x) ∧
      (∀ (w' : World) (x1 : List Int), x1.length = x.length → w'.ownsRow 0 3 1 (.slice a x.length c) x.length (i64s x1) → Mod (Value.slice a x.length c).ownBlock.toList w w' → ESt w0 w' b gn gd n vl tot RS (XS.set v x1) DS R) := by
  have h1 : v < RS.length := by rw [h.lr]; exact hv
  have h2 : v < XS.length := by rw [h.lx]; exact hv
  have hi : 3 + v < (endsL b gn gd n vl tot RS XS DS R).length := by
    unfold endsL rowsP
    simp only [List.length_cons, List.length_append, List.length_zipWith]
    omega
  have hp := h.sep.pick (3 + v) hi
  have e : (endsL b gn gd n vl tot RS XS DS R)[3 + v] = Row 3 1 XS[v].length RS[v] (i64s XS[v]) := by
    unfold endsL rowsP
    simp only [Nat.add_comm 3 v, List.getElem_cons_succ]
    rw [List.getElem_append_left (by simp only [List.length_zipWith]; omega), List.getElem_zipWith]
  rw [e] at hp
  have ho := hp.row
  obtain ⟨a, c, hs⟩ : ∃ a c, RS[v] = .slice a XS[v].length c := by
    rcases ho.2 with ⟨he, h0⟩ | ⟨g, cap, cur, he, _⟩
    · exact ⟨none, 0, by rw [he, h0]⟩
    · exact ⟨_, _, he⟩
  rw [hs] at hp ho
  refine ⟨a, c, XS[v], by rw [List.getElem?_eq_getElem h1, hs], List.getElem?_eq_getElem h2, ho, fun w' x1 hl o1 m1 => ⟨?_, h.lr, by rw [List.length_set]; exact h.lx, h.ld⟩⟩
  have hg := (hp.grow o1 m1 (.inl rfl)).putBack hi
  rw [← hl, ← show RS[v] = .slice a x1.length c by rw [hs, hl]] at hg
  have e2 : (endsL b gn gd n vl tot RS XS DS R).set (3 + v) (Row 3 1 x1.length RS[v] (i64s x1)) = endsL b gn gd n vl tot RS (XS.set v x1) DS R := by
    unfold endsL
    rw [Nat.add_comm 3 v]
    simp only [List.set_cons_succ]
    rw [List.set_append_left _ _ (by unfold rowsP; simp only [List.length_zipWith]; omega), rowsP_set, List.set_getElem_self]
  rw [e2] at hg
  exact hg
def nextsL (n : Nat) (L : List Ed) : List (List Int) := (List.range n).map fun (v : Nat) => nexts L (v : Int)
def degL (n : Nat) (L : List Ed) : List Int := (List.range n).map fun (v : Nat) => degree L (v : Int)
def nearL (n : Nat) (L : List Ed) : List (List Int) := (List.range n).map fun (v : Nat) => near n L (v : Int)
theorem nextsL_snoc {n : Nat} {L : List Ed} {e : Ed} (hu : 0 ≤ e.1 ∧ e.1 < n) (hv : 0 ≤ e.2.1 ∧ e.2.1 < n) (huv : e.1 ≠ e.2.1) : XSk (nextsL n L) e.1 e.2.1 2 = nextsL n (L ++ [e]) := by
  unfold XSk nextsL
  apply List.ext_getElem
  · simp
  intro i h1 h2
  simp only [List.length_map, List.length_range, List.length_set] at h1 h2
  simp only [List.getElem_set, List.getElem_map, List.getElem_range, List.getD_eq_getElem?_getD, List.getElem?_set, List.length_map, List.length_range, List.getElem?_map, nexts_append, nexts]
  have a1 : e.1.toNat < n := by omega
  have a2 : e.2.1.toNat < n := by omega
  by_cases c1 : e.2.1.toNat = i
  · subst c1
    rw [if_pos rfl, if_neg (show ¬ e.1.toNat = e.2.1.toNat by omega), List.getElem?_range a2, if_neg (show ¬ e.1 = ((e.2.1.toNat : Nat) : Int) by omega), if_pos (show e.2.1 = ((e.2.1.toNat : Nat) : Int) by omega)]
    simp
  · rw [if_neg c1]
    by_cases c2 : e.1.toNat = i
    · subst c2
      rw [if_pos rfl, List.getElem?_range a1, if_pos (show e.1 = ((e.1.toNat : Nat) : Int) by omega), if_neg (show ¬ e.2.1 = ((e.1.toNat : Nat) : Int) by omega)]
      simp
    · rw [if_neg c2, if_neg (show ¬ e.1 = ((i : Nat) : Int) by omega), if_neg (show ¬ e.2.1 = ((i : Nat) : Int) by omega)]
      simp
theorem degL_snoc {n : Nat} {L : List Ed} {e : Ed} (hu : 0 ≤ e.1 ∧ e.1 < n) (hv : 0 ≤ e.2.1 ∧ e.2.1 < n) (huv : e.1 ≠ e.2.1) : DSk (degL n L) e.1 e.2.1 e.2.2 2 = degL n (L ++ [e]) := by
  unfold DSk degL
  apply List.ext_getElem
  · simp
  intro i h1 h2
  simp only [List.length_map, List.length_range, List.length_set] at h1 h2
  simp only [List.getElem_set, List.getElem_map, List.getElem_range, List.getD_eq_getElem?_getD, List.getElem?_set, List.length_map, List.length_range, List.getElem?_map, degree_append, degree]
  have a1 : e.1.toNat < n := by omega
  have a2 : e.2.1.toNat < n := by omega
  by_cases c1 : e.2.1.toNat = i
  · subst c1
    rw [if_pos rfl, if_neg (show ¬ e.1.toNat = e.2.1.toNat by omega), List.getElem?_range a2, if_neg (show ¬ e.1 = ((e.2.1.toNat : Nat) : Int) by omega), if_pos (show e.2.1 = ((e.2.1.toNat : Nat) : Int) by omega)]
    simp
  · rw [if_neg c1]
    by_cases c2 : e.1.toNat = i
    · subst c2
      rw [if_pos rfl, List.getElem?_range a1, if_pos (show e.1 = ((e.1.toNat : Nat) : Int) by omega), if_neg (show ¬ e.2.1 = ((e.1.toNat : Nat) : Int) by omega)]
      simp
    · rw [if_neg c2, if_neg (show ¬ e.1 = ((i : Nat) : Int) by omega), if_neg (show ¬ e.2.1 = ((i : Nat) : Int) by omega)]
      simp
/-- A graph, as an object. -/
def NetP (b n : Nat) (L : List Ed) : Part := fun w F => ∃ gn gd a c RS, RS.length = n ∧ Parts w (endsL b gn gd n (.slice a L.length c) (total L) RS (nearL n L) (degL n L) [Row 146 3 L.length (.slice a L.length c) (flat encEd L)]) F
instance (b n : Nat) (L : List Ed) : Good (NetP b n L) where
  lt h := by obtain ⟨_, _, _, _, _, _, h⟩ := h; exact h.lt
  keep h m hd := by obtain ⟨gn, gd, a, c, RS, h1, h⟩ := h; exact ⟨gn, gd, a, c, RS, h1, h.keep m hd⟩
end Edge
end Go.Proofs.YtjpfmkfikidgkaaGreat

set_option linter.unusedVariables false
set_option linter.unusedSimpArgs false
namespace Go.Proofs.YtjpfmkfikidgkaaGreat
open Go.RowKit
namespace Edge
theorem total_pos : ∀ {L : List Ed}, (∀ e ∈ L, 0 < e.2.2) → 0 ≤ total L
  | [], _ => Int.le_refl _
  | e :: l, h => by
    have h1 := h e (by simp)
    have h2 := total_pos (L := l) (fun x hx => h x (List.mem_cons_of_mem _ hx))
    simp only [total]; omega
theorem total_take {L : List Ed} (h : ∀ e ∈ L, 0 < e.2.2) (k : Nat) : 0 ≤ total (L.take k) ∧ total (L.take k) ≤ total L := by
  have e : total L = total (L.take k) + total (L.drop k) := by rw [← total_append, List.take_append_drop]
  have h1 := total_pos (L := L.take k) (fun x hx => h x (List.mem_of_mem_take hx))
  have h2 := total_pos (L := L.drop k) (fun x hx => h x (List.mem_of_mem_drop hx))
  omega
theorem take_step {L : List Ed} {k : Nat} (hk : k < L.length) : L.take (k + 1) = L.take k ++ [L[k]] := List.take_succ_eq_append_getElem hk
def mixL (n : Nat) (L : List Ed) (k : Nat) : List (List Int) := (List.range n).map fun (v : Nat) => if v < k then near n L (v : Int) else nexts L (v : Int)
theorem mix_zero (n : Nat) (L : List Ed) : mixL n L 0 = nextsL n L := by simp [mixL, nextsL]
theorem mix_all (n : Nat) (L : List Ed) : mixL n L n = nearL n L := by
  unfold mixL nearL
  apply List.map_congr_left
  intro v hv
  rw [List.mem_range] at hv
  rw [if_pos hv]
theorem mix_step {n : Nat} {L : List Ed} {k : Nat} (hk : k < n) : (mixL n L k).set k (near n L k) = mixL n L (k + 1) := by
  unfold mixL
  apply List.ext_getElem
  · simp
  intro i h1 h2
  simp only [List.getElem_set, List.getElem_map, List.getElem_range]
  by_cases e : k = i
  · subst e; rw [if_pos rfl, if_pos (by omega)]
  · rw [if_neg e]
    by_cases h : i < k
    · rw [if_pos h, if_pos (by omega)]
    · rw [if_neg h, if_neg (by omega)]
theorem ESt.restRow {w0 w : World} {b gn gd n : Nat} {vl : Value} {tot : Int} {RS : List Value} {XS : List (List Int)} {DS : List Int} {e size m : Nat} {v : Value} {xs : List Value} {R : List Part} (h : ESt w0 w b gn gd n vl tot RS XS DS (Row e size m v xs :: R)) : w.ownsRow 0 e size v m xs :=
  (h.sep.perm endsL_rest.symm).row
/-- What New answers. -/
structure NewOut (n : Int) (l : List Ed) (w : World) (e : Ending) (w' : World) : Prop where
  mk ::
  out : (newE n l ≠ (0, 0) ∧ e = .returned (.tuple #[.pointer none, .int .i64 (newE n l).1, .int .i64 (newE n l).2]) ∧ Mod [] w w') ∨
    (newE n l = (0, 0) ∧ ∃ b, e = .returned (.tuple #[.pointer (some ⟨b, 0, none⟩), .int .i64 0, .int .i64 0]) ∧ Sep w w' [NetP b n.toNat (merged l)])
theorem infoRow : (Tryz.prog.info? 51).map (fun i => (i.zero, i.size, i.bytes)) = some (some (.slice none 0 0), 1, 24) := by kernel_rfl
theorem infoI64 : (Tryz.prog.info? 2).map (fun i => (i.zero, i.size, i.bytes)) = some (some (.int .i64 0), 1, 8) := by kernel_rfl
theorem made_list (z : Value) (m : Nat) : madeCells #[z] m = (List.replicate m z).toArray := by
  have hl : (madeCells #[z] m).toList = List.replicate m z := by
    apply List.ext_getElem
    · simp [madeCells]
    · intro i h1 h2; simp [madeCells, Nat.mod_one]
  rw [← hl]
/-- The graph's head is laid. -/
theorem est_made {w0 w w' : World} {b gn gd n : Nat} {vl : Value} {R : List Part} (hS : Sep w0 w R) (m : Mod [] w w') (hgn : Has w' gn (madeCells #[.slice none 0 0] n).toList 51) (hgd : Has w' gd (madeCells #[.int .i64 0] n).toList 2)
    (hb : Has w' b [.slice (some ⟨gn, 0, none⟩) n n, .slice (some ⟨gd, 0, none⟩) n n, vl, .int .i64 0] 169) (l1 : w.heap.size ≤ gn) (l2 : w.heap.size ≤ gd) (l3 : w.heap.size ≤ b) (n1 : b ≠ gn) (n2 : b ≠ gd) (n3 : gn ≠ gd) :
    ESt w0 w' b gn gd n vl 0 (List.replicate n (.slice none 0 0)) (nextsL n []) (degL n []) R := by
  refine ⟨?_, by simp, by simp [nextsL], by simp [degL]⟩
  rw [made_list] at hgn hgd
  obtain ⟨F, h1, h2, h3⟩ := hS.out
  have hr : ∀ (k : Nat) (RS : List Value) (XS : List (List Int)), RS = List.replicate k (.slice none 0 0) → XS = List.replicate k [] → Parts w' (rowsP RS XS ++ R) F := by
    intro k
    induction k with
    | zero => rintro _ _ rfl rfl; exact h1.keep m (by simp)
    | succ k ih =>
      rintro _ _ rfl rfl
      refine ⟨inferInstance, [], F, rfl, ⟨World.ownsRow_nil _ _ _ _, by simp [Value.ownBlock]⟩, ih _ _ rfl rfl, by simp⟩
  have hrp := hr n (List.replicate n (.slice none 0 0)) (nextsL n []) rfl (by simp [nextsL, nexts, List.map_const'])
  have hFlt : ∀ x ∈ F, x < w.heap.size := h1.lt
  refine ⟨b :: gn :: gd :: F, ⟨inferInstance, [b], gn :: gd :: F, rfl, ⟨hb, rfl⟩, ⟨inferInstance, [gn], gd :: F, rfl, ⟨by simpa using hgn, rfl⟩, ⟨inferInstance, [gd], F, rfl, ⟨?_, rfl⟩, hrp, ?_⟩, ?_⟩, ?_⟩, h2.trans m (by simp), ?_⟩
  · have e : i64s (degL n []) = List.replicate n (.int .i64 0) := by simp [i64s, degL, degree, List.map_const']
    rw [e]
    simpa using hgd
  · intro x hx hx2
    rw [List.mem_singleton] at hx
    subst hx
    have := hFlt _ hx2
    omega
  · intro x hx hx2
    rw [List.mem_singleton] at hx
    subst hx
    rcases List.mem_cons.1 hx2 with h | h
    · exact n3 h
    · have := hFlt _ h; omega
  · intro x hx hx2
    rw [List.mem_singleton] at hx
    subst hx
    rcases List.mem_cons.1 hx2 with h | h
    · exact n1 h
    rcases List.mem_cons.1 h with h | h
    · exact n2 h
    · have := hFlt _ h; omega
  · have := h2.size
    intro x hx
    rcases List.mem_cons.1 hx with rfl | hx
    · omega
    rcases List.mem_cons.1 hx with rfl | hx
    · omega
    rcases List.mem_cons.1 hx with rfl | hx
    · omega
    · exact h3 x hx
set_option maxRecDepth 100000 in
set_option maxHeartbeats 4000000 in
theorem new_net (n : Int) {l : List Ed} {v : Value} {w : World} (h : Rd w 3 v l.length (flat encEd l)) :
    Calls Tryz.prog 15 #[.int .i64 n, v] w (NewOut n l w) := by
  obtain ⟨a0, c0, rfl⟩ := h.val
  have hle := h.le
  have h' := Lib.hid h
  clear h
  by_cases h1 : n < 0
  · have he := Lib.hid (show newE n l = (1, 0) by unfold newE; rw [if_pos h1])
    go_enter Tryz.func15, Tryz.ntmps15
    go_wp2_with fail
    exact bodyPost_ret (v := .tuple #[.pointer none, .int .i64 1, .int .i64 0]) (by simp [results, Tryz.results15, go_sem]) rfl ⟨.inl ⟨by rw [he.out]; simp, by rw [he.out], Mod.refl _ _⟩⟩
  by_cases h2 : 4096 < n
  · have he := Lib.hid (show newE n l = (3, 0) by unfold newE; rw [if_neg h1, if_pos (.inl h2)])
    go_enter Tryz.func15, Tryz.ntmps15
    go_wp2_with fail
    exact bodyPost_ret (v := .tuple #[.pointer none, .int .i64 3, .int .i64 0]) (by simp [results, Tryz.results15, go_sem]) rfl ⟨.inl ⟨by rw [he.out]; simp, by rw [he.out], Mod.refl _ _⟩⟩
  by_cases h3 : 1048576 < l.length
  · have he := Lib.hid (show newE n l = (3, 0) by unfold newE; rw [if_neg h1, if_pos (.inr h3)])
    have h3' : (1048576 : Int) < l.length := by omega
    go_enter Tryz.func15, Tryz.ntmps15
    go_wp2_with fail
    exact bodyPost_ret (v := .tuple #[.pointer none, .int .i64 3, .int .i64 0]) (by simp [results, Tryz.results15, go_sem]) rfl ⟨.inl ⟨by rw [he.out]; simp, by rw [he.out], Mod.refl _ _⟩⟩
  have hen : newE n l = checksE n 0 l := by unfold newE; rw [if_neg h1, if_neg (by omega)]
  have hck := Lib.hid (checks_any n h'.out)
  have h3' : ¬ (1048576 : Int) < l.length := by omega
  by_cases h4 : (checksE n 0 l).1 = 0
  · obtain ⟨m, rfl⟩ := Int.eq_ofNat_of_zero_le (show 0 ≤ n by omega)
    have hm4 : m ≤ 4096 := by omega
    have hall := checksE_ok.1 h4
    have hG := Lib.hid (merged_ok hm4 (by omega) hall)
    have hen' := Lib.hid (show newE m l = (0, 0) by rw [hen, checksE_at h4])
    rw [checksE_at h4] at hck
    have hmg := Lib.hid (fun w1 (hR : Rd w1 3 (.slice a0 l.length c0) l.length (flat encEd l)) => merge_any hR (by omega) (fun e he => by have := checkE_ok.1 (hall e he); rw [checkE_ok]; omega))
    have hmkR := make_run (P := Tryz.prog) 80 51 (.slice none 0 0) 24 Tryz.underlying80 infoRow rfl (by omega) m (by omega)
    have hmkD := make_run (P := Tryz.prog) 33 2 (.int .i64 0) 8 Tryz.underlying33 infoI64 rfl (by omega) m (by omega)
    have hmkR' := Lib.hid hmkR
    have hmkD' := Lib.hid hmkD
    clear hen h4 hall hmkR hmkD h1 h2 h3
    go_enter Tryz.func15, Tryz.ntmps15
    go_wp2_with fail
    refine hck.out.mono ?_
    rintro e w1 ⟨rfl, hm⟩
    try dsimp only
    have hm' := Lib.hid hm
    have hmg2 := Lib.hid (hmg.out w1 (h'.out.still hm))
    clear hm hck hmg
    go_wp2_with fail
    refine hmg2.out.mono ?_
    rintro e w2 ⟨a, c, rfl, hM⟩
    try dsimp only
    have hS2 := Lib.hid ((Sep.empty w).still hm'.out |>.add (P := Row 146 3 (merged l).length (.slice a (merged l).length c) (flat encEd (merged l))) hM.mod ⟨hM.own, rfl⟩ (fun b hb => hM.new b (by simpa using hb)))
    clear hM hm' hmg2
    have f1 : ESt w (((w2.alloc (.cells (madeCells #[.slice none 0 0] m) 51)).alloc (.cells (madeCells #[.int .i64 0] m) 2)).alloc (.cells #[.slice (some ⟨w2.heap.size, 0, none⟩) m m, .slice (some ⟨w2.heap.size + 1, 0, none⟩) m m, .slice a (merged l).length c, .int .i64 0] 169)).drew (w2.heap.size + 1 + 1) (w2.heap.size) (w2.heap.size + 1) m (.slice a (merged l).length c) 0 (List.replicate m (.slice none 0 0)) (nextsL m []) (degL m []) [Row 146 3 (merged l).length (.slice a (merged l).length c) (flat encEd (merged l))] := by
      have k1 := Has.new w2 (madeCells #[.slice none 0 0] m).toList 51
      have k2 := Has.new (w2.alloc (.cells (madeCells #[.slice none 0 0] m) 51)) (madeCells #[.int .i64 0] m).toList 2
      have k3 := Has.new ((w2.alloc (.cells (madeCells #[.slice none 0 0] m) 51)).alloc (.cells (madeCells #[.int .i64 0] m) 2)) [.slice (some ⟨w2.heap.size, 0, none⟩) m m, .slice (some ⟨w2.heap.size + 1, 0, none⟩) m m, .slice a (merged l).length c, .int .i64 0] 169
      simp only [Array.toArray_toList, World.size_alloc] at k1 k2 k3
      exact est_made hS2.out ((((Mod.refl _ _).alloc _).alloc _).alloc _).drew ((k1.alloc _).alloc _) (k2.alloc _) k3 (by omega) (by omega) (by omega) (by omega) (by omega) (by omega)
    have f2 : ESt w (((w2.alloc (.cells (madeCells #[.int .i64 0] m) 2)).alloc (.cells (madeCells #[.slice none 0 0] m) 51)).alloc (.cells #[.slice (some ⟨w2.heap.size + 1, 0, none⟩) m m, .slice (some ⟨w2.heap.size, 0, none⟩) m m, .slice a (merged l).length c, .int .i64 0] 169)).drew (w2.heap.size + 1 + 1) (w2.heap.size + 1) (w2.heap.size) m (.slice a (merged l).length c) 0 (List.replicate m (.slice none 0 0)) (nextsL m []) (degL m []) [Row 146 3 (merged l).length (.slice a (merged l).length c) (flat encEd (merged l))] := by
      have k1 := Has.new w2 (madeCells #[.int .i64 0] m).toList 2
      have k2 := Has.new (w2.alloc (.cells (madeCells #[.int .i64 0] m) 2)) (madeCells #[.slice none 0 0] m).toList 51
      have k3 := Has.new ((w2.alloc (.cells (madeCells #[.int .i64 0] m) 2)).alloc (.cells (madeCells #[.slice none 0 0] m) 51)) [.slice (some ⟨w2.heap.size + 1, 0, none⟩) m m, .slice (some ⟨w2.heap.size, 0, none⟩) m m, .slice a (merged l).length c, .int .i64 0] 169
      simp only [Array.toArray_toList, World.size_alloc] at k1 k2 k3
      exact est_made hS2.out ((((Mod.refl _ _).alloc _).alloc _).alloc _).drew (k2.alloc _) ((k1.alloc _).alloc _) k3 (by omega) (by omega) (by omega) (by omega) (by omega) (by omega)
    have f1' := Lib.hid f1
    have f2' := Lib.hid f2
    have hsz := Lib.hid (show w.heap.size ≤ w2.heap.size from hS2.out.mod.size)
    clear f1 f2 hS2
    go_upto_region 10 with fail
    have hmkR := hmkR'.out
    have hmkD := hmkD'.out
    clear hmkR' hmkD'
    go_region_law (fail)
    case' refine_3.refine_3.refine_3.refine_1.refine_1.refine_3.refine_3.refine_1.refine_3 =>
      have hE := f1'
      clear f1' f2' hmkR hmkD hsz
      generalize (((w2.alloc (.cells (madeCells #[.slice none 0 0] m) 51)).alloc (.cells (madeCells #[.int .i64 0] m) 2)).alloc (.cells #[.slice (some ⟨w2.heap.size, 0, none⟩) m m, .slice (some ⟨w2.heap.size + 1, 0, none⟩) m m, .slice a (merged l).length c, .int .i64 0] 169)).drew = wE at *
      generalize w2.heap.size + 1 + 1 = b at *
      generalize w2.heap.size + 1 = gd at *
      generalize w2.heap.size = gn at *
    case' refine_3.refine_3.refine_3.refine_2.refine_1.refine_1.refine_3.refine_3.refine_1.refine_3 =>
      have hE := f2'
      clear f1' f2' hmkR hmkD hsz
      generalize (((w2.alloc (.cells (madeCells #[.int .i64 0] m) 2)).alloc (.cells (madeCells #[.slice none 0 0] m) 51)).alloc (.cells #[.slice (some ⟨w2.heap.size + 1, 0, none⟩) m m, .slice (some ⟨w2.heap.size, 0, none⟩) m m, .slice a (merged l).length c, .int .i64 0] 169)).drew = wE at *
      generalize w2.heap.size + 1 + 1 = b at *
      generalize w2.heap.size + 1 = gn at *
      generalize w2.heap.size = gd at *
    all_goals
      obtain ⟨M, hMl⟩ : ∃ M, (merged l).length = M := ⟨_, rfl⟩
      rw [hMl] at hE ⊢
      have hMl' := Lib.hid hMl
      have hML : M ≤ 1048576 := by have := hG.out.len; omega
      clear hMl
      have hst : Hid (ESt w wE b gn gd m (.slice a M c) (total ((merged l).take 0)) (List.replicate m (.slice none 0 0)) (nextsL m ((merged l).take 0)) (degL m ((merged l).take 0)) [Row 146 3 M (.slice a M c) (flat encEd (merged l))]) := hE
      clear hE
      generalize hLL : merged l = L at *
      have hLL' := Lib.hid hLL
      clear hLL
      go_wp2_with fail
      go_loopw [49] (fun i wr => ∃ (k : Nat) (RS : List Value), k ≤ M ∧ i = .int .i64 k ∧ Hid (ESt w wr b gn gd m (.slice a M c) (total (L.take k)) RS (nextsL m (L.take k)) (degL m (L.take k)) [Row 146 3 M (.slice a M c) (flat encEd L)])) (fun i _ => M - (intOf i).toNat)
      case atStart => exact ⟨0, _, Nat.zero_le _, rfl, hst⟩
      case round =>
        clear hst
        obtain ⟨k, RS, hk, rfl, hst⟩ := hrel
        by_cases hlt : k < M
        · have hlt1 : (k : Int) < M := by omega
          have hkL : k < L.length := by rw [hMl'.out]; exact hlt
          obtain ⟨gr, rfl, hgr, _, q0, q1, q2⟩ := ed_row (L := L) (by rw [hMl'.out]; exact hst.out.restRow) hkL
          have hends := hG.out.ends L[k] (List.getElem_mem hkL)
          have hpos := hG.out.pos L[k] (List.getElem_mem hkL)
          have htk := total_take hG.out.pos k
          have htk1 := total_take hG.out.pos (k + 1)
          have htot := hG.out.tot
          have hts : total (L.take (k + 1)) = total (L.take k) + L[k].2.2 := by rw [take_step hkL, total_append]; simp [total]
          have hxs : nextsL m (L.take (k + 1)) = XSk (nextsL m (L.take k)) L[k].1 L[k].2.1 2 := by rw [take_step hkL, nextsL_snoc (e := L[k]) (by omega) (by omega) (by omega)]
          have hds : degL m (L.take (k + 1)) = DSk (degL m (L.take k)) L[k].1 L[k].2.1 L[k].2.2 2 := by rw [take_step hkL, degL_snoc (e := L[k]) (by omega) (by omega) (by omega)]
          have hb1 : ∀ x ∈ nextsL m (L.take k), x.length ≤ 4194304 := by
            intro x hx
            obtain ⟨v, _, rfl⟩ := List.mem_map.1 hx
            have := nexts_len (v := (v : Int)) (L := L.take k) (fun e he => (hG.out.ends e (List.mem_of_mem_take he)).2.1)
            rw [List.length_take] at this
            omega
          have hb2 : ∀ x ∈ degL m (L.take k), 0 ≤ x ∧ x ≤ 4503599627370496 := by
            intro x hx
            obtain ⟨v, _, rfl⟩ := List.mem_map.1 hx
            have := degree_le (v := (v : Int)) (L := L.take k) (fun e he => (hG.out.ends e (List.mem_of_mem_take he)).2.1) (fun e he => hG.out.pos e (List.mem_of_mem_take he))
            omega
          have hts' := Lib.hid hts
          have hxs' := Lib.hid hxs
          have hds' := Lib.hid hds
          have hsum : total (L.take k) + L[k].2.2 ≤ 2251799813685248 := by omega
          clear hts hxs hds htk1 htot
          generalize L[k] = e at *
          obtain ⟨eu, ev, ew⟩ := e
          simp only at q0 q1 q2 hends hpos hsum
          have hE1 := (hst.out.box [.int .i64 eu, .int .i64 ev, .int .i64 ew] 146).still (Mod.refl [] _).drew
          have hlk := Lib.hid (link_any hE1 hm4 eu ev ew ⟨by omega, by omega⟩ ⟨by omega, by omega⟩ (by omega) ⟨by omega, by omega⟩ hb1 hb2)
          have hfst := hE1.fst.1
          have c0 := hfst.cell 0 rfl
          have c1 := hfst.cell 1 rfl
          have c2 := hfst.cell 2 rfl
          generalize hW1 : (wr.alloc (.cells [.int .i64 eu, .int .i64 ev, .int .i64 ew].toArray 146)).drew = W1 at *
          have hW1' := Lib.hid hW1
          have hkk := Lib.hid hkL
          have ht0 := htk.1
          clear hst hE1 hfst hb1 hb2 hW1 hkL htk
          go_upto_region 14 with fail
          generalize wr.heap.size = eb at *
          have f0 := KC.one (L := [(⟨eb, 0, none⟩, .int .i64 eu), (⟨eb, 1, none⟩, .int .i64 ev), (⟨eb, 2, none⟩, .int .i64 ew)]) c0 (by simp)
          have f1 := KC.one (L := [(⟨eb, 0, none⟩, .int .i64 eu), (⟨eb, 1, none⟩, .int .i64 ev), (⟨eb, 2, none⟩, .int .i64 ew)]) c1 (by simp)
          have f2 := KC.one (L := [(⟨eb, 0, none⟩, .int .i64 eu), (⟨eb, 1, none⟩, .int .i64 ev), (⟨eb, 2, none⟩, .int .i64 ew)]) c2 (by simp)
          refine region_sched (G := KC [(⟨eb, 0, none⟩, .int .i64 eu), (⟨eb, 1, none⟩, .int .i64 ev), (⟨eb, 2, none⟩, .int .i64 ew)]) [([0,1,2,3],4)] [] (by kernel_rfl) (by kernel_rfl) (by kernel_rfl) rfl (KC.refl _) (KC.trans _) ?_
          simp only [stages, pickO, nthO, headO, List.cons_append, List.nil_append]
          try rw [hW1'.out]
          refine sched_step ?_
          repeat (go_big_quiet_step (fail))
          refine wpQuiet_nil ?_
          intro K hK
          rw [if_pos (by rfl)]
          go_simp
          refine hlk.out.mono ?_
          rintro e w3 ⟨rfl, RS', hE3⟩
          try dsimp only
          have hf3 := hE3.fst.1
          have d0 := hf3.cell 0 rfl
          have d1 := hf3.cell 1 rfl
          have d2 := hf3.cell 2 rfl
          refine hK.out _ _ (fun p hp _ => by
            simp only [List.mem_cons, List.mem_nil_iff, or_false] at hp
            rcases hp with rfl | rfl | rfl
            · exact d0
            · exact d1
            · exact d2) ?_
          clear hK K f0 f1 f2 c0 c1 c2 hlk d0 d1 hW1'
          have hcb := hE3.cells.1
          have b3 := hcb.cell 3 rfl
          have bl := hcb.lt
          have bz := hcb.free 3
          have el := hf3.lt
          have hE3' := Lib.hid hE3
          clear hcb hf3 hE3
          generalize total (L.take k) = tk at *
          refine sched_last ?_
          refine wpQuiet_nil ?_
          go_wp2_with fail
          go_still_tail 9, (by kernel_rfl)
          go_wp2_with fail
          go_roundw
          case rel => exact ⟨k + 1, RS', by omega, by go_num, Lib.hid (by
            rw [hts'.out, hxs'.out, hds'.out]
            exact ((hE3'.out.total (tk + ew)).unbox.still (Mod.refl [] _).drew))⟩
          case measure => simp [intOf]; omega
        · have hkM : k = M := by omega
          subst hkM
          have hst2 : Hid (ESt w wr b gn gd m (.slice a k c) (total L) RS (mixL m L 0) (degL m L) [Row 146 3 k (.slice a k c) (flat encEd L)]) := Lib.hid (by
            have := hst.out
            rw [← hMl'.out, List.take_length] at this
            rw [mix_zero, ← hMl'.out]
            exact this)
          clear hst hlt hk
          go_wp2_with fail
          go_loopw [69] (fun i wr => ∃ j : Nat, j ≤ m ∧ i = .int .i64 j ∧ Hid (ESt w wr b gn gd m (.slice a k c) (total L) RS (mixL m L j) (degL m L) [Row 146 3 k (.slice a k c) (flat encEd L)])) (fun i _ => m - (intOf i).toNat)
          case atStart => exact ⟨0, Nat.zero_le _, rfl, hst2⟩
          case round =>
            clear hst2
            obtain ⟨j, hj, rfl, hst⟩ := hrel
            by_cases hlt : j < m
            · have hlt1 : (j : Int) < m := by omega
              obtain ⟨ar, cr, x, r1, r2, hrow, hgo⟩ := hst.out.rowIn hlt
              have hx : x = nexts L (j : Int) := by
                unfold mixL at r2
                rw [List.getElem?_map, List.getElem?_range hlt] at r2
                simp only [Option.map_some, Option.some.injEq] at r2
                rw [← r2, if_neg (by omega)]
              have hxl : x.length ≤ 1048576 := by
                rw [hx]
                have := nexts_len (v := (j : Int)) (L := L) (fun e he => (hG.out.ends e he).2.1)
                have := hG.out.len
                omega
              have hs := Lib.hid (sortI_any hrow (by omega))
              have hnear : (x.mergeSort fun x y => decide (x ≤ y)) = near m L j := by
                rw [hx]
                refine near_same hG.out (List.mergeSort_perm _ _) ?_
                have := List.pairwise_mergeSort (le := fun (x y : Int) => decide (x ≤ y)) (fun a b c h1 h2 => by simp only [decide_eq_true_eq] at *; omega) (fun a b => by simp only [Bool.or_eq_true, decide_eq_true_eq]; omega) (nexts L (j : Int))
                exact List.Pairwise.imp (fun {a b} h => by simpa using h) this
              have hlen2 : (near m L j).length = x.length := by rw [← hnear, List.length_mergeSort]
              rw [hnear] at hs
              have hgo' := Lib.hid (fun w' h1 h2 => hgo w' (near m L j) hlen2 h1 h2)
              obtain ⟨kb, kgn, kgd, _, _, _⟩ := hst.out.cells
              have b0 := kb.cell 0 rfl
              have g0 := kgn.cell j r1
              have lb := kb.lt
              have lg := kgn.lt
              clear hx hrow hgo hnear hlen2 kb kgn kgd r1 r2 hst
              generalize hnn : near m L (j : Int) = nj at *
              have hnn' := Lib.hid hnn
              clear hnn
              go_wp2_with fail
              refine hs.out.mono ?_
              rintro e w4 ⟨rfl, ho, hm⟩
              try dsimp only
              have hE4 := Lib.hid (hgo'.out w4 ho hm)
              clear ho hm hs hgo'
              go_wp2_with fail
              go_roundw
              case rel => exact ⟨j + 1, by omega, by go_num, Lib.hid (by have := hE4.out; rw [← hnn'.out, mix_step hlt] at this; exact this)⟩
              case measure => simp [intOf]; omega
            · have hjm : j = m := by omega
              subst hjm
              have hfin : Hid (Sep w wr [NetP b j L]) := by
                have h5 := hst.out.sep
                rw [mix_all] at h5
                obtain ⟨F, p1, p2, p3⟩ := h5.out
                refine Lib.hid ⟨F, ⟨inferInstance, F, [], by simp, ⟨gn, gd, a, c, RS, hst.out.lr, ?_⟩, rfl, by simp⟩, p2, p3⟩
                rw [hMl'.out]
                exact p1
              clear hst
              go_wp2_with fail
              exact bodyPost_ret (v := .tuple #[.pointer (some ⟨b, 0, none⟩), .int .i64 0, .int .i64 0]) (by simp [results, Tryz.results15, go_sem]) rfl ⟨.inr ⟨hen'.out, b, rfl, by rw [hLL'.out]; exact hfin.out⟩⟩
  · have hen' := Lib.hid hen
    obtain ⟨r1, r2, hr⟩ : ∃ r1 r2, checksE n 0 l = (r1, r2) := ⟨_, _, rfl⟩
    rw [hr] at hck h4
    simp only at hck h4
    have hr' := Lib.hid hr
    have t1 : (r1 == 0) = false := by simpa using h4
    have h4' := Lib.hid h4
    clear hen hr h4
    go_enter Tryz.func15, Tryz.ntmps15
    go_wp2_with fail
    refine hck.out.mono ?_
    rintro e w1 ⟨rfl, hm⟩
    try dsimp only
    have hm' := Lib.hid hm
    clear hm hck
    go_wp2_with fail
    exact bodyPost_ret (v := .tuple #[.pointer none, .int .i64 r1, .int .i64 r2]) (by simp [results, Tryz.results15, go_sem]) rfl ⟨.inl ⟨by rw [hen'.out, hr'.out]; intro hh; exact h4'.out (Prod.mk.inj hh).1, by rw [hen'.out, hr'.out], hm'.out⟩⟩
end Edge
end Go.Proofs.YtjpfmkfikidgkaaGreat

set_option linter.unusedVariables false
set_option linter.unusedSimpArgs false
namespace Go.Proofs.YtjpfmkfikidgkaaGreat
open Go.RowKit
namespace Edge
theorem parts_at {w : World} : ∀ {L : List Part} {F : List Nat}, Parts w L F → ∀ (i : Nat) (P : Part), L[i]? = some P → ∃ F1, P w F1 ∧ ∀ b ∈ F1, b ∈ F
  | [], _, _, i, P, hi => by simp at hi
  | Q :: L, F, h, i, P, hi => by
    obtain ⟨_, F1, F2, rfl, h1, h2, _⟩ := h
    cases i with
    | zero =>
      simp only [List.getElem?_cons_zero, Option.some.injEq] at hi
      subst hi
      exact ⟨F1, h1, fun b hb => by simp [hb]⟩
    | succ i =>
      simp only [List.getElem?_cons_succ] at hi
      obtain ⟨F3, h3, h4⟩ := parts_at h2 i P hi
      exact ⟨F3, h3, fun b hb => by simp [h4 b hb]⟩
/-- What is read of a graph. -/
structure NetRd (w : World) (b n : Nat) (L : List Ed) (gn gd : Nat) (a : Option Addr) (c : Nat) : Prop where
  hb : Has w b [.slice (some ⟨gn, 0, none⟩) n n, .slice (some ⟨gd, 0, none⟩) n n, .slice a L.length c, .int .i64 (total L)] 169
  row : ∀ v : Nat, v < n → ∃ ar cr, w.cell? ⟨gn, v, none⟩ = some (.slice ar (near n L v).length cr) ∧ Reads w 1 (.slice ar (near n L v).length cr) (near n L v).length (i64s (near n L v))
  deg : ∀ v : Nat, v < n → w.cell? ⟨gd, v, none⟩ = some (.int .i64 (degree L v))
  eds : Rd w 3 (.slice a L.length c) L.length (flat encEd L)
  ln : gn < w.heap.size
  ld : gd < w.heap.size
theorem NetP.rd {w : World} {b n : Nat} {L : List Ed} {F : List Nat} (h : NetP b n L w F) : ∃ gn gd a c, NetRd w b n L gn gd a c := by
  obtain ⟨gn, gd, a, c, RS, hl, h⟩ := h
  have hz : (rowsP RS (nearL n L)).length = n := by unfold rowsP nearL; simp [hl]
  obtain ⟨_, ⟨k0, _⟩, _⟩ := parts_at h 0 _ rfl
  obtain ⟨_, ⟨k1, _⟩, _⟩ := parts_at h 1 _ rfl
  obtain ⟨_, ⟨k2, _⟩, _⟩ := parts_at h 2 _ rfl
  obtain ⟨_, ⟨k3, _⟩, _⟩ := parts_at h (n + 3) (Row 146 3 L.length (.slice a L.length c) (flat encEd L)) (by
    unfold endsL
    simp only [List.getElem?_cons_succ]
    rw [List.getElem?_append_right (by omega), hz]
    simp)
  refine ⟨gn, gd, a, c, k0, fun v hv => ?_, fun v hv => ?_, Rd.own k3, k1.lt, k2.lt⟩
  · have hr : (rowsP RS (nearL n L))[v]? = some (Row 3 1 (near n L v).length (RS[v]'(by omega)) (i64s (near n L v))) := by
      unfold rowsP nearL
      rw [List.getElem?_zipWith, List.getElem?_eq_getElem (show v < RS.length by omega), List.getElem?_map, List.getElem?_range hv]
      rfl
    obtain ⟨_, ⟨k4, _⟩, _⟩ := parts_at h (v + 3) (Row 3 1 (near n L v).length (RS[v]'(by omega)) (i64s (near n L v))) (by
      unfold endsL
      simp only [List.getElem?_cons_succ]
      rw [List.getElem?_append_left (by omega)]
      exact hr)
    obtain ⟨ar, cr, hs⟩ : ∃ ar cr, RS[v]'(by omega) = .slice ar (near n L v).length cr := by
      rcases k4.2 with ⟨he, h0⟩ | ⟨g, cap, cur, he, _⟩
      · exact ⟨none, 0, by rw [he, h0]⟩
      · exact ⟨_, _, he⟩
    rw [hs] at k4
    exact ⟨ar, cr, k1.cell v (by rw [List.getElem?_eq_getElem (show v < RS.length by omega), hs]), Reads.own k4⟩
  · exact k2.cell v (by simp [i64s, degL, hv])
theorem n_net {w : World} {b n : Nat} {L : List Ed} {F : List Nat} (h : NetP b n L w F) : Calls Tryz.prog 72 #[.pointer (some ⟨b, 0, none⟩)] w fun e w' => e = .returned (.int .i64 n) ∧ w' = w := by
  obtain ⟨gn, gd, a, c, hr⟩ := h.rd
  have b0 := hr.hb.cell 0 rfl
  have bl := hr.hb.lt
  clear h hr
  go_enter Tryz.func72, Tryz.ntmps72
  go_wp2
  go_ret
  exact ⟨rfl, rfl⟩
theorem m_net {w : World} {b n : Nat} {L : List Ed} {F : List Nat} (h : NetP b n L w F) : Calls Tryz.prog 73 #[.pointer (some ⟨b, 0, none⟩)] w fun e w' => e = .returned (.int .i64 L.length) ∧ w' = w := by
  obtain ⟨gn, gd, a, c, hr⟩ := h.rd
  have b0 := hr.hb.cell 2 rfl
  have bl := hr.hb.lt
  clear h hr
  go_enter Tryz.func73, Tryz.ntmps73
  go_wp2
  go_ret
  exact ⟨rfl, rfl⟩
theorem total_net {w : World} {b n : Nat} {L : List Ed} {F : List Nat} (h : NetP b n L w F) : Calls Tryz.prog 95 #[.pointer (some ⟨b, 0, none⟩)] w fun e w' => e = .returned (.int .i64 (total L)) ∧ w' = w := by
  obtain ⟨gn, gd, a, c, hr⟩ := h.rd
  have b0 := hr.hb.cell 3 rfl
  have bl := hr.hb.lt
  clear h hr
  go_enter Tryz.func95, Tryz.ntmps95
  go_wp2
  go_ret
  exact ⟨rfl, rfl⟩
theorem made_below {w w' : World} {e size n : Nat} {v' : Value} {xs : List Value} (ho : w'.ownsRow w.heap.size e size v' n xs) (hb : Below w.heap.size w w') : ∃ a c, v' = .slice a n c ∧ Made w w' e size a n c xs := by
  obtain ⟨a, c, rfl⟩ : ∃ a c, v' = .slice a n c := by
    rcases ho.2 with ⟨rfl, h0⟩ | ⟨g, cap, cur, rfl, _⟩
    · exact ⟨none, 0, by rw [h0]⟩
    · exact ⟨_, _, rfl⟩
  exact ⟨a, c, rfl, World.ownsRow.mono ho (Nat.zero_le _), Mod.ofBelow hb, fun b hb' => (ho.lt b hb').1⟩
/-- slices.Clone of numbers. -/
theorem cloneI_any {w : World} {a : Option Addr} {c : Nat} {xs : List Int} (h : Reads w 1 (.slice a xs.length c) xs.length (i64s xs)) (hl : xs.length ≤ 4294967296) :
    Calls Tryz.prog 149 #[.slice a xs.length c] w fun e w' => ∃ a' c', e = .returned (.slice a' xs.length c') ∧ Made w w' 3 1 a' xs.length c' (i64s xs) := by
  rcases h.cases with ⟨he, hn, hx⟩ | ⟨g, o, c', he, _, _⟩
  · injection he with e1 e2 e3
    subst e1
    subst e3
    have hx := List.eq_nil_of_length_eq_zero hn
    subst hx
    refine Calls.mono (show Calls Tryz.prog 149 _ _ _ from AnyE.slices_Clone_nil Sh.cloneI 0 0 w) ?_
    rintro e w' ⟨rfl, rfl⟩
    exact ⟨none, 0, rfl, World.ownsRow_nil _ _ _ _, Mod.refl _ _, by simp [Value.ownBlock]⟩
  · injection he with e1 e2 e3
    subst e1
    subst e3
    have hcon := AnyE.slices_Clone Sh.cloneI _ (.int .i64 0) 1 8 (Option.map_eq_some_iff.1 infoInt).choose_spec.1 (by have := (Option.map_eq_some_iff.1 infoInt).choose_spec.2; exact (Prod.mk.inj this).1) (by have := (Option.map_eq_some_iff.1 infoInt).choose_spec.2; exact (Prod.mk.inj (Prod.mk.inj this).2).1) (by have := (Option.map_eq_some_iff.1 infoInt).choose_spec.2; exact (Prod.mk.inj (Prod.mk.inj this).2).2) rfl (by omega) Tryz.sizeOf3 g o xs.length c (i64s xs) w (by rw [i64s_len]; omega) (by simp only [maxLen]; omega) (by omega) (fun j u hu => h.cell j hu) (i64s_one xs)
    refine Calls.mono (show Calls Tryz.prog 149 _ _ _ from hcon) ?_
    rintro e w' ⟨v', rfl, ho, hne, hb⟩
    obtain ⟨a', c', rfl, hm⟩ := made_below ho hb
    exact ⟨a', c', rfl, hm⟩
set_option maxHeartbeats 1000000 in
theorem near_net {w : World} {b n : Nat} {L : List Ed} {F : List Nat} (h : NetP b n L w F) (hG : GOk n L) (v : Int) : Calls Tryz.prog 141 #[.pointer (some ⟨b, 0, none⟩), .int .i64 v] w fun e w' => ∃ a c, e = .returned (.slice a (near n L v).length c) ∧ Made w w' 3 1 a (near n L v).length c (i64s (near n L v)) := by
  have hn := Lib.hid (n_net h)
  have hle := hG.le
  obtain ⟨gn, gd, a, c, hr⟩ := h.rd
  have b0 := hr.hb.cell 0 rfl
  have bl := hr.hb.lt
  have hd := hr.row v.toNat
  have ld := hr.ln
  have hout : Hid ((v < 0 ∨ n ≤ v) → near n L v = []) := Lib.hid (fun hh => by
    unfold near upto
    rw [List.filter_eq_nil_iff]
    intro u _
    rw [weight_out hG.ends (by omega)]
    simp)
  have hfit : Hid ((near n L v).length ≤ 4096) := Lib.hid (by
    unfold near upto
    refine Nat.le_trans (List.length_filter_le _ _) ?_
    simpa using hG.le)
  clear h hr hG
  have hnil : Hid (∀ w : World, (v < 0 ∨ n ≤ v) → ∃ a c, Ending.returned (.slice none 0 0) = .returned (.slice a (near n L v).length c) ∧ Made w w 3 1 a (near n L v).length c (i64s (near n L v))) := Lib.hid (fun w hh => by
    rw [hout.out hh]
    exact ⟨none, 0, rfl, World.ownsRow_nil _ _ _ _, Mod.refl _ _, by simp [Value.ownBlock]⟩)
  by_cases h0 : v < 0
  · clear hd hout
    go_enter Tryz.func141, Tryz.ntmps141
    go_wp2_with fail
    go_ret
    exact hnil.out _ (.inl h0)
  by_cases h1 : (n : Int) ≤ v
  · clear hd hout
    go_enter Tryz.func141, Tryz.ntmps141
    go_wp2_with (go_at_call 72; refine hn.out.mono ?_; rintro e w1 ⟨rfl, rfl⟩)
    go_ret
    exact hnil.out _ (.inr h1)
  · have h2 : 0 ≤ v := by omega
    have h3 : v < n := by omega
    obtain ⟨ar, cr, hd1, hd2⟩ := hd (by omega)
    rw [show ((v.toNat : Nat) : Int) = v by omega] at hd1 hd2
    have hcl := Lib.hid (cloneI_any hd2 (by have := hfit.out; omega))
    clear hout h0 hd hd2 hnil
    generalize near n L v = nv at *
    go_enter Tryz.func141, Tryz.ntmps141
    go_wp2_with (first
      | (go_at_call 72; refine hn.out.mono ?_; rintro e w1 ⟨rfl, rfl⟩)
      | (go_at_call 149; refine hcl.out.mono ?_; rintro e w1 ⟨a', c', rfl, hm⟩; have hm' := Lib.hid hm; clear hm))
    go_ret
    exact ⟨a', c', rfl, hm'.out⟩
end Edge
end Go.Proofs.YtjpfmkfikidgkaaGreat

set_option linter.unusedVariables false
set_option linter.unusedSimpArgs false
namespace Go.Proofs.YtjpfmkfikidgkaaGreat
open Go.RowKit
namespace Edge
/-- The arcs of a graph of n vertices and the edges L. -/
def ArcP (b n : Nat) (L : List Ed) : Part := fun w F => ∃ (gf go : Nat) (aa : Option Addr) (ca : Nat), Parts w
  [Blk b [.slice aa (2 * L.length) ca, .slice (some ⟨gf, 0, none⟩) (n + 1) (n + 1), .slice (some ⟨go, 0, none⟩) (2 * L.length) (2 * L.length)] 184,
   Row 198 2 (2 * L.length) (.slice aa (2 * L.length) ca) (flat encA (arcsL L)),
   Row 3 1 (n + 1) (.slice (some ⟨gf, 0, none⟩) (n + 1) (n + 1)) (i64s (fromL n (posF L))),
   Row 3 1 (2 * L.length) (.slice (some ⟨go, 0, none⟩) (2 * L.length) (2 * L.length)) (i64s (outL n L))] F
instance (b n : Nat) (L : List Ed) : Good (ArcP b n L) where
  lt h := by obtain ⟨_, _, _, _, h⟩ := h; exact h.lt
  keep h m hd := by obtain ⟨gf, go, aa, ca, h⟩ := h; exact ⟨gf, go, aa, ca, h.keep m hd⟩
/-- What is read of arcs. -/
structure ArcRd (w : World) (b n : Nat) (L : List Ed) (gf go : Nat) (aa : Option Addr) (ca : Nat) : Prop where
  hb : Has w b [.slice aa (2 * L.length) ca, .slice (some ⟨gf, 0, none⟩) (n + 1) (n + 1), .slice (some ⟨go, 0, none⟩) (2 * L.length) (2 * L.length)] 184
  all : w.ownsRow 0 198 2 (.slice aa (2 * L.length) ca) (2 * L.length) (flat encA (arcsL L))
  frm : w.ownsRow 0 3 1 (.slice (some ⟨gf, 0, none⟩) (n + 1) (n + 1)) (n + 1) (i64s (fromL n (posF L)))
  out : w.ownsRow 0 3 1 (.slice (some ⟨go, 0, none⟩) (2 * L.length) (2 * L.length)) (2 * L.length) (i64s (outL n L))
theorem ArcP.rd {w : World} {b n : Nat} {L : List Ed} {F : List Nat} (h : ArcP b n L w F) : ∃ gf go aa ca, ArcRd w b n L gf go aa ca := by
  obtain ⟨gf, go, aa, ca, h⟩ := h
  obtain ⟨_, ⟨k0, _⟩, _⟩ := parts_at h 0 _ rfl
  obtain ⟨_, ⟨k1, _⟩, _⟩ := parts_at h 1 _ rfl
  obtain ⟨_, ⟨k2, _⟩, _⟩ := parts_at h 2 _ rfl
  obtain ⟨_, ⟨k3, _⟩, _⟩ := parts_at h 3 _ rfl
  exact ⟨gf, go, aa, ca, k0, k1, k2, k3⟩
section
variable {w : World} {b n : Nat} {L : List Ed} {F : List Nat}
theorem an_p (h : ArcP b n L w F) (hG : GOk n L) : Calls Tryz.prog 105 #[.pointer (some ⟨b, 0, none⟩)] w fun e w' => e = .returned (.int .i64 n) ∧ w' = w := by
  obtain ⟨gf, go, aa, ca, hr⟩ := h.rd
  exact an_any hG.le hr.hb
theorem alen_p (h : ArcP b n L w F) : Calls Tryz.prog 24 #[.pointer (some ⟨b, 0, none⟩)] w fun e w' => e = .returned (.int .i64 ((2 * L.length : Nat) : Int)) ∧ w' = w := by
  obtain ⟨gf, go, aa, ca, hr⟩ := h.rd
  exact alen_any hr.hb
theorem ahead_p (h : ArcP b n L w F) (hG : GOk n L) (i : Int) : Calls Tryz.prog 39 #[.pointer (some ⟨b, 0, none⟩), .int .i64 i] w fun e w' => e = .returned (.int .i64 (headI L i)) ∧ w' = w := by
  obtain ⟨gf, go, aa, ca, hr⟩ := h.rd
  exact ahead_any hr.hb hr.all (arcsL_len L) (by have := hG.len; omega) i
theorem acap_p (h : ArcP b n L w F) (hG : GOk n L) (i : Int) : Calls Tryz.prog 106 #[.pointer (some ⟨b, 0, none⟩), .int .i64 i] w fun e w' => e = .returned (.int .i64 (capI L i)) ∧ w' = w := by
  obtain ⟨gf, go, aa, ca, hr⟩ := h.rd
  exact acap_any hr.hb hr.all (arcsL_len L) (by have := hG.len; omega) i
theorem atail_p (h : ArcP b n L w F) (hG : GOk n L) (i : Int) (hi : i ≤ 9223372036854775807) : Calls Tryz.prog 38 #[.pointer (some ⟨b, 0, none⟩), .int .i64 i] w fun e w' => e = .returned (.int .i64 (tailI L i)) ∧ w' = w := by
  obtain ⟨gf, go, aa, ca, hr⟩ := h.rd
  exact atail_any hr.hb hr.all (arcsL_len L) (by have := hG.len; omega) i hi
theorem win_rd {go v : Nat} (hG : GOk n L) (hv : v < n) (h : w.ownsRow 0 3 1 (.slice (some ⟨go, 0, none⟩) (2 * L.length) (2 * L.length)) (2 * L.length) (i64s (outL n L))) :
    Reads w 1 (.slice (some ⟨go, if cntE L v = 0 then 0 else posF L v, none⟩) (ints (ofS n L v)).length (cntE L v)) (ints (ofS n L v)).length (i64s (ints (ofS n L v))) := by
  have hl : (ints (ofS n L v)).length = cntE L v := by rw [ints_len, ofS_len hG]
  have h2 : cntE L v ≤ 2 * L.length := by
    have := posF_le hG (v := v + 1) (by omega)
    rw [posF_succ] at this; omega
  refine ⟨by rw [i64s_len]; omega, .inr ⟨go, _, cntE L v, rfl, by omega, by have := hG.len; simp only [maxLen]; omega, fun j u hu => ?_⟩⟩
  have hj : j < (ints (ofS n L v)).length := by
    have := (List.getElem?_eq_some_iff.1 hu).1
    rwa [i64s_len] at this
  rw [if_neg (by omega)]
  obtain ⟨A, B, e1, e2⟩ := outL_cut hG hv
  have hk : posF L v + j < 2 * L.length := by
    have := outL_len hG
    rw [e1] at this
    simp only [List.length_append] at this
    omega
  have := h.cellAt (posF L v + j) (by omega)
  rw [this, e1, i64s_append, i64s_append, List.append_assoc, List.getElem?_append_right (by rw [i64s_len]; omega), i64s_len, e2, Nat.add_sub_cancel_left, List.getElem?_append_left (by rw [i64s_len]; exact hj)]
  exact hu
set_option maxHeartbeats 1000000 in
theorem aout_p (h : ArcP b n L w F) (hG : GOk n L) (v : Int) : Calls Tryz.prog 75 #[.pointer (some ⟨b, 0, none⟩), .int .i64 v] w fun e w' => ∃ a c, e = .returned (.slice a (outI n L v).length c) ∧ Made w w' 3 1 a (outI n L v).length c (i64s (outI n L v)) := by
  have hn := Lib.hid (an_p h hG)
  have hn4 := hG.le
  by_cases hin : 0 ≤ v ∧ v < n
  · obtain ⟨k, rfl⟩ := Int.eq_ofNat_of_zero_le hin.1
    have hk : k < n := by omega
    have e : outI n L (k : Int) = ints (ofS n L k) := by unfold outI; rw [if_pos hin, Int.toNat_natCast]
    rw [e]
    obtain ⟨gf, go, aa, ca, hr⟩ := h.rd
    have hof := Lib.hid (aof_any hG rfl hk hr.hb hr.frm)
    have hrd := Lib.hid (fun W (m : Mod [] w W) => win_rd hG hk (own_keep hr.out m (by simp)))
    have hcl := Lib.hid (fun W (m : Mod [] w W) => cloneI_any (hrd.out W m) (by rw [ints_len, ofS_len hG]; have := ofU_le L (2 * L.length) k; have := hG.len; unfold cntE; omega))
    have hwv : winV go (posF L k) (cntE L k) = .slice (some ⟨go, if cntE L k = 0 then 0 else posF L k, none⟩) (ints (ofS n L k)).length (cntE L k) := by unfold winV; rw [ints_len, ofS_len hG]
    rw [hwv] at hof
    generalize Value.slice (some ⟨go, if cntE L k = 0 then 0 else posF L k, none⟩) (ints (ofS n L k)).length (cntE L k) = sv at *
    generalize ints (ofS n L k) = xs at *
    have hk1 : (k : Int) < n := by omega
    clear h hG hr hrd e hwv hin
    go_enter Tryz.func75, Tryz.ntmps75
    go_wp2_with (go_at_call 105; refine hn.out.mono ?_; rintro e w1 ⟨rfl, rfl⟩)
    refine hof.out.mono ?_
    rintro e w1 ⟨rfl, hm⟩
    have hcl2 := Lib.hid (hcl.out _ hm)
    have hm' := Lib.hid hm
    clear hm hcl
    try dsimp only
    go_wp2_with fail
    refine hcl2.out.mono ?_
    rintro e w2 ⟨a', c', rfl, hmd⟩
    have hmd' := Lib.hid (hmd.before hm'.out)
    clear hmd
    try dsimp only
    go_wp2_with fail
    go_ret
    exact ⟨a', c', rfl, hmd'.out⟩
  · have e : outI n L v = [] := by unfold outI; rw [if_neg hin]; rfl
    rw [e]
    have hfin : Hid (∃ a c, Ending.returned (.slice none 0 0) = .returned (.slice a ([] : List Int).length c) ∧ Made w w 3 1 a ([] : List Int).length c (i64s [])) := Lib.hid ⟨none, 0, rfl, World.ownsRow_nil _ _ _ _, Mod.refl _ _, by simp [Value.ownBlock]⟩
    by_cases h0 : v < 0
    · clear hin e hG h
      go_enter Tryz.func75, Tryz.ntmps75
      go_wp2_with fail
      go_ret
      exact hfin.out
    · have h1 : (n : Int) ≤ v := by omega
      clear hin e hG h
      go_enter Tryz.func75, Tryz.ntmps75
      go_wp2_with (go_at_call 105; refine hn.out.mono ?_; rintro e w1 ⟨rfl, rfl⟩)
      go_ret
      exact hfin.out
end
/-! Of nil there is nothing. -/
theorem an_nil (w : World) : Calls Tryz.prog 105 #[.pointer none] w fun e w' => e = .returned (.int .i64 0) ∧ w' = w := by
  go_enter Tryz.func105, Tryz.ntmps105
  go_wp2
  go_ret
  exact ⟨rfl, rfl⟩
theorem alen_nil (w : World) : Calls Tryz.prog 24 #[.pointer none] w fun e w' => e = .returned (.int .i64 0) ∧ w' = w := by
  go_enter Tryz.func24, Tryz.ntmps24
  go_wp2
  go_ret
  exact ⟨rfl, rfl⟩
theorem aout_nil (v : Int) (w : World) : Calls Tryz.prog 75 #[.pointer none, .int .i64 v] w fun e w' => e = .returned (.slice none 0 0) ∧ w' = w := by
  by_cases h0 : v < 0
  · go_enter Tryz.func75, Tryz.ntmps75
    go_wp2
    go_ret
    exact ⟨rfl, rfl⟩
  · have h1 : 0 ≤ v := by omega
    go_enter Tryz.func75, Tryz.ntmps75
    go_wp2_with (go_at_call 105; refine (an_nil _).mono ?_; rintro e w1 ⟨rfl, rfl⟩)
    go_ret
    exact ⟨rfl, rfl⟩
theorem ahead_nil (i : Int) (w : World) : Calls Tryz.prog 39 #[.pointer none, .int .i64 i] w fun e w' => e = .returned (.int .i64 (-1)) ∧ w' = w := by
  by_cases h0 : i < 0
  · go_enter Tryz.func39, Tryz.ntmps39
    go_wp2
    go_ret
    exact ⟨rfl, rfl⟩
  · have h1 : 0 ≤ i := by omega
    go_enter Tryz.func39, Tryz.ntmps39
    go_wp2_with (go_at_call 24; refine (alen_nil _).mono ?_; rintro e w1 ⟨rfl, rfl⟩)
    go_ret
    exact ⟨rfl, rfl⟩
theorem acap_nil (i : Int) (w : World) : Calls Tryz.prog 106 #[.pointer none, .int .i64 i] w fun e w' => e = .returned (.int .i64 0) ∧ w' = w := by
  by_cases h0 : i < 0
  · go_enter Tryz.func106, Tryz.ntmps106
    go_wp2
    go_ret
    exact ⟨rfl, rfl⟩
  · have h1 : 0 ≤ i := by omega
    go_enter Tryz.func106, Tryz.ntmps106
    go_wp2_with (go_at_call 24; refine (alen_nil _).mono ?_; rintro e w1 ⟨rfl, rfl⟩)
    go_ret
    exact ⟨rfl, rfl⟩
theorem atail_nil (i : Int) (hi : i ≤ 9223372036854775807) (w : World) : Calls Tryz.prog 38 #[.pointer none, .int .i64 i] w fun e w' => e = .returned (.int .i64 (-1)) ∧ w' = w := by
  have hbk := Lib.hid (back_any i hi w)
  have hh := Lib.hid (ahead_nil (backI i) w)
  go_enter Tryz.func38, Tryz.ntmps38
  go_wp2_with (first
    | (go_at_call 113; refine hbk.out.mono ?_; rintro e w1 ⟨rfl, rfl⟩)
    | (go_at_call 39; refine hh.out.mono ?_; rintro e w1 ⟨rfl, rfl⟩))
  go_ret
  exact ⟨rfl, rfl⟩
end Edge
end Go.Proofs.YtjpfmkfikidgkaaGreat

set_option linter.unusedVariables false
set_option linter.unusedSimpArgs false
namespace Go.Proofs.YtjpfmkfikidgkaaGreat
open Go.RowKit
namespace Edge
/-- Arcs that are being made: the variable, the object, the row of arcs, the row of beginnings; behind them others. -/
def newP (pa b gf : Nat) (va vo : Value) (n m : Nat) (xs : List (Int × Int)) (fs : List Int) (R : List Part) : List Part :=
  Blk pa [.pointer (some ⟨b, 0, none⟩)] 47 :: Blk b [va, .slice (some ⟨gf, 0, none⟩) (n + 1) (n + 1), vo] 184 :: Row 198 2 m va (flat encA xs) :: Row 3 1 (n + 1) (.slice (some ⟨gf, 0, none⟩) (n + 1) (n + 1)) (i64s fs) :: R
theorem arcsL_snoc {L : List Ed} {k : Nat} (hk : k < L.length) : flat encA (arcsL (L.take (k + 1))) = flat encA (arcsL (L.take k)) ++ [.int .i64 L[k].2.1, .int .i64 L[k].2.2, .int .i64 L[k].1, .int .i64 L[k].2.2] := by
  rw [take_step hk, arcsL_append, flat_append]
  simp [arcsL, flat, encA]
theorem infoI : (Tryz.prog.info? 3).map (fun i => (i.zero, i.size, i.bytes)) = some (some (.int .i64 0), 1, 8) := by kernel_rfl
theorem sep_wrap {goalP : World → Prop} {W0 Wx : World} {L : List Part} (h : Sep W0 Wx L) (hp : ∀ Wg, Sep W0 Wg L → goalP Wg) : goalP Wx := hp Wx h
theorem nilRow {w0 w : World} {L : List Part} (h : Sep w0 w L) (e size : Nat) : Sep w0 w (Row e size 0 (.slice none 0 0) [] :: L) :=
  h.add (P := Row e size 0 (.slice none 0 0) []) (Mod.refl _ _) (F := []) ⟨World.ownsRow_nil w 0 _ size, by simp [Value.ownBlock]⟩ (by simp)
theorem new_start (w : World) (L : List Ed) (n : Nat) (hn : n ≤ 4096) : Sep w (((w.alloc (.cells (madeCells #[.int .i64 0] (n + 1)) 3)).alloc (.cells #[.slice none 0 0, .slice (some ⟨w.heap.size, 0, none⟩) (n + 1) (n + 1), .slice none 0 0] 184)).alloc (.cells #[.pointer (some ⟨w.heap.size + 1, 0, none⟩)] 47))
    (newP (w.heap.size + 1 + 1) (w.heap.size + 1) w.heap.size (.slice none 0 0) (.slice none 0 0) n 0 [] (fromL n (cntF L 0)) []) := by
  have h1 := ((nilRow ((Sep.empty w).made (made_made w 3 (.int .i64 0) (n + 1) (by omega))) 198 2).box [.slice none 0 0, .slice (some ⟨w.heap.size, 0, none⟩) (n + 1) (n + 1), .slice none 0 0] 184).box [.pointer (some ⟨w.heap.size + 1, 0, none⟩)] 47
  simp only [World.size_alloc] at h1
  unfold newP
  rw [cntF_zero]
  have e : i64s (List.replicate (n + 1) 0) = List.replicate (n + 1) (.int .i64 0) := by simp [i64s]
  rw [e]
  exact h1
set_option maxRecDepth 100000 in
set_option maxHeartbeats 16000000 in
theorem acsr_new {w : World} {q : Option Addr} {n : Nat} {L : List Ed} (hG : GOk n L)
    (hN : ∀ W, Mod [] w W → Calls Tryz.prog 72 #[.pointer q] W fun e w' => e = .returned (.int .i64 n) ∧ w' = W)
    (hE : ∀ W, Mod [] w W → Calls Tryz.prog 92 #[.pointer q] W fun e w' => ∃ a c, e = .returned (.slice a L.length c) ∧ Made W w' 146 3 a L.length c (flat encEd L)) :
    Calls Tryz.prog 104 #[.pointer q] w fun e w' => ∃ b, e = .returned (.pointer (some ⟨b, 0, none⟩)) ∧ Sep w w' [ArcP b n L] := by
  have hn4 := hG.le
  have hl := hG.len
  have hN' := Lib.hid hN
  have hE' := Lib.hid hE
  have hG' := Lib.hid hG
  have hmk := make_run (P := Tryz.prog) 51 3 (.int .i64 0) 8 Tryz.underlying51 infoI rfl (by omega) (n + 1) (by omega)
  simp only [Int.natCast_add, Int.natCast_one] at hmk
  have hmk' := Lib.hid hmk
  clear hN hE hG hmk
  go_enter Tryz.func104, Tryz.ntmps104
  go_wp2_with fail
  refine (hN'.out _ (Mod.refl _ _)).mono ?_
  rintro e w1 ⟨rfl, hw1⟩
  subst w1
  have hmk := hmk'.out
  try dsimp only
  go_upto_region 2 with fail
  have hS := Lib.hid (new_start w L n (by omega))
  clear hmk hmk'
  generalize hW1 : (((w.alloc (.cells (madeCells #[.int .i64 0] (n + 1)) 3)).alloc (.cells #[.slice none 0 0, .slice (some ⟨w.heap.size, 0, none⟩) (n + 1) (n + 1), .slice none 0 0] 184)).alloc (.cells #[.pointer (some ⟨w.heap.size + 1, 0, none⟩)] 47)) = W1 at *
  clear hW1
  generalize w.heap.size + 1 + 1 = pa at *
  generalize w.heap.size + 1 = b at *
  generalize w.heap.size = gf at *
  go_wp2_with fail
  refine (hE'.out _ hS.out.mod).mono ?_
  rintro e w2 ⟨ae, ce, rfl, hm⟩
  have hS2 := Lib.hid (hS.out.made hm).rot
  clear hm hS hE'
  try dsimp only
  go_wp2_with fail
  go_loopw [21] (fun i wr => ∃ (k : Nat) (aa : Option Addr) (ca : Nat), k ≤ L.length ∧ i = .int .i64 k ∧ Hid (Sep w wr (newP pa b gf (.slice aa (2 * k) ca) (.slice none 0 0) n (2 * k) (arcsL (L.take k)) (fromL n (cntF L 0)) [Row 146 3 L.length (.slice ae L.length ce) (flat encEd L)]))) (fun i _ => L.length - (intOf i).toNat)
  case atStart => exact ⟨0, none, 0, Nat.zero_le _, rfl, hS2⟩
  case round =>
    clear hS2
    obtain ⟨k, aa, ca, hk, rfl, hS⟩ := hrel
    by_cases hlt : k < L.length
    · have hlt1 : (k : Int) < L.length := by omega
      obtain ⟨ge, rfl, hge, _, q0, q1, q2⟩ := ed_row (hS.out.rowAt 4 rfl) hlt
      have hsn := Lib.hid (arcsL_snoc hlt)
      have hlen := Lib.hid (show (flat encA (arcsL (L.take k))).length = 2 * k * 2 by rw [flat_length encA_len, arcsL_len, List.length_take]; omega)
      generalize L[k] = e at *
      obtain ⟨eu, ev, ew⟩ := e
      simp only at q0 q1 q2 hsn
      have hS1 := Lib.hid (hS.out.box [.int .i64 eu, .int .i64 ev, .int .i64 ew] 146)
      have hSt := Lib.hid (hS1.out.still (Mod.refl [] _).drew)
      have he := hS1.out.blkAt 0 rfl
      have hp := hS1.out.blkAt 1 rfl
      have hb := hS1.out.blkAt 2 rfl
      have hrow := Lib.hid (hSt.out.rowAt 3 rfl)
      have n1 := hS1.out.blkblk 1 2 (by omega) rfl rfl
      have n2 := hS1.out.blkblk 0 2 (by omega) rfl rfl
      have n3 := hS1.out.blkrow 0 3 (by omega) rfl rfl
      have n4 := hS1.out.blkrow 1 3 (by omega) rfl rfl
      generalize hWe : wr.alloc (.cells [.int .i64 eu, .int .i64 ev, .int .i64 ew].toArray 146) = We at *
      have hWe' := Lib.hid hWe
      obtain ⟨F, hF⟩ : ∃ F, F = b :: (Value.slice aa (2 * k) ca).ownBlock.toList := ⟨_, rfl⟩
      have hpF : pa ∉ F := by
        rw [hF, List.mem_cons, Option.mem_toList, not_or]
        exact ⟨n1, n4⟩
      have heF : wr.heap.size ∉ F := by
        rw [hF, List.mem_cons, Option.mem_toList, not_or]
        exact ⟨n2, n3⟩
      have hp' := Lib.hid hp
      have he' := Lib.hid he
      have hb' := Lib.hid hb
      have y1 : ∀ (o : Obj), (We.drew.alloc o).cell? ⟨b, 0, none⟩ = some (.slice aa (2 * k) ca) := fun o => (hb'.out.drew.alloc o).cell 0 rfl
      have y0 : We.drew.cell? ⟨b, 0, none⟩ = some (.slice aa (2 * k) ca) := hb'.out.drew.cell 0 rfl
      have yb := hb.cell 0 rfl
      have lb := hb.lt
      have lp := hp.lt
      have le := he.lt
      clear hS hp hb he n1 n2 n3 n4 hWe hS1
      go_upto_region 5 with fail
      rw [hWe'.out]
      clear hWe' q0 q1 q2 hge
      generalize wr.heap.size = eb at *
      have fp : ∀ m : Fut (Mod F) We.drew, m.v.cell? ⟨pa, 0, none⟩ = some (.pointer (some ⟨b, 0, none⟩)) := fun m => (hp'.out.drew.keep m.of hpF).cell 0 rfl
      have f0 : ∀ m : Fut (Mod F) We.drew, m.v.cell? ⟨eb, 0, none⟩ = some (.int .i64 eu) := fun m => (he'.out.drew.keep m.of heF).cell 0 rfl
      have f1 : ∀ m : Fut (Mod F) We.drew, m.v.cell? ⟨eb, 1, none⟩ = some (.int .i64 ev) := fun m => (he'.out.drew.keep m.of heF).cell 1 rfl
      have f2 : ∀ m : Fut (Mod F) We.drew, m.v.cell? ⟨eb, 2, none⟩ = some (.int .i64 ew) := fun m => (he'.out.drew.keep m.of heF).cell 2 rfl
      have hF' := Lib.hid hF
      clear hF hpF heF
      refine region_head (G := Mod F) [0, 1, 2, 3, 5, 6, 7, 8, 9, 10, 11, 12, 13, 14] #[true, true, true, true, false, true, true, true, true, true, true, true, true, true, true, false, false, false, false, false] 6 (by kernel_rfl) (by kernel_rfl) (by kernel_rfl) rfl (Mod.refl F) ?_
      simp only [pickO, nthO, List.cons_append, List.nil_append]
      repeat (go_big_quiet_step (fail))
      refine wpQuiet_nil ?_
      clear fp f0 f1 f2
      refine tail_two 4 15 (by kernel_rfl) rfl rfl ?_ ?_
      case' refine_1 =>
        intro K hK
        rw [if_pos (by rfl)]
        go_simp
        refine hK.out _ _ (Mod.refl _ _) ?_
        clear hK K
        refine tail_one 15 (by kernel_rfl) rfl ?_
        intro K hK
        rw [if_pos (by rfl)]
        go_simp
        refine hK.out _ _ ((Mod.refl _ _).alloc _) ?_
        clear hK K
      case' refine_2 =>
        intro K hK
        rw [if_pos (by rfl)]
        go_simp
        refine hK.out _ _ ((Mod.refl _ _).alloc _) ?_
        clear hK K
        refine tail_one 4 (by kernel_rfl) rfl ?_
        intro K hK
        rw [if_pos (by rfl)]
        go_simp
        refine hK.out _ _ ((Mod.refl _ _).alloc _) ?_
        clear hK K
      all_goals
        refine tail_one 16 (by kernel_rfl) rfl ?_
        intro K hK
        refine step_appS (W := We.drew) rfl (.tmp 29) (.tmp 40) 182 198 _ 2 16 rfl Tryz.underlying182 infoA rfl (by omega) (by omega) (.slice aa (2 * k) ca) (2 * k) 2 (flat encA (arcsL (L.take k))) [.int .i64 ev, .int .i64 ew, .int .i64 eu, .int .i64 ew] rfl rfl rfl rfl (by simp [Value.oneCell']) hrow.out (by omega) ?_
        intro a1 c1 w3 hown hm hv
        have hmF := Lib.hid (show Mod F We.drew w3 from hm.mono (fun g hg => by rw [hF'.out]; exact List.mem_cons_of_mem _ hg))
        refine hK.out _ _ hmF.out ?_
        clear hK K
        rw [← hsn.out] at hown
        have hS3 := Lib.hid (hSt.out.growAt 3 rfl hown hm hv)
        clear hown hm hv
        have hb3 := hS3.out.blkAt 2 rfl
        have gc := hb3.cell 0 rfl
        have gz := hb3.free 0
        have gl := hb3.lt
        clear hb3
        refine tail_one 17 (by kernel_rfl) rfl ?_
        intro K hK
        rw [if_pos (by rfl)]
        go_simp
        refine hK.out _ _ hmF.out ?_
        clear hK K
        refine tail_one 18 (by kernel_rfl) rfl ?_
        intro K hK
        rw [if_pos (by rfl)]
        go_simp
        refine hK.out _ _ hmF.out ?_
        clear hK K
        refine tail_one 19 (by kernel_rfl) rfl ?_
        intro K hK
        rw [if_pos (by rfl)]
        go_simp
        refine hK.out _ _ (hmF.out.setCell _ _ (fun _ => by rw [hF'.out]; simp)) ?_
        clear hK K
        refine tail_done (by kernel_rfl) ?_
        have hS4 := Lib.hid (hS3.out.setAt 2 rfl 0 (.slice a1 (2 * k + 2) c1)).tail
        clear hmF gc gz gl y1 y0 yb lb lp le hS3
        generalize w3.setCell ⟨b, 0, none⟩ (.slice a1 (2 * k + 2) c1) = w4 at *
        go_wp2_with fail
        go_roundw
        case rel => exact ⟨k + 1, a1, c1, by omega, by go_num, hS4⟩
        case measure => simp [intOf]; omega
    · have hkM : k = L.length := by omega
      have hS3 := Lib.hid (show Sep w wr (newP pa b gf (.slice aa (2 * L.length) ca) (.slice none 0 0) n (2 * L.length) (arcsL L) (fromL n (cntF L 0)) []) by
        have h5 := hS.out.dropAt 4 (by simp [newP])
        rw [hkM, List.take_length] at h5
        exact h5)
      clear hS hk hkM
      obtain ⟨m, hm⟩ : ∃ m, 2 * L.length = m := ⟨_, rfl⟩
      have hml : m ≤ 2097152 := by omega
      rw [hm] at hS3
      have hm' := Lib.hid hm
      have hma := Lib.hid (show (arcsL L).length = m by rw [arcsL_len, hm])
      clear hm
      obtain ⟨va, hva⟩ : ∃ va, va = Value.slice aa m ca := ⟨_, rfl⟩
      have hva' := Lib.hid hva
      have hS4 := hS3
      have p0 := (hS3.out.blkAt 0 rfl).cell 0 rfl
      have b0 := (hS3.out.blkAt 1 rfl).cell 0 rfl
      have lp := (hS3.out.blkAt 0 rfl).lt
      have lb := (hS3.out.blkAt 1 rfl).lt
      clear hS3 hva
      go_wp2_with fail
      clear p0 b0 lp lb hlt
      go_loopw [50] (fun i wr => ∃ k : Nat, k ≤ m ∧ i = .int .i64 k ∧ Hid (Sep w wr (newP pa b gf (.slice aa m ca) (.slice none 0 0) n m (arcsL L) (fromL n (cntF L k)) []))) (fun i _ => m - (intOf i).toNat)
      case atStart => exact ⟨0, Nat.zero_le _, rfl, hS4⟩
      case round =>
        clear hS4
        obtain ⟨k, hk, rfl, hS⟩ := hrel
        by_cases hlt : k < m
        · have hlt1 : (k : Int) < m := by omega
          have hkL : k < 2 * L.length := by rw [hm'.out]; exact hlt
          obtain ⟨t, ht⟩ : ∃ t : Nat, tailE L k = (t : Int) := ⟨(tailE L k).toNat, by have := tail_in hG'.out hkL; omega⟩
          have htn : t < n := by have := tail_in hG'.out hkL; omega
          have ct := Lib.hid (atail_any (hS.out.still (Mod.refl [] wr).drew |>.blkAt 1 rfl) (hS.out.still (Mod.refl [] wr).drew |>.rowAt 2 rfl) hma.out hml (k : Int) (by omega))
          rw [show tailI L (k : Int) = (t : Int) by unfold tailI; rw [if_neg (by omega), Int.toNat_natCast, ht]] at ct
          have hst := Lib.hid (cntF_step (n := n) ht)
          have hle := ofU_le L k t
          obtain ⟨c, hc⟩ : ∃ c, cntF L k (t + 1) = c := ⟨_, rfl⟩
          have hcl : c ≤ m := by rw [← hc]; unfold cntF; rw [if_neg (by omega), Nat.add_sub_cancel]; omega
          have c9 : wr.drew.cell? ⟨gf, t + 1, none⟩ = some (.int .i64 (c : Int)) := by
            have := (hS.out.rowAt 3 rfl).cellAt (t + 1) (by omega)
            rw [i64s_got (fromL_get (f := cntF L k) (show t + 1 ≤ n by omega)), hc] at this
            exact this
          have f9 : wr.drew.frozen? ⟨gf, t + 1, none⟩ = false := (hS.out.rowAt 3 rfl).frozenAt (t + 1)
          have l9 : gf < wr.drew.heap.size := own_lt (hS.out.rowAt 3 rfl) (g := gf) rfl
          have n1 : pa ≠ gf := fun e => hS.out.blkrow 0 3 (by omega) rfl rfl (by rw [e]; rfl)
          have n2 : b ≠ gf := fun e => hS.out.blkrow 1 3 (by omega) rfl rfl (by rw [e]; rfl)
          have hp' := Lib.hid (hS.out.blkAt 0 rfl)
          have hb' := Lib.hid (hS.out.blkAt 1 rfl)
          have hSn := Lib.hid (show Sep w (wr.setCell ⟨gf, t + 1, none⟩ (.int .i64 ((c : Int) + 1))).drew (newP pa b gf (.slice aa m ca) (.slice none 0 0) n m (arcsL L) (fromL n (cntF L (k + 1))) []) by
            have h5 := hS.out.rowsetAt 3 rfl (t + 1) (.int .i64 ((c : Int) + 1))
            rw [i64s_set, show ((c : Int) + 1) = ((cntF L k (t + 1) + 1 : Nat) : Int) by rw [hc]; rfl, hst.out] at h5
            rw [show ((c : Int) + 1) = ((cntF L k (t + 1) + 1 : Nat) : Int) by rw [hc]; rfl]
            exact h5.still (Mod.refl [] _).drew)
          have fp : ∀ m : Fut (Mod [gf]) wr.drew, m.v.cell? ⟨pa, 0, none⟩ = some (.pointer (some ⟨b, 0, none⟩)) := fun m => (hp'.out.drew.keep m.of (by simpa using n1)).cell 0 rfl
          have fb : ∀ m : Fut (Mod [gf]) wr.drew, m.v.cell? ⟨b, 1, none⟩ = some (.slice (some ⟨gf, 0, none⟩) (n + 1) (n + 1)) := fun m => (hb'.out.drew.keep m.of (by simpa using n2)).cell 1 rfl
          have ht1 : (t : Int) + 1 < (n : Int) + 1 := by omega
          clear hS ht hst hc hkL n1 n2 hp' hb' hle
          go_upto_region 10 with fail
          refine region_sched (G := Mod [gf]) [([0,1,2,3,4,5],6), ([7,8],9), ([10,11],12)] [] (by kernel_rfl) (by kernel_rfl) (by kernel_rfl) rfl (Mod.refl _) (fun _ _ _ h1 h2 => h1.trans h2 (fun b hb _ => hb)) ?_
          simp only [stages, pickO, nthO, headO, List.append_eq, List.cons_append, List.nil_append]
          refine sched_step ?_
          repeat (go_big_quiet_step (fail))
          refine wpQuiet_nil ?_
          intro K hK
          rw [if_pos (by rfl)]
          go_simp
          refine ct.out.mono ?_
          rintro e w5 ⟨rfl, hw5⟩
          subst w5
          try dsimp only
          refine hK.out _ _ (Mod.refl _ _) ?_
          clear hK K ct
          refine sched_step ?_
          repeat (go_big_quiet_step (fail))
          refine wpQuiet_nil ?_
          intro K hK
          rw [if_pos (by rfl)]
          go_simp
          refine hK.out _ _ (Mod.refl _ _) ?_
          clear hK K
          refine sched_step ?_
          repeat (go_big_quiet_step (fail))
          refine wpQuiet_nil ?_
          intro K hK
          rw [if_pos (by rfl)]
          go_simp
          refine hK.out _ _ ((Mod.refl _ _).setCell _ _ (fun _ => by simp)) ?_
          clear hK K fp fb c9 f9 l9
          refine sched_last ?_
          refine wpQuiet_nil ?_
          go_wp2_with fail
          go_roundw
          case rel => exact ⟨k + 1, by omega, by go_num, hSn⟩
          case measure => simp [intOf]; omega
        · have hkM : k = m := by omega
          have hS5 := Lib.hid (show Sep w wr (newP pa b gf (.slice aa m ca) (.slice none 0 0) n m (arcsL L) (fromL n (preF L 0)) []) by
            rw [← cntF_all, hm'.out, ← hkM]; exact hkM ▸ hS.out)
          clear hS hk hkM
          have hN3 := hN'.out
          go_wp2_with fail
          refine (hN'.out _ hS5.out.mod).mono ?_
          rintro e w5 ⟨rfl, hw5⟩
          subst w5
          try dsimp only
          clear hlt hN3
          go_wp2_with fail
          go_loopw [68] (fun i wr => ∃ j : Nat, j ≤ n ∧ i = .int .i64 j ∧ Hid (Sep w wr (newP pa b gf (.slice aa m ca) (.slice none 0 0) n m (arcsL L) (fromL n (preF L j)) []))) (fun i _ => n - (intOf i).toNat)
          case atStart => exact ⟨0, Nat.zero_le _, rfl, hS5⟩
          case round =>
            clear hS5
            obtain ⟨j, hj, rfl, hS⟩ := hrel
            by_cases hlt : j < n
            · have hlt1 : (j : Int) < n := by omega
              have hlt2 : (j : Int) + 1 < (n : Int) + 1 := by omega
              have hlt3 : (j : Int) < (n : Int) + 1 := by omega
              have hst := Lib.hid (preF_step (n := n) (L := L) (j := j))
              obtain ⟨c, hc⟩ : ∃ c, preF L j (j + 1) = c := ⟨_, rfl⟩
              obtain ⟨d, hd⟩ : ∃ d, preF L j j = d := ⟨_, rfl⟩
              have hcl : c ≤ m := by rw [← hc, ← hm'.out]; unfold preF; rw [if_neg (by omega), Nat.add_sub_cancel]; exact ofU_le _ _ _
              have hdl : d ≤ m := by rw [← hd, ← hm'.out]; unfold preF; rw [if_pos (Nat.le_refl _)]; exact posF_le hG'.out (by omega)
              have c7 : wr.drew.cell? ⟨gf, j + 1, none⟩ = some (.int .i64 (c : Int)) := by
                have := (hS.out.rowAt 3 rfl).cellAt (j + 1) (by omega)
                rw [i64s_got (fromL_get (f := preF L j) (show j + 1 ≤ n by omega)), hc] at this
                exact this
              have c8 : wr.cell? ⟨gf, j, none⟩ = some (.int .i64 (d : Int)) := by
                have := (hS.out.rowAt 3 rfl).cellAt j (by omega)
                rw [i64s_got (fromL_get (f := preF L j) (show j ≤ n by omega)), hd] at this
                exact this
              have f9 : wr.drew.frozen? ⟨gf, j + 1, none⟩ = false := (hS.out.rowAt 3 rfl).frozenAt (j + 1)
              have l9 : gf < wr.drew.heap.size := own_lt (hS.out.rowAt 3 rfl) (g := gf) rfl
              have p0 := (hS.out.blkAt 0 rfl).cell 0 rfl
              have b1 := (hS.out.blkAt 1 rfl).cell 1 rfl
              have lp := (hS.out.blkAt 0 rfl).lt
              have lb := (hS.out.blkAt 1 rfl).lt
              have hSs := Lib.hid (hS.out.rowsetAt 3 rfl (j + 1) (.int .i64 ((c : Int) + (d : Int))))
              have q0 := Lib.hid ((hSs.out.blkAt 0 rfl).cell 0 rfl)
              have q1 := Lib.hid ((hSs.out.blkAt 1 rfl).cell 1 rfl)
              have q2 : Hid (((wr.setCell ⟨gf, j + 1, none⟩ (.int .i64 ((c : Int) + (d : Int)))).cell? ⟨gf, j, none⟩ = some (.int .i64 (d : Int)))) := Lib.hid (by
                have h6 := (hSs.out.rowAt 3 rfl).cellAt j (by omega)
                rw [List.getElem?_set_ne (by omega), i64s_got (fromL_get (f := preF L j) (show j ≤ n by omega)), hd] at h6
                exact h6)
              have hSn := Lib.hid (show Sep w (wr.setCell ⟨gf, j + 1, none⟩ (.int .i64 ((c : Int) + (d : Int)))).drew (newP pa b gf (.slice aa m ca) (.slice none 0 0) n m (arcsL L) (fromL n (preF L (j + 1))) []) by
                have h5 := hSs.out
                rw [i64s_set, show ((c : Int) + (d : Int)) = ((preF L j (j + 1) + preF L j j : Nat) : Int) by rw [hc, hd]; rfl, hst.out] at h5
                rw [show ((c : Int) + (d : Int)) = ((preF L j (j + 1) + preF L j j : Nat) : Int) by rw [hc, hd]; rfl]
                exact h5.still (Mod.refl [] _).drew)
              have k0 := KC.one (w := wr.drew) (L := [(⟨pa, 0, none⟩, .pointer (some ⟨b, 0, none⟩)), (⟨b, 1, none⟩, .slice (some ⟨gf, 0, none⟩) (n + 1) (n + 1)), (⟨gf, j, none⟩, .int .i64 (d : Int))]) p0 (by simp)
              have k1 := KC.one (w := wr.drew) (L := [(⟨pa, 0, none⟩, .pointer (some ⟨b, 0, none⟩)), (⟨b, 1, none⟩, .slice (some ⟨gf, 0, none⟩) (n + 1) (n + 1)), (⟨gf, j, none⟩, .int .i64 (d : Int))]) b1 (by simp)
              have k2 := KC.one (w := wr.drew) (L := [(⟨pa, 0, none⟩, .pointer (some ⟨b, 0, none⟩)), (⟨b, 1, none⟩, .slice (some ⟨gf, 0, none⟩) (n + 1) (n + 1)), (⟨gf, j, none⟩, .int .i64 (d : Int))]) c8 (by simp)
              clear hS hst hc hd hSs p0 b1 c8
              go_upto_region 15 with fail
              refine region_sched (G := KC [(⟨pa, 0, none⟩, .pointer (some ⟨b, 0, none⟩)), (⟨b, 1, none⟩, .slice (some ⟨gf, 0, none⟩) (n + 1) (n + 1)), (⟨gf, j, none⟩, .int .i64 (d : Int))]) [([0,1,2,3,4,5,6,8,9,10,11,12,13,14],7), ([15,16],17)] [] (by kernel_rfl) (by kernel_rfl) (by kernel_rfl) rfl (KC.refl _) (KC.trans _) ?_
              simp only [stages, pickO, nthO, headO, List.append_eq, List.cons_append, List.nil_append]
              refine sched_step ?_
              repeat (go_big_quiet_step (fail))
              refine wpQuiet_nil ?_
              intro K hK
              rw [if_pos (by rfl)]
              go_simp
              refine hK.out _ _ (KC.refl _ _) ?_
              clear hK K
              refine sched_step ?_
              repeat (go_big_quiet_step (fail))
              refine wpQuiet_nil ?_
              intro K hK
              rw [if_pos (by rfl)]
              go_simp
              refine hK.out _ _ (fun p hp _ => by
                simp only [List.mem_cons, List.mem_nil_iff, or_false] at hp
                rcases hp with rfl | rfl | rfl
                · exact q0.out
                · exact q1.out
                · exact q2.out) ?_
              clear hK K k0 k1 k2 c7 f9 l9 q0 q1 q2 lp lb
              refine sched_last ?_
              refine wpQuiet_nil ?_
              go_wp2_with fail
              go_roundw
              case rel => exact ⟨j + 1, by omega, by go_num, hSn⟩
              case measure => simp [intOf]; omega
            · have hjn : j = n := by omega
              have hS6 := Lib.hid (show Sep w wr (newP pa b gf (.slice aa m ca) (.slice none 0 0) n m (arcsL L) (fromL n (posF L)) []) by
                rw [← preF_all]; exact hjn ▸ hS.out)
              clear hS hj hjn
              have hmk := make_run (P := Tryz.prog) 51 3 (.int .i64 0) 8 Tryz.underlying51 infoI rfl (by omega) m (by omega)
              have p0 := (hS6.out.blkAt 0 rfl).cell 0 rfl
              have b0 := (hS6.out.blkAt 1 rfl).cell 0 rfl
              have lp := (hS6.out.blkAt 0 rfl).lt
              have lb := (hS6.out.blkAt 1 rfl).lt
              have k0 := KC.one (w := wr.drew) (L := [(⟨pa, 0, none⟩, .pointer (some ⟨b, 0, none⟩)), (⟨b, 0, none⟩, .slice aa m ca)]) p0 (by simp)
              have k1 := KC.one (w := wr.drew) (L := [(⟨pa, 0, none⟩, .pointer (some ⟨b, 0, none⟩)), (⟨b, 0, none⟩, .slice aa m ca)]) b0 (by simp)
              have hSa := Lib.hid ((hS6.out.still (Mod.refl [] wr).drew).made (made_made wr.drew 3 (.int .i64 0) m (by omega)))
              clear hS6
              go_upto_region 17 with fail
              refine region_sched (G := KC [(⟨pa, 0, none⟩, .pointer (some ⟨b, 0, none⟩)), (⟨b, 0, none⟩, .slice aa m ca)]) [([0,1,2,3,4,5],6), ([7,8],9)] [] (by kernel_rfl) (by kernel_rfl) (by kernel_rfl) rfl (KC.refl _) (KC.trans _) ?_
              simp only [stages, pickO, nthO, headO, List.append_eq, List.cons_append, List.nil_append]
              refine sched_step ?_
              repeat (go_big_quiet_step (fail))
              refine wpQuiet_nil ?_
              intro K hK
              rw [if_pos (by rfl)]
              go_simp
              refine hK.out _ _ (fun p hp _ => by
                simp only [List.mem_cons, List.mem_nil_iff, or_false] at hp
                rcases hp with rfl | rfl
                · exact (hSa.out.blkAt 1 rfl).cell 0 rfl
                · exact (hSa.out.blkAt 2 rfl).cell 0 rfl) ?_
              clear hK K k0 k1 p0 b0 lp lb hlt hmk
              refine sep_wrap (goalP := fun W => wpSched _ _ _ _ _ _ _ W) hSa.out ?_
              intro Wg hSg
              clear hSa
              rw [show wr.drew.heap.size = wr.heap.size from rfl] at hSg
              generalize wr.heap.size = go at *
              have gz := (hSg.blkAt 2 rfl).free 2
              have gc := (hSg.blkAt 2 rfl).cell 2 rfl
              have gl := (hSg.blkAt 2 rfl).lt
              have hSc := Lib.hid (hSg.setAt 2 rfl 2 (.slice (some ⟨go, 0, none⟩) m m)).rot
              clear hSg
              refine sched_step ?_
              repeat (go_big_quiet_step (fail))
              refine wpQuiet_nil ?_
              intro K hK
              rw [if_pos (by rfl)]
              go_simp
              refine hK.out _ _ (fun p hp _ => by
                simp only [List.mem_cons, List.mem_nil_iff, or_false] at hp
                rcases hp with rfl | rfl
                · exact (hSc.out.blkAt 0 rfl).cell 0 rfl
                · exact (hSc.out.blkAt 1 rfl).cell 0 rfl) ?_
              clear hK K gz gc gl
              generalize Wg.setCell ⟨b, 2, none⟩ (.slice (some ⟨go, 0, none⟩) m m) = W7 at *
              have hS7 := Lib.hid (show Sep w W7 (newP pa b gf (.slice aa m ca) (.slice (some ⟨go, 0, none⟩) m m) n m (arcsL L) (fromL n (posF L)) [Row 3 1 m (.slice (some ⟨go, 0, none⟩) m m) (i64s (fillL n L 0).flatten)]) by
                rw [fill_zero hG'.out, hm'.out]
                have e : i64s (List.replicate m 0) = List.replicate m (.int .i64 0) := by simp [i64s]
                rw [e]
                exact hSc.out)
              clear hSc
              refine sched_last ?_
              refine wpQuiet_nil ?_
              have p0 := (hS7.out.blkAt 0 rfl).cell 0 rfl
              have b1 := (hS7.out.blkAt 1 rfl).cell 1 rfl
              have lp := (hS7.out.blkAt 0 rfl).lt
              have lb := (hS7.out.blkAt 1 rfl).lt
              go_wp2_with fail
              have hfl : (fromL n (posF L)).length = n + 1 := fromL_len _ _
              have hcl := cloneI_any (w := W7) (a := some ⟨gf, 0, none⟩) (c := n + 1) (xs := fromL n (posF L)) (by rw [hfl]; exact Reads.own (hS7.out.rowAt 3 rfl)) (by omega)
              rw [hfl] at hcl
              refine hcl.mono ?_
              rintro e w8 ⟨an, cn, rfl, hmd⟩
              obtain ⟨gn, rfl, _⟩ := row_form hmd.own (by omega)
              have hS8 := Lib.hid (hS7.out.made hmd).rot
              clear hmd hS7 p0 b1 lp lb hcl hfl
              try dsimp only
              have p0 := (hS8.out.blkAt 0 rfl).cell 0 rfl
              have b0 := (hS8.out.blkAt 1 rfl).cell 0 rfl
              have lp := (hS8.out.blkAt 0 rfl).lt
              have lb := (hS8.out.blkAt 1 rfl).lt
              go_wp2_with fail
              clear p0 b0 lp lb
              have hS9 := Lib.hid (show Sep w w8 (newP pa b gf (.slice aa m ca) (.slice (some ⟨go, 0, none⟩) m m) n m (arcsL L) (fromL n (posF L)) [Row 3 1 m (.slice (some ⟨go, 0, none⟩) m m) (i64s (fillL n L 0).flatten), Row 3 1 (n + 1) (.slice (some ⟨gn, 0, none⟩) (n + 1) cn) (i64s (fromL n (nextF L 0)))]) by
                rw [nextF_zero]; exact hS8.out)
              clear hS8
              go_loopw [108] (fun i wr => ∃ k : Nat, k ≤ m ∧ i = .int .i64 k ∧ Hid (Sep w wr (newP pa b gf (.slice aa m ca) (.slice (some ⟨go, 0, none⟩) m m) n m (arcsL L) (fromL n (posF L)) [Row 3 1 m (.slice (some ⟨go, 0, none⟩) m m) (i64s (fillL n L k).flatten), Row 3 1 (n + 1) (.slice (some ⟨gn, 0, none⟩) (n + 1) cn) (i64s (fromL n (nextF L k)))]))) (fun i _ => m - (intOf i).toNat)
              case atStart => exact ⟨0, Nat.zero_le _, rfl, hS9⟩
              case round =>
                clear hS9
                obtain ⟨k, hk, rfl, hS⟩ := hrel
                by_cases hlt : k < m
                · have hlt1 : (k : Int) < m := by omega
                  have hkL : k < 2 * L.length := by rw [hm'.out]; exact hlt
                  obtain ⟨t, ht⟩ : ∃ t : Nat, tailE L k = (t : Int) := ⟨(tailE L k).toNat, by have := tail_in hG'.out hkL; omega⟩
                  have htn : t < n := by have := tail_in hG'.out hkL; omega
                  have ct := Lib.hid (atail_any (hS.out.blkAt 1 rfl) (hS.out.rowAt 2 rfl) hma.out hml (k : Int) (by omega))
                  rw [show tailI L (k : Int) = (t : Int) by unfold tailI; rw [if_neg (by omega), Int.toNat_natCast, ht]] at ct
                  have hst := Lib.hid (fill_step hG'.out hkL ht)
                  have hsn := Lib.hid (nextF_step (n := n) ht)
                  obtain ⟨x, hx⟩ : ∃ x, nextF L k t = x := ⟨_, rfl⟩
                  have hxm : x < m := by
                    have h1 := ofU_lt_cnt hkL ht
                    have h2 := posF_le hG'.out (v := t + 1) (by omega)
                    rw [posF_succ, hm'.out] at h2
                    rw [← hx]; unfold nextF; omega
                  have c9 : ∀ W, Sep w W (newP pa b gf (.slice aa m ca) (.slice (some ⟨go, 0, none⟩) m m) n m (arcsL L) (fromL n (posF L)) [Row 3 1 m (.slice (some ⟨go, 0, none⟩) m m) (i64s (fillL n L (k + 1)).flatten), Row 3 1 (n + 1) (.slice (some ⟨gn, 0, none⟩) (n + 1) cn) (i64s (fromL n (nextF L k)))]) → W.cell? ⟨gn, t, none⟩ = some (.int .i64 (x : Int)) := fun W h => by
                    have := (h.rowAt 5 rfl).cellAt t (by omega)
                    rw [i64s_got (fromL_get (f := nextF L k) (show t ≤ n by omega)), hx] at this
                    exact this
                  have c8 : wr.cell? ⟨gn, t, none⟩ = some (.int .i64 (x : Int)) := by
                    have := (hS.out.rowAt 5 rfl).cellAt t (by omega)
                    rw [i64s_got (fromL_get (f := nextF L k) (show t ≤ n by omega)), hx] at this
                    exact this
                  have lnx := own_lt (hS.out.rowAt 5 rfl) (g := gn) rfl
                  have ogc : ∃ u, wr.drew.cell? ⟨go, x, none⟩ = some u := by
                    have h1 := (hS.out.rowAt 4 rfl).cellAt x (by omega)
                    have h2 := (hS.out.rowAt 4 rfl).1
                    rw [List.getElem?_eq_getElem (by omega)] at h1
                    exact ⟨_, h1⟩
                  obtain ⟨ou, ogc⟩ := ogc
                  have ogz : wr.drew.frozen? ⟨go, x, none⟩ = false := (hS.out.rowAt 4 rfl).frozenAt x
                  have ogl : go < wr.drew.heap.size := own_lt (hS.out.rowAt 4 rfl) (g := go) rfl
                  have p0 := (hS.out.blkAt 0 rfl).cell 0 rfl
                  have b2 := (hS.out.blkAt 1 rfl).cell 2 rfl
                  have lp := (hS.out.blkAt 0 rfl).lt
                  have lb := (hS.out.blkAt 1 rfl).lt
                  have hS1 := Lib.hid (show Sep w (wr.setCell ⟨go, x, none⟩ (.int .i64 (k : Int))).drew (newP pa b gf (.slice aa m ca) (.slice (some ⟨go, 0, none⟩) m m) n m (arcsL L) (fromL n (posF L)) [Row 3 1 m (.slice (some ⟨go, 0, none⟩) m m) (i64s (fillL n L (k + 1)).flatten), Row 3 1 (n + 1) (.slice (some ⟨gn, 0, none⟩) (n + 1) cn) (i64s (fromL n (nextF L k)))]) by
                    have h5 := hS.out.rowsetAt 4 rfl x (.int .i64 (k : Int))
                    rw [i64s_set, show x = posF L t + (ofU L k t).length by rw [← hx]; rfl, hst.out] at h5
                    rw [show x = posF L t + (ofU L k t).length by rw [← hx]; rfl]
                    exact h5.still (Mod.refl [] _).drew)
                  have k0 := KC.one (w := wr.drew) (L := [(⟨pa, 0, none⟩, .pointer (some ⟨b, 0, none⟩)), (⟨b, 2, none⟩, .slice (some ⟨go, 0, none⟩) m m), (⟨gn, t, none⟩, .int .i64 (x : Int))]) p0 (by simp)
                  have k1 := KC.one (w := wr.drew) (L := [(⟨pa, 0, none⟩, .pointer (some ⟨b, 0, none⟩)), (⟨b, 2, none⟩, .slice (some ⟨go, 0, none⟩) m m), (⟨gn, t, none⟩, .int .i64 (x : Int))]) b2 (by simp)
                  have k2 := KC.one (w := wr.drew) (L := [(⟨pa, 0, none⟩, .pointer (some ⟨b, 0, none⟩)), (⟨b, 2, none⟩, .slice (some ⟨go, 0, none⟩) m m), (⟨gn, t, none⟩, .int .i64 (x : Int))]) c8 (by simp)
                  have c9' := Lib.hid c9
                  have ht1 : (t : Int) < (n : Int) + 1 := by omega
                  have hx1 : (x : Int) < m := by omega
                  have hx' := Lib.hid hx
                  clear hS hst c9 b2 c8 hx ht
                  go_upto_region 23 with (go_at_call 38; refine ct.out.mono ?_; rintro e w9 ⟨rfl, hw9⟩; subst w9)
                  refine region_sched (G := KC [(⟨pa, 0, none⟩, .pointer (some ⟨b, 0, none⟩)), (⟨b, 2, none⟩, .slice (some ⟨go, 0, none⟩) m m), (⟨gn, t, none⟩, .int .i64 (x : Int))]) [([0,1,2,3,4,5,6,7,8,9],10)] [] (by kernel_rfl) (by kernel_rfl) (by kernel_rfl) rfl (KC.refl _) (KC.trans _) ?_
                  simp only [stages, pickO, nthO, headO, List.append_eq, List.cons_append, List.nil_append]
                  refine sched_step ?_
                  repeat (go_big_quiet_step (fail))
                  refine wpQuiet_nil ?_
                  intro K hK
                  rw [if_pos (by rfl)]
                  go_simp
                  refine hK.out _ _ (fun p hp _ => by
                    simp only [List.mem_cons, List.mem_nil_iff, or_false] at hp
                    rcases hp with rfl | rfl | rfl
                    · exact (hS1.out.blkAt 0 rfl).cell 0 rfl
                    · exact (hS1.out.blkAt 1 rfl).cell 2 rfl
                    · exact c9'.out _ hS1.out) ?_
                  clear hK K k0 k1 k2 ogc ogz ogl p0 lp lb ct lnx
                  generalize (wr.setCell ⟨go, x, none⟩ (.int .i64 (k : Int))).drew = W1 at *
                  refine sched_last ?_
                  refine wpQuiet_nil ?_
                  have nc := c9'.out _ hS1.out
                  have nz := (hS1.out.rowAt 5 rfl).frozenAt t
                  have nl := own_lt (hS1.out.rowAt 5 rfl) (g := gn) rfl
                  have hS2 := Lib.hid (show Sep w (W1.setCell ⟨gn, t, none⟩ (.int .i64 ((x : Int) + 1))) (newP pa b gf (.slice aa m ca) (.slice (some ⟨go, 0, none⟩) m m) n m (arcsL L) (fromL n (posF L)) [Row 3 1 m (.slice (some ⟨go, 0, none⟩) m m) (i64s (fillL n L (k + 1)).flatten), Row 3 1 (n + 1) (.slice (some ⟨gn, 0, none⟩) (n + 1) cn) (i64s (fromL n (nextF L (k + 1))))]) by
                    have h5 := hS1.out.rowsetAt 5 rfl t (.int .i64 ((x : Int) + 1))
                    rw [i64s_set, show ((x : Int) + 1) = ((nextF L k t + 1 : Nat) : Int) by rw [hx'.out]; rfl, hsn.out] at h5
                    rw [show ((x : Int) + 1) = ((nextF L k t + 1 : Nat) : Int) by rw [hx'.out]; rfl]
                    exact h5)
                  clear hS1 c9'
                  go_wp2_with fail
                  go_roundw
                  case rel => exact ⟨k + 1, by omega, by go_num, hS2⟩
                  case measure => simp [intOf]; omega
                · have hkm : k = m := by omega
                  have hS2 := Lib.hid (show Sep w wr (newP pa b gf (.slice aa m ca) (.slice (some ⟨go, 0, none⟩) m m) n m (arcsL L) (fromL n (posF L)) [Row 3 1 m (.slice (some ⟨go, 0, none⟩) m m) (i64s (mixO n L 0).flatten)]) by
                    have h5 := hS.out.dropAt 5 (by simp [newP])
                    rw [hkm, ← hm'.out, fill_all, hm'.out] at h5
                    exact h5)
                  clear hS hk hkm
                  go_wp2_with fail
                  refine (hN'.out _ hS2.out.mod).mono ?_
                  rintro e w5 ⟨rfl, hw5⟩
                  subst w5
                  try dsimp only
                  clear hlt
                  go_wp2_with fail
                  go_loopw [133] (fun i wr => ∃ j : Nat, j ≤ n ∧ i = .int .i64 j ∧ Hid (Sep w wr (newP pa b gf (.slice aa m ca) (.slice (some ⟨go, 0, none⟩) m m) n m (arcsL L) (fromL n (posF L)) [Row 3 1 m (.slice (some ⟨go, 0, none⟩) m m) (i64s (mixO n L j).flatten)]))) (fun i _ => n - (intOf i).toNat)
                  case atStart => exact ⟨0, Nat.zero_le _, rfl, hS2⟩
                  case round =>
                    clear hS2
                    obtain ⟨j, hj, rfl, hS⟩ := hrel
                    by_cases hlt : j < n
                    · have hlt1 : (j : Int) < n := by omega
                      have hof := Lib.hid (aof_any hG'.out hm'.out hlt (hS.out.blkAt 1 rfl) (hS.out.rowAt 3 rfl))
                      obtain ⟨A, B, eA, eB, lA⟩ := mixO_cut hG'.out hlt
                      have hsort := Lib.hid (fun W (hm : Mod [] wr W) => sort_win (A := A) (B := B) (d := ofU L (2 * L.length) j) (hS.out.still hm |>.blkAt 0 rfl) (hS.out.still hm |>.blkAt 1 rfl) (hS.out.still hm |>.rowAt 2 rfl) hma.out hml (by have := (hS.out.still hm).rowAt 4 rfl; rw [eA] at this; exact this) (fun i hi => by rw [← hm'.out]; exact (mem_ofU.1 hi).1)
                        (fun e => (hS.out.blkrow 0 4 (by omega) rfl rfl) (by rw [e]; rfl)) (fun e => (hS.out.blkrow 1 4 (by omega) rfl rfl) (by rw [e]; rfl)) (fun e => (hS.out.rowrow 2 4 (by omega) rfl rfl e) rfl))
                      rw [lA, show (ofU L (2 * L.length) j).length = cntE L j from rfl] at hsort
                      have hSg := Lib.hid (fun W (hm : Mod [] wr W) W2 (ho : W2.ownsRow 0 3 1 (.slice (some ⟨go, 0, none⟩) m m) m (i64s (mixO n L (j + 1)).flatten)) (m2 : Mod [go] W W2) => (hS.out.still hm).growAt 4 rfl ho m2 (.inl rfl))
                      have eB' := Lib.hid eB
                      have p0 := (hS.out.blkAt 0 rfl).cell 0 rfl
                      have lp := (hS.out.blkAt 0 rfl).lt
                      generalize winV go (posF L j) (cntE L j) = wv at *
                      clear hS eA eB lA
                      go_wp2_with fail
                      refine hof.out.mono ?_
                      rintro e w6 ⟨rfl, hm6⟩
                      have hs2 := Lib.hid (hsort.out _ hm6)
                      have hSg2 := Lib.hid (hSg.out _ hm6)
                      clear hof hsort hSg hm6 p0
                      try dsimp only
                      go_wp2_with fail
                      refine hs2.out.mono ?_
                      rintro e w7 ⟨rfl, d', hp', hs', ho', hm7⟩
                      have hdd := sort_ofS hG'.out hp' hs'
                      have hS7 := Lib.hid (hSg2.out w7 (by rw [eB'.out, ← hdd]; exact ho') hm7)
                      clear hs2 hSg2 hp' hs' ho' hm7 hdd eB' lp
                      try dsimp only
                      go_wp2_with fail
                      go_roundw
                      case rel => exact ⟨j + 1, by omega, by go_num, hS7⟩
                      case measure => simp [intOf]; omega
                    · have hjn : j = n := by omega
                      have p0 := (hS.out.blkAt 0 rfl).cell 0 rfl
                      have lp := (hS.out.blkAt 0 rfl).lt
                      have hfin : Hid (Sep w wr [ArcP b n L]) := by
                        have h5 := hS.out.dropAt 0 (by simp [newP])
                        rw [hjn] at h5
                        obtain ⟨F, q1, q2, q3⟩ := h5.out
                        refine Lib.hid ⟨F, ⟨inferInstance, F, [], by simp, ⟨gf, go, aa, ca, ?_⟩, rfl, by simp⟩, q2, q3⟩
                        rw [hm'.out]
                        exact q1
                      clear hS hj hjn
                      go_wp2_with fail
                      go_ret
                      exact ⟨b, rfl, hfin.out⟩
end Edge
end Go.Proofs.YtjpfmkfikidgkaaGreat

set_option linter.unusedVariables false
set_option linter.unusedSimpArgs false
namespace Go.Proofs.YtjpfmkfikidgkaaGreat
open Go.RowKit
namespace Edge
def cmpW (a b : Ed) : Int := if cmpI a.1 b.1 ≠ 0 then cmpI a.1 b.1 else cmpI a.2.1 b.2.1
theorem cmpW_lt {a b : Ed} : cmpW a b < 0 ↔ before (key a) (key b) := by
  unfold cmpW cmpI before key
  simp only
  repeat' split
  all_goals omega
theorem cmpW_eq {a b : Ed} : cmpW a b = 0 ↔ key a = key b := by
  unfold cmpW cmpI key
  rw [Prod.mk.injEq]
  repeat' split
  all_goals omega
set_option maxRecDepth 100000 in
set_option maxHeartbeats 2000000 in
theorem cmpW_any (a b : Ed) (w : World) : Calls Tryz.prog 206 #[edV a, edV b] w fun e w' => e = .returned (.int .i64 (cmpW a b)) ∧ Mod [] w w' := by
  obtain ⟨au, av, aw⟩ := a
  obtain ⟨bu, bv, bw⟩ := b
  have hA := (Has.new w [.int .i64 au, .int .i64 av, .int .i64 aw] 146).alloc (.cells #[.int .i64 bu, .int .i64 bv, .int .i64 bw] 146)
  have hB := Has.new (w.alloc (.cells #[.int .i64 au, .int .i64 av, .int .i64 aw] 146)) [.int .i64 bu, .int .i64 bv, .int .i64 bw] 146
  rw [World.size_alloc] at hB
  obtain ⟨W, hW⟩ : ∃ W, W = ((w.alloc (.cells #[.int .i64 au, .int .i64 av, .int .i64 aw] 146)).alloc (.cells #[.int .i64 bu, .int .i64 bv, .int .i64 bw] 146)).drew := ⟨_, rfl⟩
  replace hA : Has W w.heap.size [.int .i64 au, .int .i64 av, .int .i64 aw] 146 := by rw [hW]; exact hA
  replace hB : Has W (w.heap.size + 1) [.int .i64 bu, .int .i64 bv, .int .i64 bw] 146 := by rw [hW]; exact hB
  have f0 : ∀ m : Fut (Mod []) W, m.v.cell? ⟨w.heap.size, 0, none⟩ = some (.int .i64 au) := fun m => (hA.keep m.of (by simp)).cell 0 rfl
  have f1 : ∀ m : Fut (Mod []) W, m.v.cell? ⟨w.heap.size, 1, none⟩ = some (.int .i64 av) := fun m => (hA.keep m.of (by simp)).cell 1 rfl
  have g0 : ∀ m : Fut (Mod []) W, m.v.cell? ⟨w.heap.size + 1, 0, none⟩ = some (.int .i64 bu) := fun m => (hB.keep m.of (by simp)).cell 0 rfl
  have g1 : ∀ m : Fut (Mod []) W, m.v.cell? ⟨w.heap.size + 1, 1, none⟩ = some (.int .i64 bv) := fun m => (hB.keep m.of (by simp)).cell 1 rfl
  have c1 := Lib.hid (fun w => compare_any au bu w)
  have c2 := Lib.hid (fun w => compare_any av bv w)
  have hr : orI [cmpI au bu, cmpI av bv] = cmpW (au, av, aw) (bu, bv, bw) := by
    unfold cmpW
    simp only [orI]
    repeat' split
    all_goals simp_all
  obtain ⟨r, hr2⟩ : ∃ r, cmpW (au, av, aw) (bu, bv, bw) = r := ⟨_, rfl⟩
  rw [hr2]
  rw [hr2] at hr
  have hor : ∀ w, Has w W.heap.size ([cmpI au bu, cmpI av bv].map fun x => Value.int .i64 x) 3 → Calls Tryz.prog 207 #[.slice (some ⟨W.heap.size, 0, none⟩) 2 2] w fun e w' => e = .returned (.int .i64 r) ∧ w' = w := fun w h => by
    have := or_any (l := [cmpI au bu, cmpI av bv]) (rd_has h (by simp))
    rw [hr] at this
    exact this
  generalize cmpI au bu = x1 at *
  generalize cmpI av bv = x2 at *
  have hor' := Lib.hid hor
  have hfin : Hid (Mod [] w (W.alloc (.cells #[.int .i64 x1, .int .i64 x2] 3))) := Lib.hid (by
    rw [hW]
    refine Mod.alloc ?_ _
    exact (((Mod.refl [] w).alloc _).alloc _).drew)
  have hW' := Lib.hid hW
  unfold edV
  clear hor hr hr2 hA hB hW
  go_enter Tryz.func206, Tryz.ntmps206
  go_upto_region 1 with fail
  refine region_sched (G := Mod []) [([0,1,2,3,5,6,7,8],4), ([],9), ([],10), ([],11)] [12] (by kernel_rfl) (by kernel_rfl) (by kernel_rfl) rfl (Mod.refl []) (fun _ _ _ h1 h2 => h1.trans h2 (by simp)) ?_
  simp only [stages, pickO, nthO, headO, List.cons_append, List.nil_append]
  rw [← hW'.out]
  refine sched_step ?_
  repeat (go_big_quiet_step (fail))
  refine wpQuiet_nil ?_
  intro K hK
  rw [if_pos (by rfl)]
  go_simp
  refine (c1.out _).mono ?_
  rintro e w1 ⟨rfl, rfl⟩
  try dsimp only
  refine hK.out _ _ (Mod.refl _ _) ?_
  clear hK K f0 f1 g0 g1
  refine sched_step ?_
  refine wpQuiet_nil ?_
  intro K hK
  rw [if_pos (by rfl)]
  go_simp
  refine (c2.out _).mono ?_
  rintro e w1 ⟨rfl, rfl⟩
  try dsimp only
  refine hK.out _ _ (Mod.refl _ _) ?_
  clear hK K
  refine sched_step ?_
  refine wpQuiet_nil ?_
  intro K hK
  rw [if_pos (by rfl)]
  go_simp
  refine hK.out _ _ ((Mod.refl [] _).alloc _) ?_
  clear hK K
  refine sched_step ?_
  refine wpQuiet_nil ?_
  intro K hK
  rw [if_pos (by rfl)]
  go_simp
  refine (hor'.out _ (Has.new _ _ _)).mono ?_
  rintro e w2 ⟨rfl, rfl⟩
  try dsimp only
  refine hK.out _ _ (Mod.refl _ _) ?_
  clear hK K
  refine sched_last ?_
  repeat (go_big_quiet_step (fail))
  refine wpQuiet_nil ?_
  go_wp2_with fail
  go_ret
  exact ⟨rfl, hfin.out⟩
/-! ### a search by halves -/
/-- All ahead of i come ahead of t; none from j on. -/
structure Cut (L : List Ed) (t : Ed) (i j : Nat) : Prop where
  low : ∀ k (h : k < L.length), k < i → cmpW L[k] t < 0
  high : ∀ k (h : k < L.length), j ≤ k → ¬ cmpW L[k] t < 0
theorem Cut.start (L : List Ed) (t : Ed) {n : Nat} (hn : L.length = n) : Cut L t 0 n := ⟨fun k _ h => by omega, fun k h h1 => by omega⟩
theorem Cut.up {L : List Ed} {t : Ed} {i j m : Nat} (h : Cut L t i j) (hs : Rising L) (hm : m < L.length) (hc : cmpW L[m] t < 0) : Cut L t (m + 1) j := by
  refine ⟨fun k hk hkm => ?_, h.high⟩
  rcases Nat.lt_or_ge k m with h1 | h1
  · rw [cmpW_lt] at *
    exact before_trans (List.pairwise_iff_getElem.1 hs k m hk hm h1) hc
  · obtain rfl : k = m := by omega
    exact hc
theorem Cut.down {L : List Ed} {t : Ed} {i j m : Nat} (h : Cut L t i j) (hs : Rising L) (hm : m < L.length) (hc : ¬ cmpW L[m] t < 0) : Cut L t i m := by
  refine ⟨h.low, fun k hk hkm => ?_⟩
  rcases Nat.lt_or_ge m k with h1 | h1
  · rw [cmpW_lt] at *
    exact fun h2 => hc (before_trans (List.pairwise_iff_getElem.1 hs m k hm hk h1) h2)
  · obtain rfl : k = m := by omega
    exact hc
/-- The search's answer: where, and whether there. -/
def Found (L : List Ed) (t : Ed) (i : Nat) (b : Bool) : Prop := (b = true → ∃ h : i < L.length, key L[i] = key t) ∧ (b = false → ∀ e ∈ L, key e ≠ key t)
theorem Cut.found {L : List Ed} {t : Ed} {i : Nat} (h : Cut L t i i) (hs : Rising L) (hi : i < L.length) : Found L t i (cmpW L[i] t == 0) := by
  constructor
  · intro hb
    exact ⟨hi, cmpW_eq.1 (by simpa using hb)⟩
  · intro hb e he hk
    have hne : cmpW L[i] t ≠ 0 := by simpa using hb
    obtain ⟨k, hk1, rfl⟩ := List.getElem_of_mem he
    rcases Nat.lt_trichotomy k i with h1 | h1 | h1
    · have := cmpW_lt.1 (h.low k hk1 h1)
      rw [hk] at this
      exact before_irrefl _ this
    · subst h1
      exact hne (cmpW_eq.2 hk)
    · have h2 := List.pairwise_iff_getElem.1 hs i k hi hk1 h1
      rw [hk] at h2
      exact h.high i hi (Nat.le_refl _) (cmpW_lt.2 h2)
theorem Cut.none {L : List Ed} {t : Ed} {i : Nat} (h : Cut L t i i) (hi : L.length ≤ i) : Found L t i false := by
  refine ⟨fun hb => Bool.noConfusion hb, fun _ e he hk => ?_⟩
  obtain ⟨k, hk1, rfl⟩ := List.getElem_of_mem he
  have := cmpW_lt.1 (h.low k hk1 (by omega))
  rw [hk] at this
  exact before_irrefl _ this
theorem found_weight {L : List Ed} (hs : Rising L) {u v : Int} {i : Nat} {b : Bool} {t : Ed} (ht : key t = (min u v, max u v)) (h : Found L t i b) : (b = true → ∃ hi : i < L.length, L[i].2.2 = weight L u v) ∧ (b = false → weight L u v = 0) := by
  constructor
  · intro hb
    obtain ⟨hi, h1⟩ := h.1 hb
    refine ⟨hi, ?_⟩
    rw [weight_wt hs.apart, ← ht, ← h1, wt_mem hs.apart _ (List.getElem_mem hi)]
  · intro hb
    rw [weight_wt hs.apart, ← ht]
    exact wt_away (fun x hx => h.2 hb x hx)
set_option maxRecDepth 100000 in
set_option maxHeartbeats 4000000 in
theorem search_any {l : List Ed} {a : Option Addr} {c : Nat} {w : World} (h : Rd w 3 (.slice a l.length c) l.length (flat encEd l)) (hs : Rising l) (hl : l.length ≤ 1048576) (t : Ed) :
    Calls Tryz.prog 205 #[.slice a l.length c, edV t, .func (.func 206) #[] #[]] w fun en w' => ∃ (i : Nat) (b : Bool), en = .returned (.tuple #[.int .i64 i, .bool b]) ∧ Found l t i b ∧ Mod [] w w' := by
  have h' := Lib.hid h
  have hs' := Lib.hid hs
  obtain ⟨n, hn⟩ : ∃ n, l.length = n := ⟨_, rfl⟩
  have hst := Lib.hid (Cut.start l t hn)
  have hn' := Lib.hid hn
  rw [hn] at hl ⊢
  obtain ⟨tu, tv, tw⟩ := t
  have hcm := Lib.hid (fun e w => cmpW_any e (tu, tv, tw) w)
  have hB := Lib.hid (Has.new w [.int .i64 tu, .int .i64 tv, .int .i64 tw] 146)
  unfold edV
  clear h hs hn
  go_enter Tryz.func205, Tryz.ntmps205
  go_wp2_with fail
  go_loopw [9, 10] (fun s9 s10 wr => ∃ i j : Nat, i ≤ j ∧ j ≤ n ∧ s9 = .int .i64 i ∧ s10 = .int .i64 j ∧ Hid (Cut l (tu, tv, tw) i j) ∧ Hid (Mod [] (w.alloc (.cells #[.int .i64 tu, .int .i64 tv, .int .i64 tw] 146)) wr)) (fun s9 s10 _ => (intOf s10).toNat - (intOf s9).toNat)
  case atStart => exact ⟨0, n, Nat.zero_le _, Nat.le_refl _, rfl, rfl, hst, Lib.hid (Mod.refl _ _)⟩
  case round =>
    clear hst
    obtain ⟨i, j, hij, hjn, rfl, rfl, hC, hmod⟩ := hrel
    by_cases hlt : i < j
    · have hlt1 : (i : Int) < j := by omega
      obtain ⟨m, hm, hm1, hm2⟩ : ∃ m : Nat, ((i : Int) + j) / 2 = m ∧ i ≤ m ∧ m < j := ⟨(i + j) / 2, by omega, by omega, by omega⟩
      go_upto_region 5 with fail
      try rw [hm]
      have hml : m < l.length := by have := hn'.out; omega
      obtain ⟨g, o, rfl, hg, hcell⟩ := ed_cells h'.out hml
      have hup := Lib.hid (fun hc => hC.out.up hs'.out hml hc)
      have hdn := Lib.hid (fun hc => hC.out.down hs'.out hml hc)
      have hmw := Lib.hid (fun (m : Fut (Mod []) wr.drew) => (((Mod.refl [] w).alloc (.cells #[.int .i64 tu, .int .i64 tv, .int .i64 tw] 146)).trans hmod.out (by simp)).drew.trans m.of (by simp))
      have q0 := fun (m : Fut (Mod []) wr.drew) => (hcell _ (hmw.out m)).1
      have q1 := fun (m : Fut (Mod []) wr.drew) => (hcell _ (hmw.out m)).2.1
      have q2 := fun (m : Fut (Mod []) wr.drew) => (hcell _ (hmw.out m)).2.2
      have hbk := Lib.hid (fun (m : Fut (Mod []) wr.drew) => hB.out.keep (hmod.out.drew.trans m.of (by simp)) (by simp))
      have r0 := fun (m : Fut (Mod []) wr.drew) => (hbk.out m).cell 0 rfl
      have r1 := fun (m : Fut (Mod []) wr.drew) => (hbk.out m).cell 1 rfl
      have r2 := fun (m : Fut (Mod []) wr.drew) => (hbk.out m).cell 2 rfl
      have hcm1 := fun w => hcm.out l[m] w
      generalize l[m] = e at *
      obtain ⟨eu, ev, ew⟩ := e
      unfold edV at hcm1
      simp only at hcm1 q0 q1 q2
      have hcm2 := Lib.hid hcm1
      clear hcm1 hcell hC
      refine region_sched (G := Mod []) [([0,1,2,3,4,5],6)] [7] (by kernel_rfl) (by kernel_rfl) (by kernel_rfl) rfl (Mod.refl []) (fun _ _ _ h1 h2 => h1.trans h2 (by simp)) ?_
      simp only [stages, pickO, nthO, headO, List.cons_append, List.nil_append]
      refine sched_step ?_
      repeat (go_big_quiet_step (fail))
      refine wpQuiet_nil ?_
      intro K hK
      rw [if_pos (by rfl)]
      go_simp
      refine (hcm2.out _).mono ?_
      rintro e w1 ⟨rfl, hm1'⟩
      try dsimp only
      refine hK.out _ _ hm1' ?_
      have hmod2 := Lib.hid ((hmod.out.drew).trans hm1' (by simp))
      clear hK K hm1' q0 q1 q2 r0 r1 r2 hcm2 hbk hmw
      refine sched_last ?_
      generalize cmpW (eu, ev, ew) (tu, tv, tw) = z at *
      by_cases hz : z < 0
      · have hC2 := Lib.hid (hup.out hz)
        clear hup hdn
        repeat (go_big_quiet_step (fail))
        refine wpQuiet_nil ?_
        go_wp2_with fail
        go_roundw
        case rel => exact ⟨m + 1, j, by omega, hjn, by go_num, rfl, hC2, hmod2⟩
        case measure => simp [intOf]; omega
      · have hC2 := Lib.hid (hdn.out hz)
        clear hup hdn
        repeat (go_big_quiet_step (fail))
        refine wpQuiet_nil ?_
        go_wp2_with fail
        go_roundw
        case rel => exact ⟨i, m, by omega, by omega, rfl, by go_num, hC2, hmod2⟩
        case measure => simp [intOf]; omega
    · obtain rfl : i = j := by omega
      by_cases hin : i < n
      · have hin1 : (i : Int) < n := by omega
        go_upto_region 8 with fail
        have hml : i < l.length := by have := hn'.out; omega
        obtain ⟨g, o, rfl, hg, hcell⟩ := ed_cells h'.out hml
        have hfd := Lib.hid (hC.out.found hs'.out hml)
        have hmw := Lib.hid (fun (m : Fut (Mod []) wr.drew) => (((Mod.refl [] w).alloc (.cells #[.int .i64 tu, .int .i64 tv, .int .i64 tw] 146)).trans hmod.out (by simp)).drew.trans m.of (by simp))
        have q0 := fun (m : Fut (Mod []) wr.drew) => (hcell _ (hmw.out m)).1
        have q1 := fun (m : Fut (Mod []) wr.drew) => (hcell _ (hmw.out m)).2.1
        have q2 := fun (m : Fut (Mod []) wr.drew) => (hcell _ (hmw.out m)).2.2
        have hbk := Lib.hid (fun (m : Fut (Mod []) wr.drew) => hB.out.keep (hmod.out.drew.trans m.of (by simp)) (by simp))
        have r0 := fun (m : Fut (Mod []) wr.drew) => (hbk.out m).cell 0 rfl
        have r1 := fun (m : Fut (Mod []) wr.drew) => (hbk.out m).cell 1 rfl
        have r2 := fun (m : Fut (Mod []) wr.drew) => (hbk.out m).cell 2 rfl
        have hcm1 := fun w => hcm.out l[i] w
        generalize l[i] = e at *
        obtain ⟨eu, ev, ew⟩ := e
        unfold edV at hcm1
        simp only at hcm1 q0 q1 q2
        have hcm2 := Lib.hid hcm1
        clear hcm1 hcell hC
        refine region_sched (G := Mod []) [([0,1,2,3,4,5,6,7,8,9,10],11)] [12,13,14,15] (by kernel_rfl) (by kernel_rfl) (by kernel_rfl) rfl (Mod.refl []) (fun _ _ _ h1 h2 => h1.trans h2 (by simp)) ?_
        simp only [stages, pickO, nthO, headO, List.cons_append, List.nil_append]
        refine sched_step ?_
        repeat (go_big_quiet_step (fail))
        refine wpQuiet_nil ?_
        intro K hK
        rw [if_pos (by rfl)]
        go_simp
        refine (hcm2.out _).mono ?_
        rintro e w1 ⟨rfl, hm1'⟩
        try dsimp only
        refine hK.out _ _ hm1' ?_
        have hmod2 := Lib.hid ((((Mod.refl [] w).alloc (.cells #[.int .i64 tu, .int .i64 tv, .int .i64 tw] 146)).trans hmod.out (by simp)).drew.trans hm1' (by simp))
        clear hK K hm1' q0 q1 q2 r0 r1 r2 hcm2 hbk hmw
        refine sched_last ?_
        generalize cmpW (eu, ev, ew) (tu, tv, tw) = z at *
        obtain ⟨b, hb⟩ : ∃ b, (z == 0) = b := ⟨_, rfl⟩
        rw [hb] at hfd
        repeat (go_big_quiet_step (fail))
        refine wpQuiet_nil ?_
        try rw [hb]
        go_wp2_with fail
        exact bodyPost_ret (v := .tuple #[.int .i64 i, .bool b]) (by simp [results, Tryz.results205, go_sem]) rfl ⟨i, b, rfl, hfd.out, hmod2.out⟩
      · obtain rfl : i = n := by omega
        have hfd := Lib.hid (hC.out.none (by rw [hn'.out]; exact Nat.le_refl _))
        have hmod2 := Lib.hid ((((Mod.refl [] w).alloc (.cells #[.int .i64 tu, .int .i64 tv, .int .i64 tw] 146)).trans hmod.out (by simp)))
        clear hC
        go_upto_region 8 with fail
        refine region_sched (G := Mod []) [([0,1,2,3,4,5,6,7,8,9,10],11)] [12,13,14,15] (by kernel_rfl) (by kernel_rfl) (by kernel_rfl) rfl (Mod.refl []) (fun _ _ _ h1 h2 => h1.trans h2 (by simp)) ?_
        simp only [stages, pickO, nthO, headO, List.cons_append, List.nil_append]
        refine sched_step ?_
        repeat (go_big_quiet_step (fail))
        refine wpQuiet_nil ?_
        intro K hK
        rw [if_neg (by exact Bool.false_ne_true)]
        go_simp
        refine hK.out _ _ (Mod.refl [] _) ?_
        clear hK K
        refine sched_last ?_
        repeat (go_big_quiet_step (fail))
        refine wpQuiet_nil ?_
        go_wp2_with fail
        exact bodyPost_ret (v := .tuple #[.int .i64 i, .bool false]) (by simp [results, Tryz.results205, go_sem]) rfl ⟨i, false, rfl, hfd.out, (hmod2.out).drew⟩
end Edge
end Go.Proofs.YtjpfmkfikidgkaaGreat

set_option linter.unusedVariables false
set_option linter.unusedSimpArgs false
namespace Go.Proofs.YtjpfmkfikidgkaaGreat
open Go.RowKit
namespace Edge
theorem norm_key (u v : Int) : ∃ x y : Int, norm (u, v, 0) = (x, y, 0) ∧ key (x, y, 0) = (min u v, max u v) := by
  unfold norm key
  simp only
  split
  · exact ⟨v, u, rfl, by simp only [Prod.mk.injEq]; omega⟩
  · exact ⟨u, v, rfl, by simp only [Prod.mk.injEq]; omega⟩
set_option maxRecDepth 100000 in
set_option maxHeartbeats 4000000 in
theorem weight_net {w : World} {b n : Nat} {L : List Ed} {F : List Nat} (h : NetP b n L w F) (hG : GOk n L) (u v : Int) : Calls Tryz.prog 143 #[.pointer (some ⟨b, 0, none⟩), .int .i64 u, .int .i64 v] w fun e w' => e = .returned (.int .i64 (weight L u v)) ∧ Mod [] w w' := by
  obtain ⟨gn, gd, a, c, hr⟩ := h.rd
  obtain ⟨x, y, hxy, hkey⟩ := norm_key u v
  have hnm := Lib.hid (normal_any (u, v, 0) w)
  unfold edV at hnm
  rw [hxy] at hnm
  simp only at hnm
  have hfw := Lib.hid (fun i b (hf : Found L (x, y, 0) i b) => found_weight hG.rising (u := u) (v := v) hkey hf)
  have hse := Lib.hid (fun W (m : Mod [] w W) => search_any (hr.eds.still m) hG.rising hG.len (x, y, 0))
  have hb := Lib.hid hr.hb
  have hce := Lib.hid (fun i (hi : i < L.length) => ed_cells hr.eds hi)
  clear hxy h hG hkey hr
  generalize weight L u v = r at *
  go_enter Tryz.func143, Tryz.ntmps143
  go_upto_region 4 with (go_at_call 167; refine hnm.out.mono ?_; rintro e w1 ⟨rfl, hm1⟩; have hm1' := Lib.hid hm1; clear hm1)
  have hbk := Lib.hid (fun (m : Fut (Mod []) (w1.alloc (.cells #[.int .i64 x, .int .i64 y, .int .i64 0] 146)).drew) => hb.out.keep (((hm1'.out.alloc (.cells #[.int .i64 x, .int .i64 y, .int .i64 0] 146)).drew).trans m.of (by simp)) (by simp))
  have hbb := Lib.hid (fun (m : Fut (Mod []) (w1.alloc (.cells #[.int .i64 x, .int .i64 y, .int .i64 0] 146)).drew) => (Has.new w1 [.int .i64 x, .int .i64 y, .int .i64 0] 146).keep ((Mod.refl [] (w1.alloc (.cells #[.int .i64 x, .int .i64 y, .int .i64 0] 146))).drew.trans m.of (by simp)) (by simp))
  have b2 := fun m => (hbk.out m).cell 2 rfl
  have r0 := fun m => (hbb.out m).cell 0 rfl
  have r1 := fun m => (hbb.out m).cell 1 rfl
  have r2 := fun m => (hbb.out m).cell 2 rfl
  have hse2 := Lib.hid (hse.out _ (hm1'.out.alloc (.cells #[.int .i64 x, .int .i64 y, .int .i64 0] 146)).drew)
  clear hse
  refine region_sched (G := Mod []) [([0,1,2,3,4],5)] [6,7,8,9,10] (by kernel_rfl) (by kernel_rfl) (by kernel_rfl) rfl (Mod.refl []) (fun _ _ _ h1 h2 => h1.trans h2 (by simp)) ?_
  simp only [stages, pickO, nthO, headO, List.cons_append, List.nil_append]
  refine sched_step ?_
  repeat (go_big_quiet_step (fail))
  refine wpQuiet_nil ?_
  intro K hK
  rw [if_pos (by rfl)]
  go_simp
  refine hse2.out.mono ?_
  rintro e w2 ⟨i, q, rfl, hf, hm2⟩
  try dsimp only
  refine hK.out _ _ hm2 ?_
  have hmod2 := Lib.hid ((hm1'.out.alloc (.cells #[.int .i64 x, .int .i64 y, .int .i64 0] 146)).drew.trans hm2 (by simp))
  have hfw2 := hfw.out i q hf
  clear hK K hm2 b2 r0 r1 r2 hse2 hbk hbb hfw hf
  refine sched_last ?_
  repeat (go_big_quiet_step (fail))
  refine wpQuiet_nil ?_
  cases q with
  | false =>
    have hz := hfw2.2 rfl
    subst hz
    clear hfw2
    go_wp2_with fail
    go_ret
    exact ⟨rfl, hmod2.out⟩
  | true =>
    obtain ⟨hi, hz⟩ := hfw2.1 rfl
    obtain ⟨g, o, rfl, hg, hcell⟩ := hce.out i hi
    obtain ⟨_, _, q2⟩ := hcell w2 hmod2.out
    rw [hz] at q2
    have hb2 := hb.out.keep hmod2.out (by simp)
    have b2 := hb2.cell 2 rfl
    have bl := hb2.lt
    have hg2 : g < w2.heap.size := Nat.lt_of_lt_of_le hg hmod2.out.size
    have hi1 : (i : Int) < L.length := by omega
    clear hfw2 hz hce hcell hb2
    go_wp2_with fail
    go_ret
    exact ⟨rfl, hmod2.out⟩
end Edge
end Go.Proofs.YtjpfmkfikidgkaaGreat

set_option linter.unusedVariables false
set_option linter.unusedSimpArgs false
namespace Go.Proofs.YtjpfmkfikidgkaaGreat
open Go.RowKit
namespace Edge
theorem rd_ed {w : World} {b : Nat} {l : List Ed} {t : TypeId} (h : Has w b (flat encEd l) t) (hl : l.length ≤ 1000000000) : Rd w 3 (.slice (some ⟨b, 0, none⟩) l.length l.length) l.length (flat encEd l) :=
  ⟨flat_length encEd_len l, .inr ⟨⟨b, 0, none⟩, l.length, rfl, Nat.le_refl _, by simp only [maxLen]; omega, fun j u hu => by rw [Addr.add_lit, Nat.zero_add]; exact h.cell j hu⟩⟩
section
variable {w0 w : World} {b n : Nat} {L : List Ed} {R : List Part}
theorem n_sep (h : Sep w0 w (NetP b n L :: R)) : Calls Tryz.prog 72 #[.pointer (some ⟨b, 0, none⟩)] w fun e w' => e = .returned (.int .i64 n) ∧ w' = w := by
  obtain ⟨F, h1, _⟩ := h.first
  exact n_net h1
theorem m_sep (h : Sep w0 w (NetP b n L :: R)) : Calls Tryz.prog 73 #[.pointer (some ⟨b, 0, none⟩)] w fun e w' => e = .returned (.int .i64 L.length) ∧ w' = w := by
  obtain ⟨F, h1, _⟩ := h.first
  exact m_net h1
theorem total_sep (h : Sep w0 w (NetP b n L :: R)) : Calls Tryz.prog 95 #[.pointer (some ⟨b, 0, none⟩)] w fun e w' => e = .returned (.int .i64 (total L)) ∧ w' = w := by
  obtain ⟨F, h1, _⟩ := h.first
  exact total_net h1
theorem near_sep (h : Sep w0 w (NetP b n L :: R)) (hG : GOk n L) (v : Int) : Calls Tryz.prog 141 #[.pointer (some ⟨b, 0, none⟩), .int .i64 v] w fun e w' => ∃ a c, e = .returned (.slice a (near n L v).length c) ∧ Sep w0 w' (Row 3 1 (near n L v).length (.slice a (near n L v).length c) (i64s (near n L v)) :: NetP b n L :: R) := by
  obtain ⟨F, h1, _⟩ := h.first
  refine (near_net h1 hG v).mono ?_
  rintro e w' ⟨a, c, rfl, hm⟩
  exact ⟨a, c, rfl, h.made hm⟩
theorem weight_sep (h : Sep w0 w (NetP b n L :: R)) (hG : GOk n L) (u v : Int) : Calls Tryz.prog 143 #[.pointer (some ⟨b, 0, none⟩), .int .i64 u, .int .i64 v] w fun e w' => e = .returned (.int .i64 (weight L u v)) ∧ Mod [] w w' := by
  obtain ⟨F, h1, _⟩ := h.first
  exact weight_net h1 hG u v
end
theorem newE_ok {n : Int} {l : List Ed} (h : newE n l = (0, 0)) : 0 ≤ n ∧ n ≤ 4096 ∧ l.length ≤ 1048576 ∧ ∀ e ∈ l, checkE n e = 0 := by
  unfold newE at h
  split at h
  · cases h
  split at h
  · cases h
  · exact ⟨by omega, by omega, by omega, checksE_ok.1 (by rw [h])⟩
theorem new_ok {n : Int} {l : List Ed} (h : newE n l = (0, 0)) : GOk n.toNat (merged l) := by
  obtain ⟨h1, h2, h3, h4⟩ := newE_ok h
  exact merged_ok (by omega) h3 (fun e he => by rw [show ((n.toNat : Nat) : Int) = n by omega]; exact h4 e he)
theorem merged16 : merged [(1, 0, 2), (0, 1, 3)] = [(0, 1, 5)] := by decide +kernel
end Edge
end Go.Proofs.YtjpfmkfikidgkaaGreat

set_option linter.unusedVariables false
set_option linter.unusedSimpArgs false
namespace Go.Proofs.YtjpfmkfikidgkaaGreat
open Go.RowKit
namespace Edge
theorem eds_of {w : World} {b n : Nat} {L : List Ed} {F : List Nat} (h : NetP b n L w F) : ∃ a c b0 b1 b3, Has w b [b0, b1, .slice a L.length c, b3] 169 ∧ Reads w 3 (.slice a L.length c) L.length (flat encEd L) := by
  obtain ⟨gn, gd, a, c, RS, hl, h⟩ := h
  have hz : (rowsP RS (nearL n L)).length = n := by unfold rowsP nearL; simp [hl]
  obtain ⟨_, ⟨k0, _⟩, _⟩ := parts_at h 0 _ rfl
  obtain ⟨_, ⟨k3, _⟩, _⟩ := parts_at h (n + 3) (Row 146 3 L.length (.slice a L.length c) (flat encEd L)) (by
    unfold endsL
    simp only [List.getElem?_cons_succ]
    rw [List.getElem?_append_right (by omega), hz]
    simp)
  exact ⟨a, c, _, _, _, k0, Reads.own k3⟩
/-- slices.Clone of edges. -/
theorem cloneEd_any {w : World} {a : Option Addr} {c : Nat} {L : List Ed} (h : Reads w 3 (.slice a L.length c) L.length (flat encEd L)) (hl : L.length ≤ 4294967296) :
    Calls Tryz.prog 163 #[.slice a L.length c] w fun e w' => ∃ a' c', e = .returned (.slice a' L.length c') ∧ Made w w' 146 3 a' L.length c' (flat encEd L) := by
  rcases h.cases with ⟨he, hn, hx⟩ | ⟨g, o, c', he, _, _⟩
  · injection he with e1 e2 e3
    subst e1
    subst e3
    have hx := List.eq_nil_of_length_eq_zero hn
    subst hx
    refine Calls.mono (show Calls Tryz.prog 163 _ _ _ from AnyE.slices_Clone_nil Sh.cloneEd 0 0 w) ?_
    rintro e w' ⟨rfl, rfl⟩
    exact ⟨none, 0, rfl, World.ownsRow_nil _ _ _ _, Mod.refl _ _, by simp [Value.ownBlock]⟩
  · injection he with e1 e2 e3
    subst e1
    subst e3
    have hcon := AnyE.slices_Clone Sh.cloneEd _ (.agg #[.int .i64 0, .int .i64 0, .int .i64 0]) 3 24 (Option.map_eq_some_iff.1 infoEd).choose_spec.1 (by have := (Option.map_eq_some_iff.1 infoEd).choose_spec.2; exact (Prod.mk.inj this).1) (by have := (Option.map_eq_some_iff.1 infoEd).choose_spec.2; exact (Prod.mk.inj (Prod.mk.inj this).2).1) (by have := (Option.map_eq_some_iff.1 infoEd).choose_spec.2; exact (Prod.mk.inj (Prod.mk.inj this).2).2) rfl (by omega) Tryz.sizeOf146 g o L.length c (flat encEd L) w (by rw [flat_length encEd_len]) (by simp only [maxLen]; omega) (by omega) (fun j u hu => h.cell j hu) (encEd_one L)
    refine Calls.mono (show Calls Tryz.prog 163 _ _ _ from hcon) ?_
    rintro e w' ⟨v', rfl, ho, hne, hb⟩
    obtain ⟨a', c', rfl, hm⟩ := made_below ho hb
    exact ⟨a', c', rfl, hm⟩
set_option maxHeartbeats 1000000 in
theorem edges_sep {w0 w : World} {b n : Nat} {L : List Ed} {R : List Part} (h : Sep w0 w (NetP b n L :: R)) (hl : L.length ≤ 1048576) :
    Calls Tryz.prog 92 #[.pointer (some ⟨b, 0, none⟩)] w fun e w' => ∃ a c, e = .returned (.slice a L.length c) ∧ Made w w' 146 3 a L.length c (flat encEd L) := by
  obtain ⟨F, h1, _⟩ := h.first
  obtain ⟨a, c, x0, x1, x3, hb, hr⟩ := eds_of h1
  have b2 := hb.cell 2 rfl
  have bl := hb.lt
  have hcl := Lib.hid (cloneEd_any hr (by omega))
  clear h h1 hb hr
  go_enter Tryz.func92, Tryz.ntmps92
  go_wp2_with (go_at_call 163; refine hcl.out.mono ?_; rintro e w1 ⟨a', c', rfl, hm⟩; have hm' := Lib.hid hm; clear hm)
  go_ret
  exact ⟨a', c', rfl, hm'.out⟩
/-- The edge of a number; whether there is one. -/
def edAt (L : List Ed) (i : Int) : Ed × Bool := if h : 0 ≤ i ∧ i < L.length then (L[i.toNat], true) else ((0, 0, 0), false)
set_option maxRecDepth 100000 in
set_option maxHeartbeats 2000000 in
theorem edge_sep {w0 w : World} {b n : Nat} {L : List Ed} {R : List Part} (h : Sep w0 w (NetP b n L :: R)) (i : Int) :
    Calls Tryz.prog 159 #[.pointer (some ⟨b, 0, none⟩), .int .i64 i] w fun e w' => e = .returned (.tuple #[edV (edAt L i).1, .bool (edAt L i).2]) ∧ Mod [] w w' := by
  obtain ⟨F, h1, _⟩ := h.first
  obtain ⟨a, c, x0, x1, x3, hb, hr⟩ := eds_of h1
  have hm := Lib.hid (fun (W : World) (m : Mod [] w W) => m_sep (h.still m))
  have hmod := Lib.hid ((Mod.refl [] w).alloc (.cells #[.int .i64 0, .int .i64 0, .int .i64 0] 146))
  have b2 := hb.cell 2 rfl
  have bl := hb.lt
  have hr' := Lib.hid (Rd.ofReads hr)
  clear h h1 hb hr
  by_cases h0 : i < 0
  · have e : edAt L i = ((0, 0, 0), false) := by unfold edAt; rw [dif_neg (by omega)]
    rw [e]
    unfold edV
    go_enter Tryz.func159, Tryz.ntmps159
    go_wp2_with fail
    exact bodyPost_ret (v := .tuple #[.agg #[.int .i64 0, .int .i64 0, .int .i64 0], .bool false]) (by simp [results, Tryz.results159, go_sem]) rfl ⟨rfl, hmod.out⟩
  by_cases h1 : (L.length : Int) ≤ i
  · have e : edAt L i = ((0, 0, 0), false) := by unfold edAt; rw [dif_neg (by omega)]
    rw [e]
    unfold edV
    go_enter Tryz.func159, Tryz.ntmps159
    go_wp2_with (go_at_call 73; refine (hm.out _ hmod.out).mono ?_; rintro e w1 ⟨rfl, rfl⟩)
    exact bodyPost_ret (v := .tuple #[.agg #[.int .i64 0, .int .i64 0, .int .i64 0], .bool false]) (by simp [results, Tryz.results159, go_sem]) rfl ⟨rfl, hmod.out⟩
  · obtain ⟨k, rfl⟩ := Int.eq_ofNat_of_zero_le (show 0 ≤ i by omega)
    have hk : k < L.length := by omega
    have e : edAt L (k : Int) = (L[k], true) := by unfold edAt; rw [dif_pos (by omega)]; simp
    rw [e]
    obtain ⟨g, o, rfl, hg, hcell⟩ := ed_cells hr'.out hk
    obtain ⟨q0, q1, q2⟩ := hcell w (Mod.refl _ _)
    generalize L[k] = x at *
    obtain ⟨xu, xv, xw⟩ := x
    unfold edV
    simp only at q0 q1 q2
    have hk1 : (k : Int) < L.length := by omega
    clear hcell e
    go_enter Tryz.func159, Tryz.ntmps159
    go_wp2_with (go_at_call 73; refine (hm.out _ hmod.out).mono ?_; rintro e w1 ⟨rfl, rfl⟩)
    exact bodyPost_ret (v := .tuple #[.agg #[.int .i64 xu, .int .i64 xv, .int .i64 xw], .bool true]) (by simp [results, Tryz.results159, go_sem]) rfl ⟨rfl, (Mod.refl [] w).alloc _⟩
end Edge
end Go.Proofs.YtjpfmkfikidgkaaGreat

set_option linter.unusedVariables false
set_option linter.unusedSimpArgs false
namespace Go.Proofs.YtjpfmkfikidgkaaGreat
open Go.RowKit
namespace Edge
/-- The same list of whole numbers? -/
def eqI (xs ys : List Int) : Bool := decide (xs = ys)
def intsV (l : List Int) : List Value := l.map fun x => .int .i64 x
/-- The world is the old one, but that some orders have been drawn. -/
def Drawn (w w' : World) : Prop := ∃ n, w' = w.drewN n
theorem Drawn.mod {w w' : World} (h : Drawn w w') : Mod [] w w' := by obtain ⟨n, rfl⟩ := h; exact (Mod.refl _ _).drewN n
def BoolOut (b : Bool) (w : World) (e : Ending) (w' : World) : Prop := e = .returned (.bool b) ∧ Drawn w w'

theorem reads_cell {w : World} {xs : List Int} {n k c : Nat} {a : Option Addr} (h : Reads w 1 (.slice a n c) n (intsV xs)) (hk : k < n) : ∃ g o, a = some ⟨g, o, none⟩ ∧ w.cell? ⟨g, o + k, none⟩ = some (.int .i64 (xs.getD k 0)) := by
  have hl : xs.length = n := by have := h.1; simpa [intsV] using this
  rcases h.cases with ⟨_, h0, _⟩ | ⟨g, o, c', he, _, _⟩
  · omega
  · injection he with he _ hc
    subst he
    refine ⟨g, o, rfl, h.cell k ?_⟩
    simp [intsV, List.getElem?_eq_getElem (show k < xs.length by omega), List.getD_eq_getElem?_getD]
theorem reads_slice {w : World} {size n : Nat} {xs : List Value} {v : Value} (h : Reads w size v n xs) : ∃ a c, v = .slice a n c := by
  rcases h.cases with ⟨rfl, rfl, _⟩ | ⟨g, o, c, rfl, _⟩
  · exact ⟨none, 0, rfl⟩
  · exact ⟨_, c, rfl⟩
theorem reads_len {w : World} {n : Nat} {xs : List Int} {v : Value} (h : Reads w 1 v n (intsV xs)) : xs.length = n ∧ n ≤ 9223372036854775807 := by
  have hl : xs.length = n := by have := h.1; simpa [intsV] using this
  refine ⟨hl, ?_⟩
  rcases h.cases with ⟨_, h0, _⟩ | ⟨g, o, c, rfl, h1, h2⟩
  · omega
  · simp only [maxLen] at h2; omega
end Edge
end Go.Proofs.YtjpfmkfikidgkaaGreat

set_option linter.unusedVariables false
set_option linter.unusedSimpArgs false
namespace Go.Proofs.YtjpfmkfikidgkaaGreat
open Go.RowKit
namespace Edge
theorem eqEd (a b : Ed) (w : World) : (Op.equalIn 10000 146 (.agg #[.int .i64 a.1, .int .i64 a.2.1, .int .i64 a.2.2]) (.agg #[.int .i64 b.1, .int .i64 b.2.1, .int .i64 b.2.2])).run Tryz.prog w = .ok (decide (a = b)) w := by
  obtain ⟨a1, a2, a3⟩ := a
  obtain ⟨b1, b2, b3⟩ := b
  have u1 := Tryz.underlying3
  have u2 := Tryz.underlying2
  have g1 := Tryz.isAgg3
  have g2 := Tryz.isAgg2
  have z1 := Tryz.sizeOf3
  have z2 := Tryz.sizeOf2
  have hS : Tryz.prog.underlying 146 = some (.struct (Tryz.prog.fieldsOf 146)) := by kernel_rfl
  have hp : Tryz.prog.stoodInHeld 146 = false := by kernel_rfl
  rw [show (10000 : Nat) = 9999 + 1 from rfl, run_equalIn_agg w 9999 146 _ _ hS hp]
  simp only [Program.fieldsOf, Tryz.underlying146]
  go_simp
  by_cases h1 : a1 = b1 <;> by_cases h2 : a2 = b2 <;> by_cases h3 : a3 = b3 <;> simp [h1, h2, h3]
theorem guardEd : Tryz.prog.eqGuardType Tryz.prog.depth 146 = false := by kernel_rfl
set_option maxRecDepth 100000 in
set_option maxHeartbeats 2000000 in
theorem rsame_any {w : World} {va vb : Value} {xs ys : List Ed} (ha : Rd w 3 va xs.length (flat encEd xs)) (hb : Rd w 3 vb ys.length (flat encEd ys)) :
    Calls Tryz.prog 91 #[va, vb] w fun e w' => e = .returned (.bool (decide (xs = ys))) ∧ Mod [] w w' := by
  obtain ⟨a1, c1, rfl⟩ := ha.val
  obtain ⟨a2, c2, rfl⟩ := hb.val
  have hle := ha.le
  have ha' := Lib.hid ha
  have hb' := Lib.hid hb
  clear ha hb
  obtain ⟨n1, hn1⟩ : ∃ n, xs.length = n := ⟨_, rfl⟩
  obtain ⟨n2, hn2⟩ : ∃ n, ys.length = n := ⟨_, rfl⟩
  have hn1' := Lib.hid hn1
  have hn2' := Lib.hid hn2
  rw [hn1] at hle
  rw [hn1, hn2]
  clear hn1 hn2
  by_cases hlen : n1 = n2
  · have hd : ((n1 : Int) != (n2 : Int)) = false := by simp [hlen]
    subst hlen
    go_enter Tryz.func91, Tryz.ntmps91
    go_wp2_with fail
    go_loopw [5] (fun i wr => ∃ k : Nat, k ≤ n1 ∧ i = .int .i64 k ∧ Hid (Mod [] w wr) ∧ Hid (xs.take k = ys.take k)) (fun i _ => n1 - (intOf i).toNat)
    case atStart => exact ⟨0, Nat.zero_le _, rfl, Lib.hid (Mod.refl _ _), Lib.hid (by simp)⟩
    case round =>
      obtain ⟨k, hk, rfl, hmod, heq⟩ := hrel
      by_cases hlt : k < n1
      · have hlt1 : (k : Int) < n1 := by omega
        have hk1 : k < xs.length := by rw [hn1'.out]; exact hlt
        have hk2 : k < ys.length := by rw [hn2'.out]; exact hlt
        obtain ⟨g1, o1, rfl, hg1, hc1⟩ := ed_cells ha'.out hk1
        obtain ⟨g2, o2, rfl, hg2, hc2⟩ := ed_cells hb'.out hk2
        obtain ⟨q0, q1, q2⟩ := hc1 wr hmod.out
        obtain ⟨r0, r1, r2⟩ := hc2 wr hmod.out
        have hgl1 := Nat.lt_of_lt_of_le hg1 hmod.out.size
        have hgl2 := Nat.lt_of_lt_of_le hg2 hmod.out.size
        have hyes := Lib.hid (fun (h : xs[k] = ys[k]) => (show xs.take (k + 1) = ys.take (k + 1) by rw [List.take_succ_eq_append_getElem hk1, List.take_succ_eq_append_getElem hk2, heq.out, h]))
        have hno := Lib.hid (fun (h : xs[k] ≠ ys[k]) => (show decide (xs = ys) = false by
          rw [decide_eq_false_iff_not]; intro e; subst e; exact h rfl))
        generalize xs[k] = x at *
        generalize ys[k] = y at *
        obtain ⟨xu, xv, xw⟩ := x
        obtain ⟨yu, yv, yw⟩ := y
        simp only at q0 q1 q2 r0 r1 r2
        clear hc1 hc2 hg1 hg2 hk1 hk2
        by_cases hxy : ((xu, xv, xw) : Ed) = (yu, yv, yw)
        · have hy2 := Lib.hid (hyes.out hxy)
          have hgd := guardEd
          have t : ∀ w, _ = Result.ok _ w := fun w => eqEd (xu, xv, xw) (yu, yv, yw) w
          rw [show decide (((xu, xv, xw) : Ed) = (yu, yv, yw)) = true by rw [hxy]; simp] at t
          simp only at t
          clear hxy
          clear hyes hno
          go_wp2_with fail
          go_quiet (fail)
          go_wp2_with fail
          go_roundw
          case rel => exact ⟨k + 1, by omega, by go_num, Lib.hid (hmod.out.drewN _), hy2⟩
          case measure => simp [intOf]; omega
        · have hn := Lib.hid (hno.out hxy)
          have hgd := guardEd
          have t : ∀ w, _ = Result.ok _ w := fun w => eqEd (xu, xv, xw) (yu, yv, yw) w
          rw [show decide (((xu, xv, xw) : Ed) = (yu, yv, yw)) = false by simpa using hxy] at t
          simp only at t
          clear hxy
          clear hyes hno
          go_wp2_with fail
          go_quiet (fail)
          go_wp2_with fail
          go_ret
          rw [hn.out]
          exact ⟨rfl, hmod.out.drewN _⟩
      · obtain rfl : k = n1 := by omega
        have hy : decide (xs = ys) = true := by
          rw [decide_eq_true_eq]
          have := heq.out
          rw [List.take_of_length_le (by rw [hn1'.out]; exact Nat.le_refl _), List.take_of_length_le (by rw [hn2'.out]; exact Nat.le_refl _)] at this
          exact this
        have hy' := Lib.hid hy
        clear hy heq
        go_wp2_with fail
        go_ret
        rw [hy'.out]
        exact ⟨rfl, hmod.out⟩
  · have hd : ((n1 : Int) != (n2 : Int)) = true := by simp; omega
    have hno := Lib.hid (show decide (xs = ys) = false by
      rw [decide_eq_false_iff_not]; intro e; subst e; exact hlen (hn1'.out.symm.trans hn2'.out))
    clear hlen
    go_enter Tryz.func91, Tryz.ntmps91
    go_wp2_with fail
    go_ret
    rw [hno.out]
    exact ⟨rfl, Mod.refl _ _⟩
end Edge
end Go.Proofs.YtjpfmkfikidgkaaGreat

set_option linter.unusedVariables false
set_option linter.unusedSimpArgs false
namespace Go.Proofs.YtjpfmkfikidgkaaGreat
open Go.RowKit
namespace Edge
end Edge
end Go.Proofs.YtjpfmkfikidgkaaGreat

set_option linter.unusedVariables false
set_option linter.unusedSimpArgs false
namespace Go.Proofs.YtjpfmkfikidgkaaGreat
open Go.RowKit
namespace Edge
theorem n_nil (w : World) : Calls Tryz.prog 72 #[.pointer none] w fun e w' => e = .returned (.int .i64 0) ∧ w' = w := by
  go_enter Tryz.func72, Tryz.ntmps72
  go_wp2
  go_ret
  exact ⟨rfl, rfl⟩
theorem m_nil (w : World) : Calls Tryz.prog 73 #[.pointer none] w fun e w' => e = .returned (.int .i64 0) ∧ w' = w := by
  go_enter Tryz.func73, Tryz.ntmps73
  go_wp2
  go_ret
  exact ⟨rfl, rfl⟩
theorem edges_nil (w : World) : Calls Tryz.prog 92 #[.pointer none] w fun e w' => e = .returned (.slice none 0 0) ∧ w' = w := by
  go_enter Tryz.func92, Tryz.ntmps92
  go_wp2
  go_ret
  exact ⟨rfl, rfl⟩
theorem total_nil (w : World) : Calls Tryz.prog 95 #[.pointer none] w fun e w' => e = .returned (.int .i64 0) ∧ w' = w := by
  go_enter Tryz.func95, Tryz.ntmps95
  go_wp2
  go_ret
  exact ⟨rfl, rfl⟩
theorem weight_nil (u v : Int) (w : World) : Calls Tryz.prog 143 #[.pointer none, .int .i64 u, .int .i64 v] w fun e w' => e = .returned (.int .i64 0) ∧ w' = w := by
  go_enter Tryz.func143, Tryz.ntmps143
  go_wp2
  go_ret
  exact ⟨rfl, rfl⟩
theorem near_nil (w : World) : Calls Tryz.prog 141 #[.pointer none, .int .i64 0] w fun e w' => e = .returned (.slice none 0 0) ∧ w' = w := by
  go_enter Tryz.func141, Tryz.ntmps141
  go_wp2_with (go_at_call 72; refine (n_nil _).mono ?_; rintro e w1 ⟨rfl, rfl⟩)
  go_ret
  exact ⟨rfl, rfl⟩
theorem edge_nil (w : World) : Calls Tryz.prog 159 #[.pointer none, .int .i64 0] w fun e w' => e = .returned (.tuple #[.agg #[.int .i64 0, .int .i64 0, .int .i64 0], .bool false]) ∧ Mod [] w w' := by
  have hmod := Lib.hid ((Mod.refl [] w).alloc (.cells #[.int .i64 0, .int .i64 0, .int .i64 0] 146))
  go_enter Tryz.func159, Tryz.ntmps159
  go_wp2_with (go_at_call 73; refine (m_nil _).mono ?_; rintro e w1 ⟨rfl, rfl⟩)
  exact bodyPost_ret (v := .tuple #[.agg #[.int .i64 0, .int .i64 0, .int .i64 0], .bool false]) (by simp [results, Tryz.results159, go_sem]) rfl ⟨rfl, hmod.out⟩
end Edge
end Go.Proofs.YtjpfmkfikidgkaaGreat

set_option linter.unusedVariables false
set_option linter.unusedSimpArgs false
namespace Go.Proofs.YtjpfmkfikidgkaaGreat
open Go.RowKit
namespace Edge
theorem csr_net {w0 w : World} {b n : Nat} {L : List Ed} {R : List Part} (hS : Sep w0 w (NetP b n L :: R)) (hG : GOk n L) :
    Calls Tryz.prog 104 #[.pointer (some ⟨b, 0, none⟩)] w fun e w' => ∃ b2, e = .returned (.pointer (some ⟨b2, 0, none⟩)) ∧ Sep w0 w' (ArcP b2 n L :: NetP b n L :: R) := by
  refine (acsr_new hG (fun W m => n_sep (hS.still m)) (fun W m => edges_sep (hS.still m) hG.len)).mono ?_
  rintro e w' ⟨b2, rfl, hA⟩
  obtain ⟨F, hP, hF, _⟩ := hA.first
  exact ⟨b2, rfl, hS.add hA.mod hP (fun x hx => (hF x hx).2)⟩
theorem gok_none : GOk 0 [] := ⟨by omega, List.Pairwise.nil, by simp, by simp, by simp [total], by simp⟩
theorem csr_none (w : World) : Calls Tryz.prog 104 #[.pointer none] w fun e w' => ∃ b2, e = .returned (.pointer (some ⟨b2, 0, none⟩)) ∧ Sep w w' [ArcP b2 0 []] := by
  refine acsr_new gok_none (fun W m => (n_nil W).mono ?_) (fun W m => (edges_nil W).mono ?_)
  · rintro e w' ⟨rfl, rfl⟩; exact ⟨rfl, rfl⟩
  · rintro e w' ⟨rfl, rfl⟩; exact ⟨none, 0, rfl, World.ownsRow_nil _ _ _ _, Mod.refl _ _, by simp [Value.ownBlock]⟩
section
variable {w0 w : World} {b n : Nat} {L : List Ed} {R : List Part}
theorem an_sep (h : Sep w0 w (ArcP b n L :: R)) (hG : GOk n L) : Calls Tryz.prog 105 #[.pointer (some ⟨b, 0, none⟩)] w fun e w' => e = .returned (.int .i64 n) ∧ w' = w := by
  obtain ⟨F, h1, _⟩ := h.first
  exact an_p h1 hG
theorem alen_sep (h : Sep w0 w (ArcP b n L :: R)) : Calls Tryz.prog 24 #[.pointer (some ⟨b, 0, none⟩)] w fun e w' => e = .returned (.int .i64 ((2 * L.length : Nat) : Int)) ∧ w' = w := by
  obtain ⟨F, h1, _⟩ := h.first
  exact alen_p h1
theorem ahead_sep (h : Sep w0 w (ArcP b n L :: R)) (hG : GOk n L) (i : Int) : Calls Tryz.prog 39 #[.pointer (some ⟨b, 0, none⟩), .int .i64 i] w fun e w' => e = .returned (.int .i64 (headI L i)) ∧ w' = w := by
  obtain ⟨F, h1, _⟩ := h.first
  exact ahead_p h1 hG i
theorem acap_sep (h : Sep w0 w (ArcP b n L :: R)) (hG : GOk n L) (i : Int) : Calls Tryz.prog 106 #[.pointer (some ⟨b, 0, none⟩), .int .i64 i] w fun e w' => e = .returned (.int .i64 (capI L i)) ∧ w' = w := by
  obtain ⟨F, h1, _⟩ := h.first
  exact acap_p h1 hG i
theorem atail_sep (h : Sep w0 w (ArcP b n L :: R)) (hG : GOk n L) (i : Int) (hi : i ≤ 9223372036854775807) : Calls Tryz.prog 38 #[.pointer (some ⟨b, 0, none⟩), .int .i64 i] w fun e w' => e = .returned (.int .i64 (tailI L i)) ∧ w' = w := by
  obtain ⟨F, h1, _⟩ := h.first
  exact atail_p h1 hG i hi
theorem aout_sep (h : Sep w0 w (ArcP b n L :: R)) (hG : GOk n L) (v : Int) : Calls Tryz.prog 75 #[.pointer (some ⟨b, 0, none⟩), .int .i64 v] w fun e w' => ∃ a c, e = .returned (.slice a (outI n L v).length c) ∧ Made w w' 3 1 a (outI n L v).length c (i64s (outI n L v)) := by
  obtain ⟨F, h1, _⟩ := h.first
  exact aout_p h1 hG v
end
theorem merged19 : merged [(0, 1, 5)] = [(0, 1, 5)] := by decide +kernel
end Edge
end Go.Proofs.YtjpfmkfikidgkaaGreat

set_option linter.unusedVariables false
set_option linter.unusedSimpArgs false
namespace Go.Proofs.YtjpfmkfikidgkaaGreat
open Go.RowKit
namespace Edge
/-- What is left of the arcs ba. -/
def RestP (r ba n : Nat) (L : List Ed) (f : List Int) : Part := fun w F => ∃ gl go : Nat, Parts w
  [Blk r [.pointer (some ⟨ba, 0, none⟩), .slice (some ⟨gl, 0, none⟩) (2 * L.length) (2 * L.length), .slice (some ⟨go, 0, none⟩) n n] 174,
   Row 2 1 (2 * L.length) (.slice (some ⟨gl, 0, none⟩) (2 * L.length) (2 * L.length)) (i64s (leftL L f)),
   Row 2 1 n (.slice (some ⟨go, 0, none⟩) n n) (i64s (overL n L f))] F
instance (r ba n : Nat) (L : List Ed) (f : List Int) : Good (RestP r ba n L f) where
  lt h := by obtain ⟨_, _, h⟩ := h; exact h.lt
  keep h m hd := by obtain ⟨gl, go, h⟩ := h; exact ⟨gl, go, h.keep m hd⟩
structure RestRd (w : World) (r ba n : Nat) (L : List Ed) (f : List Int) (gl go : Nat) : Prop where
  hb : Has w r [.pointer (some ⟨ba, 0, none⟩), .slice (some ⟨gl, 0, none⟩) (2 * L.length) (2 * L.length), .slice (some ⟨go, 0, none⟩) n n] 174
  left : w.ownsRow 0 2 1 (.slice (some ⟨gl, 0, none⟩) (2 * L.length) (2 * L.length)) (2 * L.length) (i64s (leftL L f))
  over : w.ownsRow 0 2 1 (.slice (some ⟨go, 0, none⟩) n n) n (i64s (overL n L f))
theorem RestP.rd {w : World} {r ba n : Nat} {L : List Ed} {f : List Int} {F : List Nat} (h : RestP r ba n L f w F) : ∃ gl go, RestRd w r ba n L f gl go := by
  obtain ⟨gl, go, h⟩ := h
  obtain ⟨_, ⟨k0, _⟩, _⟩ := parts_at h 0 _ rfl
  obtain ⟨_, ⟨k1, _⟩, _⟩ := parts_at h 1 _ rfl
  obtain ⟨_, ⟨k2, _⟩, _⟩ := parts_at h 2 _ rfl
  exact ⟨gl, go, k0, k1, k2⟩
/-- The parts of what is left, side by side with others. -/
theorem Sep.rest {w0 w : World} {r ba n : Nat} {L : List Ed} {f : List Int} {R : List Part} (h : Sep w0 w (RestP r ba n L f :: R)) : ∃ gl go : Nat, Sep w0 w
  (Blk r [.pointer (some ⟨ba, 0, none⟩), .slice (some ⟨gl, 0, none⟩) (2 * L.length) (2 * L.length), .slice (some ⟨go, 0, none⟩) n n] 174 ::
   Row 2 1 (2 * L.length) (.slice (some ⟨gl, 0, none⟩) (2 * L.length) (2 * L.length)) (i64s (leftL L f)) ::
   Row 2 1 n (.slice (some ⟨go, 0, none⟩) n n) (i64s (overL n L f)) :: R) := by
  obtain ⟨F, h1, h2, h3⟩ := h.out
  obtain ⟨_, F1, F2, rfl, ⟨gl, go, k⟩, k2, k3⟩ := h1
  obtain ⟨g0, A, B, rfl, a1, ⟨g1, C, D, rfl, c1, ⟨g2, E, G, rfl, e1, rfl, e3⟩, c3⟩, a3⟩ := k
  refine ⟨gl, go, A ++ (C ++ (E ++ F2)), ⟨g0, A, _, rfl, a1, ⟨g1, C, _, rfl, c1, ⟨g2, E, _, rfl, e1, k2, ?_⟩, ?_⟩, ?_⟩, h2, ?_⟩
  · intro b hb hb2; exact k3 b (by simp [hb]) hb2
  · intro b hb hb2
    rcases List.mem_append.1 hb2 with hb2 | hb2
    · exact c3 b hb (by simp [hb2])
    · exact k3 b (by simp [hb]) hb2
  · intro b hb hb2
    rcases List.mem_append.1 hb2 with hb2 | hb2
    · exact a3 b hb (by simp [hb2])
    rcases List.mem_append.1 hb2 with hb2 | hb2
    · exact a3 b hb (by simp [hb2])
    · exact k3 b (by simp [hb]) hb2
  · intro b hb
    refine h3 b ?_
    simp only [List.mem_append] at hb ⊢
    rcases hb with hb | hb | hb | hb <;> simp [hb]
theorem Sep.mkRest {w0 w : World} {r ba n : Nat} {L : List Ed} {f : List Int} {R : List Part} {gl go : Nat} (h : Sep w0 w
  (Blk r [.pointer (some ⟨ba, 0, none⟩), .slice (some ⟨gl, 0, none⟩) (2 * L.length) (2 * L.length), .slice (some ⟨go, 0, none⟩) n n] 174 ::
   Row 2 1 (2 * L.length) (.slice (some ⟨gl, 0, none⟩) (2 * L.length) (2 * L.length)) (i64s (leftL L f)) ::
   Row 2 1 n (.slice (some ⟨go, 0, none⟩) n n) (i64s (overL n L f)) :: R)) : Sep w0 w (RestP r ba n L f :: R) := by
  obtain ⟨F, h1, h2, h3⟩ := h.out
  obtain ⟨g0, A, B, rfl, a1, ⟨g1, C, D, rfl, c1, ⟨g2, E, G, rfl, e1, k2, e3⟩, c3⟩, a3⟩ := h1
  refine ⟨(A ++ (C ++ (E ++ []))) ++ G, ⟨inferInstance, _, G, rfl, ⟨gl, go, ⟨g0, A, _, rfl, a1, ⟨g1, C, _, rfl, c1, ⟨g2, E, _, rfl, e1, rfl, by simp⟩, ?_⟩, ?_⟩⟩, k2, ?_⟩, h2, ?_⟩
  · intro b hb hb2
    simp only [List.append_nil] at hb2
    exact c3 b hb (by simp [hb2])
  · intro b hb hb2
    simp only [List.append_nil, List.mem_append] at hb2
    exact a3 b hb (by rcases hb2 with hb2 | hb2 <;> simp [hb2])
  · intro b hb hb2
    simp only [List.append_nil, List.mem_append] at hb
    rcases hb with hb | hb | hb
    · exact a3 b hb (by simp [hb2])
    · exact c3 b hb (by simp [hb2])
    · exact e3 b hb hb2
  · intro b hb
    refine h3 b ?_
    simp only [List.append_nil, List.mem_append] at hb ⊢
    rcases hb with (hb | hb | hb) | hb <;> simp [hb]
section
variable {w : World} {r ba n : Nat} {L : List Ed} {f : List Int} {F F2 : List Nat}
theorem rarcs_p (h : RestP r ba n L f w F) : Calls Tryz.prog 23 #[.pointer (some ⟨r, 0, none⟩)] w fun e w' => e = .returned (.pointer (some ⟨ba, 0, none⟩)) ∧ w' = w := by
  obtain ⟨gl, go, hr⟩ := h.rd
  have b0 := hr.hb.cell 0 rfl
  have bl := hr.hb.lt
  clear h hr
  go_enter Tryz.func23, Tryz.ntmps23
  go_wp2
  go_ret
  exact ⟨rfl, rfl⟩
theorem rleft_p (h : RestP r ba n L f w F) (hA : ArcP ba n L w F2) (hG : GOk n L) (i : Int) : Calls Tryz.prog 40 #[.pointer (some ⟨r, 0, none⟩), .int .i64 i] w fun e w' => e = .returned (.int .i64 (leftI L f i)) ∧ w' = w := by
  have ca := Lib.hid (rarcs_p h)
  have cl := Lib.hid (alen_p hA)
  have hl := hG.len
  obtain ⟨gl, go, hr⟩ := h.rd
  have b1 := hr.hb.cell 1 rfl
  have bl := hr.hb.lt
  by_cases h0 : i < 0
  · have e : leftI L f i = 0 := by unfold leftI; rw [if_neg (by omega)]
    rw [e]
    clear e hr h hA hG
    go_enter Tryz.func40, Tryz.ntmps40
    go_wp2_with fail
    go_ret
    exact ⟨rfl, rfl⟩
  obtain ⟨k, rfl⟩ := Int.eq_ofNat_of_zero_le (show 0 ≤ i by omega)
  obtain ⟨m, hm⟩ : ∃ m, 2 * L.length = m := ⟨_, rfl⟩
  by_cases h1 : k < m
  · have e : leftI L f (k : Int) = leftE L f k := by unfold leftI; rw [if_pos (by omega), Int.toNat_natCast]
    rw [e]
    have c0 : w.cell? ⟨gl, k, none⟩ = some (.int .i64 (leftE L f k)) := by
      have := hr.left.cellAt k (by omega)
      rw [i64s_got (leftL_get (by omega))] at this
      exact this
    have gll := own_lt hr.left (g := gl) rfl
    rw [hm] at cl b1
    have hk1 : (k : Int) < m := by omega
    generalize leftE L f k = z at *
    clear e hr h hA hG hm
    go_enter Tryz.func40, Tryz.ntmps40
    go_wp2_with (first
      | (go_at_call 23; refine ca.out.mono ?_; rintro e w1 ⟨rfl, hw1⟩; subst w1)
      | (go_at_call 24; refine cl.out.mono ?_; rintro e w1 ⟨rfl, hw1⟩; subst w1))
    go_ret
    exact ⟨rfl, rfl⟩
  · have e : leftI L f (k : Int) = 0 := by unfold leftI; rw [if_neg (by omega)]
    rw [e]
    rw [hm] at cl b1
    have hk1 : ¬ (k : Int) < m := by omega
    have t1 : decide ((m : Int) ≤ (k : Int)) = true := by simp; omega
    clear e hr h hA hG hm
    go_enter Tryz.func40, Tryz.ntmps40
    go_wp2_with (first
      | (go_at_call 23; refine ca.out.mono ?_; rintro e w1 ⟨rfl, hw1⟩; subst w1)
      | (go_at_call 24; refine cl.out.mono ?_; rintro e w1 ⟨rfl, hw1⟩; subst w1))
    go_ret
    exact ⟨rfl, rfl⟩
theorem rexc_p (h : RestP r ba n L f w F) (hA : ArcP ba n L w F2) (hG : GOk n L) (v : Int) : Calls Tryz.prog 74 #[.pointer (some ⟨r, 0, none⟩), .int .i64 v] w fun e w' => e = .returned (.int .i64 (exc L f v)) ∧ w' = w := by
  have ca := Lib.hid (rarcs_p h)
  have cn := Lib.hid (an_p hA hG)
  have hl := hG.le
  obtain ⟨gl, go, hr⟩ := h.rd
  have b2 := hr.hb.cell 2 rfl
  have bl := hr.hb.lt
  by_cases h0 : v < 0
  · rw [exc_I hG (.inl h0)]
    clear hr h hA hG
    go_enter Tryz.func74, Tryz.ntmps74
    go_wp2_with fail
    go_ret
    exact ⟨rfl, rfl⟩
  obtain ⟨k, rfl⟩ := Int.eq_ofNat_of_zero_le (show 0 ≤ v by omega)
  by_cases h1 : k < n
  · have c0 : w.cell? ⟨go, k, none⟩ = some (.int .i64 (exc L f (k : Int))) := by
      have := hr.over.cellAt k (by omega)
      rw [i64s_got (overL_get h1)] at this
      exact this
    have gll := own_lt hr.over (g := go) rfl
    have hk1 : (k : Int) < n := by omega
    generalize exc L f (k : Int) = z at *
    clear hr h hA hG
    go_enter Tryz.func74, Tryz.ntmps74
    go_wp2_with (first
      | (go_at_call 23; refine ca.out.mono ?_; rintro e w1 ⟨rfl, hw1⟩; subst w1)
      | (go_at_call 105; refine cn.out.mono ?_; rintro e w1 ⟨rfl, hw1⟩; subst w1))
    go_ret
    exact ⟨rfl, rfl⟩
  · rw [exc_I hG (.inr (by omega))]
    have hk1 : ¬ (k : Int) < n := by omega
    have t1 : decide ((n : Int) ≤ (k : Int)) = true := by simp; omega
    clear hr h hA hG
    go_enter Tryz.func74, Tryz.ntmps74
    go_wp2_with (first
      | (go_at_call 23; refine ca.out.mono ?_; rintro e w1 ⟨rfl, hw1⟩; subst w1)
      | (go_at_call 105; refine cn.out.mono ?_; rintro e w1 ⟨rfl, hw1⟩; subst w1))
    go_ret
    exact ⟨rfl, rfl⟩
set_option maxHeartbeats 2000000 in
theorem rflow_p (h : RestP r ba n L f w F) (hA : ArcP ba n L w F2) (hG : GOk n L) (hF : FB L f) (i : Int) : Calls Tryz.prog 99 #[.pointer (some ⟨r, 0, none⟩), .int .i64 i] w fun e w' => e = .returned (.int .i64 (flowI L f i)) ∧ Mod [] w w' := by
  have ca := Lib.hid (rarcs_p h)
  have hl := hG.len
  obtain ⟨gl, go, hr⟩ := h.rd
  obtain ⟨N, hN⟩ : ∃ N, L.length = N := ⟨_, rfl⟩
  have cl := alen_p hA
  rw [show ((2 * L.length : Nat) : Int) = 2 * (N : Int) by omega] at cl
  have cl' := Lib.hid cl
  by_cases h0 : i < 0
  · have e : flowI L f i = 0 := by unfold flowI; rw [if_neg (by omega)]
    rw [e]
    clear e hr h hA hG hF cl
    go_enter Tryz.func99, Tryz.ntmps99
    go_wp2_with fail
    go_ret
    exact ⟨rfl, Mod.refl _ _⟩
  obtain ⟨k, rfl⟩ := Int.eq_ofNat_of_zero_le (show 0 ≤ i by omega)
  have td : (2 * (N : Int)) / 2 = (N : Int) := by omega
  by_cases h1 : k < N
  · have e : flowI L f (k : Int) = f.getD k 0 := by unfold flowI; rw [if_pos (by omega), Int.toNat_natCast]
    rw [e]
    have b0 := hr.hb.cell 0 rfl
    have b1 := hr.hb.cell 1 rfl
    have bl := hr.hb.lt
    have c0 : w.cell? ⟨gl, 2 * k, none⟩ = some (.int .i64 (leftE L f (2 * k))) := by
      have := hr.left.cellAt (2 * k) (by omega)
      rw [i64s_got (leftL_get (by omega))] at this
      exact this
    have gll := own_lt hr.left (g := gl) rfl
    have hz := leftE_in hG hF (i := 2 * k) (by omega)
    have hc := capE_le hG (2 * k)
    have hcap := Lib.hid (fun W (m : Mod [] w W) => acap_p (Good.keep hA m (by simp)) hG (2 * (k : Int)))
    have ec : capI L (2 * (k : Int)) = capE L (2 * k) := by unfold capI; rw [if_neg (by omega)]; congr 1
    rw [ec] at hcap
    have ef : f.getD k 0 = capE L (2 * k) - leftE L f (2 * k) := by
      rw [leftE_even (by omega), show 2 * k / 2 = k by omega]; omega
    rw [ef]
    have hk1 : (k : Int) < N := by omega
    have hk2 : 2 * (k : Int) < 2 * (L.length : Int) := by omega
    have hk3 : 2 * k < 2 * L.length := by omega
    have b0' : ∀ m : Fut (Mod []) w.drew, m.v.cell? ⟨r, 0, none⟩ = some (.pointer (some ⟨ba, 0, none⟩)) := fun m => (hr.hb.keep ((Mod.refl [] w).drew.trans m.of (by simp)) (by simp)).cell 0 rfl
    have b1' : ∀ m : Fut (Mod []) w.drew, m.v.cell? ⟨r, 1, none⟩ = some (.slice (some ⟨gl, 0, none⟩) (2 * L.length) (2 * L.length)) := fun m => (hr.hb.keep ((Mod.refl [] w).drew.trans m.of (by simp)) (by simp)).cell 1 rfl
    have c0' : ∀ m : Fut (Mod []) w.drew, m.v.cell? ⟨gl, 2 * k, none⟩ = some (.int .i64 (leftE L f (2 * k))) := fun m => by
      have := (own_keep hr.left ((Mod.refl [] w).drew.trans m.of (by simp)) (by simp)).cellAt (2 * k) (by omega)
      rw [i64s_got (leftL_get (by omega))] at this
      exact this
    generalize leftE L f (2 * k) = z at *
    generalize capE L (2 * k) = c at *
    clear e hr h hA hG hF cl ec ef h1
    go_enter Tryz.func99, Tryz.ntmps99
    go_upto_region 3 with (first
      | (go_at_call 23; refine ca.out.mono ?_; rintro e w1 ⟨rfl, hw1⟩; subst w1)
      | (go_at_call 24; refine cl'.out.mono ?_; rintro e w1 ⟨rfl, hw1⟩; subst w1))
    refine region_sched (G := Mod []) [([0,1,2,3,4,5,7,8,9,10,11,12,13,14],6)] [15,16] (by kernel_rfl) (by kernel_rfl) (by kernel_rfl) rfl (Mod.refl _) (fun _ _ _ h1 h2 => h1.trans h2 (by simp)) ?_
    simp only [stages, pickO, nthO, headO, List.append_eq, List.cons_append, List.nil_append]
    refine sched_step ?_
    repeat (go_big_quiet_step (fail))
    refine wpQuiet_nil ?_
    intro K hK
    rw [if_pos (by rfl)]
    go_simp
    refine (hcap.out _ (Mod.refl [] w).drew).mono ?_
    rintro e w2 ⟨rfl, hw2⟩
    subst w2
    try dsimp only
    refine hK.out _ _ (Mod.refl _ _) ?_
    clear hK K
    refine sched_last ?_
    repeat (go_big_quiet_step (fail))
    refine wpQuiet_nil ?_
    go_wp2_with fail
    go_ret
    exact ⟨rfl, (Mod.refl [] w).drew⟩
  · have e : flowI L f (k : Int) = 0 := by unfold flowI; rw [if_neg (by omega)]
    rw [e]
    have hk1 : ¬ (k : Int) < N := by omega
    have t1 : decide ((N : Int) ≤ (k : Int)) = true := by simp; omega
    clear e hr h hA hG hF cl h1
    go_enter Tryz.func99, Tryz.ntmps99
    go_wp2_with (first
      | (go_at_call 23; refine ca.out.mono ?_; rintro e w1 ⟨rfl, hw1⟩; subst w1)
      | (go_at_call 24; refine cl'.out.mono ?_; rintro e w1 ⟨rfl, hw1⟩; subst w1))
    go_ret
    exact ⟨rfl, Mod.refl _ _⟩
end
end Edge
end Go.Proofs.YtjpfmkfikidgkaaGreat

set_option linter.unusedVariables false
set_option linter.unusedSimpArgs false
namespace Go.Proofs.YtjpfmkfikidgkaaGreat
open Go.RowKit
namespace Edge
theorem mayP_no {L : List Ed} {f : List Int} {i x : Int} (h : ¬ ((0 ≤ i ∧ i < 2 * L.length) ∧ 0 ≤ x ∧ x ≤ leftE L f i.toNat)) : mayP L f i x = false ∧ pushI L f i x = f := by
  have e : mayP L f i x = false := by unfold mayP; rw [decide_eq_false_iff_not]; exact h
  exact ⟨e, by unfold pushI; rw [e]; rfl⟩
theorem mayP_yes {L : List Ed} {f : List Int} {k : Nat} {x : Int} (h1 : k < 2 * L.length) (h2 : 0 ≤ x) (h3 : x ≤ leftE L f k) : mayP L f (k : Int) x = true ∧ pushI L f (k : Int) x = pushF f k x := by
  have e : mayP L f (k : Int) x = true := by unfold mayP; rw [decide_eq_true_eq, Int.toNat_natCast]; exact ⟨by omega, h2, h3⟩
  exact ⟨e, by unfold pushI; rw [e, if_pos rfl, Int.toNat_natCast]⟩
set_option maxRecDepth 100000 in
set_option maxHeartbeats 8000000 in
theorem rpush_sep {w0 w : World} {r ba n : Nat} {L : List Ed} {f : List Int} {R : List Part} (hS : Sep w0 w (RestP r ba n L f :: ArcP ba n L :: R)) (hG : GOk n L) (hF : FB L f) (i x : Int) :
    Calls Tryz.prog 22 #[.pointer (some ⟨r, 0, none⟩), .int .i64 i, .int .i64 x] w fun e w' => e = .returned (.bool (mayP L f i x)) ∧ Sep w0 w' (RestP r ba n L (pushI L f i x) :: ArcP ba n L :: R) := by
  obtain ⟨Fr, hPr, _⟩ := hS.first
  obtain ⟨Fa, hPa, _⟩ := hS.tail.first
  have ca := Lib.hid (rarcs_p hPr)
  have cl := alen_p hPa
  have hl := hG.len
  obtain ⟨m, hm⟩ : ∃ m, 2 * L.length = m := ⟨_, rfl⟩
  rw [hm] at cl
  have cl' := Lib.hid cl
  have hS' := Lib.hid hS
  by_cases h0 : i < 0
  · obtain ⟨e1, e2⟩ := mayP_no (L := L) (f := f) (i := i) (x := x) (by omega)
    rw [e1, e2]
    clear hS hPr hPa cl e1 e2 hG hF hm
    go_enter Tryz.func22, Tryz.ntmps22
    go_wp2_with fail
    go_ret
    exact ⟨rfl, hS'.out⟩
  obtain ⟨k, rfl⟩ := Int.eq_ofNat_of_zero_le (show 0 ≤ i by omega)
  by_cases h1 : k < m
  case neg =>
    obtain ⟨e1, e2⟩ := mayP_no (L := L) (f := f) (i := (k : Int)) (x := x) (by omega)
    rw [e1, e2]
    have hk1 : ¬ (k : Int) < m := by omega
    have t1 : decide ((m : Int) ≤ (k : Int)) = true := by simp; omega
    clear hS hPr hPa cl e1 e2 hG hF hm
    go_enter Tryz.func22, Tryz.ntmps22
    go_wp2_with (first
      | (go_at_call 23; refine ca.out.mono ?_; rintro e w1 ⟨rfl, hw1⟩; subst w1)
      | (go_at_call 24; refine cl'.out.mono ?_; rintro e w1 ⟨rfl, hw1⟩; subst w1))
    go_ret
    exact ⟨rfl, hS'.out⟩
  have hk1 : (k : Int) < m := by omega
  by_cases h2 : x < 0
  · obtain ⟨e1, e2⟩ := mayP_no (L := L) (f := f) (i := (k : Int)) (x := x) (by omega)
    rw [e1, e2]
    clear hS hPr hPa cl e1 e2 hG hF hm h1
    go_enter Tryz.func22, Tryz.ntmps22
    go_wp2_with (first
      | (go_at_call 23; refine ca.out.mono ?_; rintro e w1 ⟨rfl, hw1⟩; subst w1)
      | (go_at_call 24; refine cl'.out.mono ?_; rintro e w1 ⟨rfl, hw1⟩; subst w1))
    go_ret
    exact ⟨rfl, hS'.out⟩
  obtain ⟨gl, go, hR⟩ := Sep.rest hS
  have r1 := (hR.blkAt 0 rfl).cell 1 rfl
  have rl := (hR.blkAt 0 rfl).lt
  have gll := own_lt (hR.rowAt 1 rfl) (g := gl) rfl
  have c0 : w.cell? ⟨gl, k, none⟩ = some (.int .i64 (leftE L f k)) := by
    have := (hR.rowAt 1 rfl).cellAt k (by omega)
    rw [i64s_got (leftL_get (by omega))] at this
    exact this
  by_cases h3 : leftE L f k < x
  · obtain ⟨e1, e2⟩ := mayP_no (L := L) (f := f) (i := (k : Int)) (x := x) (by rw [Int.toNat_natCast]; omega)
    rw [e1, e2]
    rw [hm] at r1
    generalize leftE L f k = z at *
    clear hS hPr hPa cl e1 e2 hG hF hm h1 hR
    go_enter Tryz.func22, Tryz.ntmps22
    go_wp2_with (first
      | (go_at_call 23; refine ca.out.mono ?_; rintro e w1 ⟨rfl, hw1⟩; subst w1)
      | (go_at_call 24; refine cl'.out.mono ?_; rintro e w1 ⟨rfl, hw1⟩; subst w1))
    go_ret
    exact ⟨rfl, hS'.out⟩
  obtain ⟨e1, e2⟩ := mayP_yes (L := L) (f := f) (k := k) (x := x) (by omega) (by omega) (by omega)
  rw [e1, e2]
  clear e1 e2
  have hkL : k < 2 * L.length := by omega
  have hbL := back_lt.2 hkL
  have hz := leftE_in hG hF hkL
  have hzb := leftE_in hG hF hbL
  obtain ⟨t, ht⟩ : ∃ t : Nat, tailE L k = (t : Int) := ⟨(tailE L k).toNat, by have := tail_in hG hkL; omega⟩
  obtain ⟨hd, hh⟩ : ∃ t : Nat, headE L k = (t : Int) := ⟨(headE L k).toNat, by have := head_in hG hkL; omega⟩
  have htn : t < n := by have := tail_in hG hkL; omega
  have hhn : hd < n := by have := head_in hG hkL; omega
  have hth : t ≠ hd := by have := tail_ne_head hG hkL; omega
  have hxt := exc_in hF (fun e he => by have := hG.ends e he; omega) (t : Int)
  have hxh := exc_in hF (fun e he => by have := hG.ends e he; omega) (hd : Int)
  have htot := hG.tot
  have hlp := Lib.hid (leftL_push (L := L) (f := f) hF.len hkL x)
  have hop := Lib.hid (overL_push (n := n) hG hF.len hkL ht hh x)
  have hbk := Lib.hid (back_any (k : Int) (by omega) w)
  rw [show backI (k : Int) = ((back k : Nat) : Int) by unfold backI; rw [if_neg (by omega), Int.toNat_natCast]] at hbk
  have hbne : back k ≠ k := by unfold back; split <;> omega
  have hct := Lib.hid (fun W F (h : ArcP ba n L W F) => atail_p h hG (k : Int) (by omega))
  have hch := Lib.hid (fun W F (h : ArcP ba n L W F) => ahead_p h hG (k : Int))
  rw [show tailI L (k : Int) = (t : Int) by unfold tailI; rw [if_neg (by omega), Int.toNat_natCast, ht]] at hct
  rw [show headI L (k : Int) = (hd : Int) by unfold headI; rw [if_neg (by omega), Int.toNat_natCast, hh]] at hch
  have hge : ∀ j, (leftL L f)[j]? = some (leftE L f j) ∨ 2 * L.length ≤ j := fun j => by
    by_cases hj : j < 2 * L.length
    · exact .inl (leftL_get hj)
    · exact .inr (by omega)
  rw [hm] at r1
  -- the left of the arc
  have hS1 := Lib.hid (hR.rowsetAt 1 rfl k (.int .i64 (leftE L f k - x)))
  have f0 := (hR.rowAt 1 rfl).frozenAt k
  have hb1 : (leftL L f)[back k]? = some (leftE L f (back k)) := leftL_get hbL
  have ho1 : (overL n L f)[t]? = some (exc L f (t : Int)) := overL_get htn
  have ho2 : (overL n L f)[hd]? = some (exc L f (hd : Int)) := overL_get hhn
  have hbm : (back k : Int) < m := by omega
  have hbm2 : back k < 2 * L.length := hbL
  obtain ⟨lf, hlf⟩ : ∃ lf, leftL L f = lf := ⟨_, rfl⟩
  obtain ⟨ov, hov⟩ : ∃ ov, overL n L f = ov := ⟨_, rfl⟩
  have hlfl : lf.length = m := by rw [← hlf, leftL_len, hm]
  have hovl : ov.length = n := by rw [← hov, overL_len]
  rw [hlf] at hS1 hlp hb1
  rw [hov] at hS1 hop ho1 ho2
  rw [hm] at hS1
  have hm' := Lib.hid hm
  have hbk2 := Lib.hid hbne
  have hth' := Lib.hid hth
  generalize back k = bk at *
  generalize leftE L f k = z at *
  generalize leftE L f bk = zb at *
  generalize exc L f (t : Int) = xt at *
  generalize exc L f (hd : Int) = xh at *
  generalize total L = tot at *
  have hb1' := Lib.hid hb1
  have ho1' := Lib.hid ho1
  have ho2' := Lib.hid ho2
  have hth1 : (t : Int) < n := by omega
  have hhh1 : (hd : Int) < n := by omega
  clear hS hPr hPa cl hG hF hm h1 hR hge ht hh hlf hov hkL hbL hb1 ho1 ho2 hbne hth hbm2 hS'
  go_enter Tryz.func22, Tryz.ntmps22
  go_upto_region 5 with (first
    | (go_at_call 23; refine ca.out.mono ?_; rintro e w1 ⟨rfl, hw1⟩; subst w1)
    | (go_at_call 24; refine cl'.out.mono ?_; rintro e w1 ⟨rfl, hw1⟩; subst w1)
    | (go_at_call 113; refine hbk.out.mono ?_; rintro e w1 ⟨rfl, hw1⟩; subst w1))
  generalize w.setCell ⟨gl, k, none⟩ (.int .i64 (z - x)) = W1 at *
  clear r1 rl gll c0 f0 ca cl' hbk
  have r1 := (hS1.out.blkAt 0 rfl).cell 1 rfl
  have rl := (hS1.out.blkAt 0 rfl).lt
  have gll := own_lt (hS1.out.rowAt 1 rfl) (g := gl) rfl
  have f0 := (hS1.out.rowAt 1 rfl).frozenAt bk
  have c0 : W1.cell? ⟨gl, bk, none⟩ = some (.int .i64 zb) := by
    have := (hS1.out.rowAt 1 rfl).cellAt bk (by omega)
    rw [i64s_set, i64s_got (x := zb) (by rw [List.getElem?_set_ne (fun e => hbk2.out e.symm)]; exact hb1'.out)] at this
    exact this
  have hS2 := Lib.hid (hS1.out.rowsetAt 1 rfl bk (.int .i64 (zb + x)))
  clear hS1
  go_upto_region 6 with fail
  generalize W1.setCell ⟨gl, bk, none⟩ (.int .i64 (zb + x)) = W2 at *
  clear r1 rl gll c0 f0
  rw [i64s_set, i64s_set, hlp.out] at hS2
  -- what stays at the tail
  have rl := (hS2.out.blkAt 0 rfl).lt
  have n1 : r ≠ go := fun e => hS2.out.blkrow 0 2 (by omega) rfl rfl (by rw [e]; rfl)
  have hrb := Lib.hid (hS2.out.blkAt 0 rfl)
  have hn1 := Lib.hid n1
  have g0 : ∀ m : Fut (Mod [go]) W2.drew, m.v.cell? ⟨r, 0, none⟩ = some (.pointer (some ⟨ba, 0, none⟩)) := fun m => (hrb.out.drew.keep m.of (by simpa using hn1.out)).cell 0 rfl
  have g2 : ∀ m : Fut (Mod [go]) W2.drew, m.v.cell? ⟨r, 2, none⟩ = some (.slice (some ⟨go, 0, none⟩) n n) := fun m => (hrb.out.drew.keep m.of (by simpa using hn1.out)).cell 2 rfl
  obtain ⟨Fa, hPa, _⟩ := (hS2.out.still (Mod.refl [] W2).drew |>.get 3 rfl).first
  have ct := Lib.hid (hct.out _ _ hPa)
  have c0 : W2.drew.cell? ⟨go, t, none⟩ = some (.int .i64 xt) := by
    have := (hS2.out.rowAt 2 rfl).cellAt t (by omega)
    rw [i64s_got ho1'.out] at this
    exact this
  have f0 : W2.drew.frozen? ⟨go, t, none⟩ = false := (hS2.out.rowAt 2 rfl).frozenAt t
  have gol : go < W2.drew.heap.size := own_lt (hS2.out.rowAt 2 rfl) (g := go) rfl
  have hS3 := Lib.hid ((hS2.out.rowsetAt 2 rfl t (.int .i64 (xt - x))).still (Mod.refl [] _).drew)
  clear hPa hS2 n1 hrb
  refine region_sched (G := Mod [go]) [([0,1,2,3,4,5,6,7,8,12],9), ([10],11), ([13,14],15)] [] (by kernel_rfl) (by kernel_rfl) (by kernel_rfl) rfl (Mod.refl _) (fun _ _ _ h1 h2 => h1.trans h2 (fun b hb _ => hb)) ?_
  simp only [stages, pickO, nthO, headO, List.append_eq, List.cons_append, List.nil_append]
  refine sched_step ?_
  repeat (go_big_quiet_step (fail))
  refine wpQuiet_nil ?_
  intro K hK
  rw [if_pos (by rfl)]
  go_simp
  refine ct.out.mono ?_
  rintro e w5 ⟨rfl, hw5⟩
  subst w5
  try dsimp only
  refine hK.out _ _ (Mod.refl _ _) ?_
  clear hK K ct g0 g2
  refine sched_step ?_
  repeat (go_big_quiet_step (fail))
  refine wpQuiet_nil ?_
  intro K hK
  rw [if_pos (by rfl)]
  go_simp
  refine hK.out _ _ (Mod.refl _ _) ?_
  clear hK K
  refine sched_step ?_
  repeat (go_big_quiet_step (fail))
  refine wpQuiet_nil ?_
  intro K hK
  rw [if_pos (by rfl)]
  go_simp
  refine hK.out _ _ ((Mod.refl _ _).setCell _ _ (fun _ => by simp)) ?_
  clear hK K c0 f0 gol rl
  refine sched_last ?_
  refine wpQuiet_nil ?_
  go_upto_region 7 with fail
  generalize (W2.setCell ⟨go, t, none⟩ (.int .i64 (xt - x))).drew = W3 at *
  -- what stays at the head
  have rl := (hS3.out.blkAt 0 rfl).lt
  have hrb := Lib.hid (hS3.out.blkAt 0 rfl)
  have g0 : ∀ m : Fut (Mod [go]) W3.drew, m.v.cell? ⟨r, 0, none⟩ = some (.pointer (some ⟨ba, 0, none⟩)) := fun m => (hrb.out.drew.keep m.of (by simpa using hn1.out)).cell 0 rfl
  have g2 : ∀ m : Fut (Mod [go]) W3.drew, m.v.cell? ⟨r, 2, none⟩ = some (.slice (some ⟨go, 0, none⟩) n n) := fun m => (hrb.out.drew.keep m.of (by simpa using hn1.out)).cell 2 rfl
  obtain ⟨Fa, hPa, _⟩ := (hS3.out.still (Mod.refl [] W3).drew |>.get 3 rfl).first
  have ch := Lib.hid (hch.out _ _ hPa)
  have c0 : W3.drew.cell? ⟨go, hd, none⟩ = some (.int .i64 xh) := by
    have := (hS3.out.rowAt 2 rfl).cellAt hd (by omega)
    rw [i64s_set, i64s_got (x := xh) (by rw [List.getElem?_set_ne hth'.out]; exact ho2'.out)] at this
    exact this
  have f0 : W3.drew.frozen? ⟨go, hd, none⟩ = false := (hS3.out.rowAt 2 rfl).frozenAt hd
  have gol : go < W3.drew.heap.size := own_lt (hS3.out.rowAt 2 rfl) (g := go) rfl
  have hS4 := Lib.hid ((hS3.out.rowsetAt 2 rfl hd (.int .i64 (xh + x))).still (Mod.refl [] _).drew)
  rw [i64s_set, i64s_set, hop.out] at hS4
  clear hPa hS3 hrb
  refine region_sched (G := Mod [go]) [([0,1,2,3,4,5,6,7,8,12],9), ([10],11), ([13,14],15)] [] (by kernel_rfl) (by kernel_rfl) (by kernel_rfl) rfl (Mod.refl _) (fun _ _ _ h1 h2 => h1.trans h2 (fun b hb _ => hb)) ?_
  simp only [stages, pickO, nthO, headO, List.append_eq, List.cons_append, List.nil_append]
  refine sched_step ?_
  repeat (go_big_quiet_step (fail))
  refine wpQuiet_nil ?_
  intro K hK
  rw [if_pos (by rfl)]
  go_simp
  refine ch.out.mono ?_
  rintro e w5 ⟨rfl, hw5⟩
  subst w5
  try dsimp only
  refine hK.out _ _ (Mod.refl _ _) ?_
  clear hK K ch g0 g2
  refine sched_step ?_
  repeat (go_big_quiet_step (fail))
  refine wpQuiet_nil ?_
  intro K hK
  rw [if_pos (by rfl)]
  go_simp
  refine hK.out _ _ (Mod.refl _ _) ?_
  clear hK K
  refine sched_step ?_
  repeat (go_big_quiet_step (fail))
  refine wpQuiet_nil ?_
  intro K hK
  rw [if_pos (by rfl)]
  go_simp
  refine hK.out _ _ ((Mod.refl _ _).setCell _ _ (fun _ => by simp)) ?_
  clear hK K c0 f0 gol rl
  refine sched_last ?_
  refine wpQuiet_nil ?_
  go_wp2_with fail
  go_ret
  refine ⟨rfl, Sep.mkRest (gl := gl) (go := go) ?_⟩
  rw [hm'.out]
  exact hS4.out
end Edge
end Go.Proofs.YtjpfmkfikidgkaaGreat

set_option linter.unusedVariables false
set_option linter.unusedSimpArgs false
namespace Go.Proofs.YtjpfmkfikidgkaaGreat
open Go.RowKit
namespace Edge
theorem infoI64b : (Tryz.prog.info? 2).map (fun i => (i.zero, i.size, i.bytes)) = some (some (.int .i64 0), 1, 8) := by kernel_rfl
/-- The flows so far. -/
def partF (f : List Int) (N k : Nat) : List Int := (List.range N).map fun j => if j < k then f.getD j 0 else 0
theorem partF_len (f : List Int) (N k : Nat) : (partF f N k).length = N := by simp [partF]
theorem partF_zero (f : List Int) (N : Nat) : partF f N 0 = List.replicate N 0 := by
  apply List.eq_replicate_iff.2 ⟨partF_len _ _ _, ?_⟩
  intro x hx
  simp only [partF, List.mem_map] at hx
  obtain ⟨v, _, rfl⟩ := hx
  rw [if_neg (by omega)]
theorem partF_step {f : List Int} {N k : Nat} : (partF f N k).set k (f.getD k 0) = partF f N (k + 1) := by
  apply List.ext_getElem
  · simp [partF]
  intro i g1 g2
  simp only [partF, List.getElem_set, List.getElem_map, List.getElem_range]
  by_cases c : k = i
  · subst c; rw [if_pos rfl, if_pos (by omega)]
  · rw [if_neg c]
    by_cases h : i < k
    · rw [if_pos h, if_pos (by omega)]
    · rw [if_neg h, if_neg (by omega)]
theorem partF_all {f : List Int} {N : Nat} (h : f.length = N) : partF f N N = f := by
  apply List.ext_getElem
  · rw [partF_len, h]
  intro i g1 g2
  simp only [partF, List.getElem_map, List.getElem_range]
  rw [if_pos (by omega), List.getD_eq_getElem?_getD, List.getElem?_eq_getElem g2]; rfl
set_option maxRecDepth 100000 in
set_option maxHeartbeats 2000000 in
theorem rflows_p {w : World} {r ba n : Nat} {L : List Ed} {f : List Int} {F F2 : List Nat} (h : RestP r ba n L f w F) (hA : ArcP ba n L w F2) (hG : GOk n L) (hF : FB L f) :
    Calls Tryz.prog 80 #[.pointer (some ⟨r, 0, none⟩)] w fun e w' => ∃ a c, e = .returned (.slice a f.length c) ∧ Made w w' 2 1 a f.length c (i64s f) := by
  have hl := hG.len
  have hfl := hF.len
  obtain ⟨N, hN⟩ : ∃ N, L.length = N := ⟨_, rfl⟩
  have ca := Lib.hid (rarcs_p h)
  have cl := alen_p hA
  rw [show ((2 * L.length : Nat) : Int) = 2 * (N : Int) by omega] at cl
  have cl' := Lib.hid cl
  have hfw := fun W (m : Mod [] w W) (k : Nat) => rflow_p (Good.keep h m (by simp)) (Good.keep hA m (by simp)) hG hF (k : Int)
  have hfw' : Hid (∀ W (m : Mod [] w W) (k : Nat), k < N → Calls Tryz.prog 99 #[.pointer (some ⟨r, 0, none⟩), .int .i64 (k : Int)] W fun e w' => e = .returned (.int .i64 (f.getD k 0)) ∧ Mod [] W w') := Lib.hid (fun W m k hk => by
    have := hfw W m k
    rw [show flowI L f (k : Int) = f.getD k 0 by unfold flowI; rw [if_pos (by omega), Int.toNat_natCast]] at this
    exact this)
  have td : (2 * (N : Int)) / 2 = (N : Int) := by omega
  have hmk := make_run (P := Tryz.prog) 33 2 (.int .i64 0) 8 Tryz.underlying33 infoI64b rfl (by omega) N (by omega)
  have hst : Hid (Sep w (w.alloc (.cells (madeCells #[.int .i64 0] N) 2)) [Row 2 1 N (.slice (some ⟨w.heap.size, 0, none⟩) N N) (i64s (partF f N 0))]) := Lib.hid (by
    have h5 := (Sep.empty w).made (made_made w 2 (.int .i64 0) N (by omega))
    rw [partF_zero]
    have e : i64s (List.replicate N 0) = List.replicate N (.int .i64 0) := by simp [i64s]
    rw [e]
    exact h5)
  have hNl : N ≤ 1048576 := by omega
  have hfn : f.length = N := by omega
  have hfn' := Lib.hid hfn
  rw [hfn]
  clear h hA hG hF cl hfw hfl hN hfn
  go_enter Tryz.func80, Tryz.ntmps80
  go_wp2_with (first
    | (go_at_call 23; refine ca.out.mono ?_; rintro e w1 ⟨rfl, hw1⟩; subst w1)
    | (go_at_call 24; refine cl'.out.mono ?_; rintro e w1 ⟨rfl, hw1⟩; subst w1))
  generalize w.alloc (.cells (madeCells #[.int .i64 0] N) 2) = w1 at *
  generalize w.heap.size = g at *
  go_loopw [12] (fun i wr => ∃ k : Nat, k ≤ N ∧ i = .int .i64 k ∧ Hid (Sep w wr [Row 2 1 N (.slice (some ⟨g, 0, none⟩) N N) (i64s (partF f N k))])) (fun i _ => N - (intOf i).toNat)
  case atStart => exact ⟨0, Nat.zero_le _, rfl, hst⟩
  case round =>
    clear hst
    obtain ⟨k, hk, rfl, hS⟩ := hrel
    by_cases hlt : k < N
    · have hlt1 : (k : Int) < N := by omega
      have cf := Lib.hid (hfw'.out wr hS.out.mod k hlt)
      have hps := Lib.hid (partF_step (f := f) (N := N) (k := k))
      generalize f.getD k 0 = y at *
      go_wp2_with fail
      refine cf.out.mono ?_
      rintro e w2 ⟨rfl, hm2⟩
      have hS2 := Lib.hid (hS.out.still hm2)
      have gz := (hS2.out.rowAt 0 rfl).frozenAt k
      have gl := own_lt (hS2.out.rowAt 0 rfl) (g := g) rfl
      obtain ⟨u, gc⟩ : ∃ u, w2.cell? ⟨g, k, none⟩ = some u := by
        have h1 := (hS2.out.rowAt 0 rfl).cellAt k (by omega)
        have h2 := (hS2.out.rowAt 0 rfl).1
        rw [List.getElem?_eq_getElem (by omega)] at h1
        exact ⟨_, h1⟩
      have hS3 := Lib.hid (hS2.out.rowsetAt 0 rfl k (.int .i64 y))
      rw [i64s_set, hps.out] at hS3
      clear hm2 hS hS2
      try dsimp only
      go_wp2_with fail
      go_roundw
      case rel => exact ⟨k + 1, by omega, by go_num, hS3⟩
      case measure => simp [intOf]; omega
    · have hkN : k = N := by omega
      have hfin : Hid (Made w wr 2 1 (some ⟨g, 0, none⟩) N N (i64s f)) := Lib.hid (by
        have h5 := hS.out
        rw [hkN, partF_all hfn'.out] at h5
        exact h5.toMade)
      clear hS hk hkN
      go_wp2_with fail
      go_ret
      exact ⟨_, _, rfl, hfin.out⟩
/-! Of nil there is nothing. -/
theorem rarcs_nil (w : World) : Calls Tryz.prog 23 #[.pointer none] w fun e w' => e = .returned (.pointer none) ∧ w' = w := by
  go_enter Tryz.func23, Tryz.ntmps23
  go_wp2
  go_ret
  exact ⟨rfl, rfl⟩
theorem rleft_nil (w : World) : Calls Tryz.prog 40 #[.pointer none, .int .i64 0] w fun e w' => e = .returned (.int .i64 0) ∧ w' = w := by
  go_enter Tryz.func40, Tryz.ntmps40
  go_wp2_with (first
    | (go_at_call 23; refine (rarcs_nil _).mono ?_; rintro e w1 ⟨rfl, rfl⟩)
    | (go_at_call 24; refine (alen_nil _).mono ?_; rintro e w1 ⟨rfl, rfl⟩))
  go_ret
  exact ⟨rfl, rfl⟩
theorem rpush_nil (w : World) : Calls Tryz.prog 22 #[.pointer none, .int .i64 0, .int .i64 0] w fun e w' => e = .returned (.bool false) ∧ w' = w := by
  go_enter Tryz.func22, Tryz.ntmps22
  go_wp2_with (first
    | (go_at_call 23; refine (rarcs_nil _).mono ?_; rintro e w1 ⟨rfl, rfl⟩)
    | (go_at_call 24; refine (alen_nil _).mono ?_; rintro e w1 ⟨rfl, rfl⟩))
  go_ret
  exact ⟨rfl, rfl⟩
theorem rflow_nil (w : World) : Calls Tryz.prog 99 #[.pointer none, .int .i64 0] w fun e w' => e = .returned (.int .i64 0) ∧ w' = w := by
  go_enter Tryz.func99, Tryz.ntmps99
  go_wp2_with (first
    | (go_at_call 23; refine (rarcs_nil _).mono ?_; rintro e w1 ⟨rfl, rfl⟩)
    | (go_at_call 24; refine (alen_nil _).mono ?_; rintro e w1 ⟨rfl, rfl⟩))
  go_ret
  exact ⟨rfl, rfl⟩
theorem rexc_nil (w : World) : Calls Tryz.prog 74 #[.pointer none, .int .i64 0] w fun e w' => e = .returned (.int .i64 0) ∧ w' = w := by
  go_enter Tryz.func74, Tryz.ntmps74
  go_wp2_with (first
    | (go_at_call 23; refine (rarcs_nil _).mono ?_; rintro e w1 ⟨rfl, rfl⟩)
    | (go_at_call 105; refine (an_nil _).mono ?_; rintro e w1 ⟨rfl, rfl⟩))
  go_ret
  exact ⟨rfl, rfl⟩
theorem rreach_nil (w : World) : Calls Tryz.prog 110 #[.pointer none, .int .i64 0] w fun e w' => e = .returned (.slice none 0 0) ∧ w' = w := by
  go_enter Tryz.func110, Tryz.ntmps110
  go_wp2_with (first
    | (go_at_call 23; refine (rarcs_nil _).mono ?_; rintro e w1 ⟨rfl, rfl⟩)
    | (go_at_call 105; refine (an_nil _).mono ?_; rintro e w1 ⟨rfl, rfl⟩))
  go_ret
  exact ⟨rfl, rfl⟩
theorem rtwin_nil (w : World) : Calls Tryz.prog 20 #[.pointer none] w fun e w' => e = .returned (.pointer none) ∧ w' = w := by
  go_enter Tryz.func20, Tryz.ntmps20
  go_wp2
  go_ret
  exact ⟨rfl, rfl⟩
set_option maxRecDepth 100000 in
set_option maxHeartbeats 2000000 in
theorem rflows_nil (w : World) : Calls Tryz.prog 80 #[.pointer none] w fun e w' => ∃ a, e = .returned (.slice a 0 0) ∧ Mod [] w w' := by
  have hmk := make_run (P := Tryz.prog) 33 2 (.int .i64 0) 8 Tryz.underlying33 infoI64b rfl (by omega) 0 (by omega)
  have hmod := Lib.hid ((Mod.refl [] w).alloc (.cells (madeCells #[.int .i64 0] 0) 2))
  simp only [Int.natCast_zero, Int.ofNat_zero, Int.cast_ofNat_Int] at hmk
  go_enter Tryz.func80, Tryz.ntmps80
  go_wp2_with (first
    | (go_at_call 23; refine (rarcs_nil _).mono ?_; rintro e w1 ⟨rfl, hw1⟩; subst w1)
    | (go_at_call 24; refine (alen_nil _).mono ?_; rintro e w1 ⟨rfl, hw1⟩; subst w1))
  clear hmk
  generalize w.alloc (.cells (madeCells #[.int .i64 0] 0) 2) = w1 at *
  generalize w.heap.size = g at *
  go_loopw [12] (fun i wr => i = .int .i64 0 ∧ wr = w1) (fun i _ => 0)
  case atStart => exact ⟨rfl, rfl⟩
  case round =>
    obtain ⟨rfl, hw⟩ := hrel
    subst hw
    go_wp2_with fail
    go_ret
    exact ⟨_, rfl, hmod.out⟩
end Edge
end Go.Proofs.YtjpfmkfikidgkaaGreat

set_option linter.unusedVariables false
set_option linter.unusedSimpArgs false
namespace Go.Proofs.YtjpfmkfikidgkaaGreat
open Go.RowKit
namespace Edge
theorem infoB5 : (Tryz.prog.info? 4).map (fun i => (i.zero, i.size, i.bytes)) = some (some (.bool false), 1, 1) := by kernel_rfl
theorem infoI5 : (Tryz.prog.info? 3).map (fun i => (i.zero, i.size, i.bytes)) = some (some (.int .i64 0), 1, 8) := by kernel_rfl
def boolV (l : List Bool) : List Value := l.map Value.bool
theorem boolV_got {l : List Bool} {i : Nat} {b : Bool} (h : l[i]? = some b) : (boolV l)[i]? = some (.bool b) := by simp [boolV, h]
theorem boolV_set (l : List Bool) (i : Nat) (b : Bool) : (boolV l).set i (.bool b) = boolV (l.set i b) := by simp [boolV, List.map_set]
theorem boolV_none (n : Nat) : boolV (List.replicate n false) = List.replicate n (.bool false) := by simp [boolV]
theorem lit_made (w : World) (e : Nat) (v : Value) : Made w (w.alloc (.cells #[v] e)) e 1 (some ⟨w.heap.size, 0, none⟩) 1 1 [v] := by
  have := made_made w e v 1 (by omega)
  rw [made_list] at this
  exact this
section
variable {w : World} {r ba n : Nat} {L : List Ed} {f : List Int} {F F2 : List Nat}
set_option maxRecDepth 100000 in
set_option maxHeartbeats 4000000 in
theorem rreach_p (h : RestP r ba n L f w F) (hA : ArcP ba n L w F2) (hG : GOk n L) {v : Nat} (hv : v < n) :
    Calls Tryz.prog 110 #[.pointer (some ⟨r, 0, none⟩), .int .i64 (v : Int)] w fun e w' => ∃ l a c, IsReach L f v l ∧ e = .returned (.slice a l.length c) ∧ Made w w' 3 1 a l.length c (i64s (ints l)) := by
  have ca := Lib.hid (rarcs_p h)
  have cn := Lib.hid (an_p hA hG)
  have hn4 : n ≤ 4096 := hG.le
  obtain ⟨gl, go, hr⟩ := h.rd
  obtain ⟨N2, hN2⟩ : ∃ N2, 2 * L.length = N2 := ⟨_, rfl⟩
  have hN2b : N2 ≤ 2097152 := by have := hG.len; omega
  have hb0 := Lib.hid (fun W (m : Mod [] w W) => (hr.hb.keep m (by simp)).cell 0 rfl)
  have hb1 := Lib.hid (fun W (m : Mod [] w W) => (hr.hb.keep m (by simp)).cell 1 rfl)
  have hleft := Lib.hid (fun W (m : Mod [] w W) (k : Nat) (hk : k < N2) => show W.cell? ⟨gl, k, none⟩ = some (.int .i64 (leftE L f k)) by
    have := (own_keep hr.left m (by simp)).cellAt k (by omega)
    rw [i64s_got (leftL_get (by omega))] at this
    exact this)
  have b0 := hr.hb.cell 0 rfl
  have bl := hr.hb.lt
  have gll : gl < w.heap.size := own_lt hr.left (g := gl) rfl
  have hcall := Lib.hid (fun W (m : Mod [] w W) (u : Nat) (hu : u < n) => show Calls Tryz.prog 75 #[.pointer (some ⟨ba, 0, none⟩), .int .i64 (u : Int)] W fun e w' => ∃ a c, e = .returned (.slice a (ofS n L u).length c) ∧ Made W w' 3 1 a (ofS n L u).length c (i64s (ints (ofS n L u))) by
    have h1 := aout_p (Good.keep hA m (by simp)) hG (u : Int)
    have e : outI n L (u : Int) = ints (ofS n L u) := by unfold outI; rw [if_pos (by omega), Int.toNat_natCast]
    rw [e, ints_len] at h1
    exact h1)
  have hhead := Lib.hid (fun W (m : Mod [] w W) (k : Nat) => show Calls Tryz.prog 39 #[.pointer (some ⟨ba, 0, none⟩), .int .i64 (k : Int)] W fun e w' => e = .returned (.int .i64 (headE L k)) ∧ w' = W by
    have h1 := ahead_p (Good.keep hA m (by simp)) hG (k : Int)
    have e : headI L (k : Int) = headE L k := by unfold headI; rw [if_neg (by omega), Int.toNat_natCast]
    rw [e] at h1
    exact h1)
  have hmk := make_run (P := Tryz.prog) 211 4 (.bool false) 1 Tryz.underlying211 infoB5 rfl (by omega) n (by omega)
  have hst : Hid (Sep w (w.alloc (.cells (madeCells #[.bool false] n) 4)) [Row 4 1 n (.slice (some ⟨w.heap.size, 0, none⟩) n n) (boolV (metL n []))]) := Lib.hid (by
    have h5 := (Sep.empty w).made (made_made w 4 (.bool false) n (by omega))
    rw [metL_nil, boolV_none]
    exact h5)
  have hG' := Lib.hid hG
  rw [hN2] at hb1
  have hN2' := Lib.hid hN2
  have hvl : (v : Int) < n := by omega
  have t1 : decide ((n : Int) ≤ (v : Int)) = false := by simp; omega
  have t2 : decide ((v : Int) < 0) = false := by simp
  clear h hA hr hG hN2
  go_enter Tryz.func110, Tryz.ntmps110
  go_upto_region 4 with (first
    | (go_at_call 23; refine ca.out.mono ?_; rintro e w1 ⟨rfl, hw1⟩; subst w1)
    | (go_at_call 105; refine cn.out.mono ?_; rintro e w1 ⟨rfl, hw1⟩; subst w1))
  clear hmk b0
  have hgg := (hst.out.rowAt 0 rfl).frozenAt v
  have hgc : ∃ u, (w.alloc (.cells (madeCells #[.bool false] n) 4)).cell? ⟨w.heap.size, v, none⟩ = some u := by
    have h1 := (hst.out.rowAt 0 rfl).cellAt v (by omega)
    rw [boolV_got (metL_get hv)] at h1
    exact ⟨_, h1⟩
  have hgl : w.heap.size < (w.alloc (.cells (madeCells #[.bool false] n) 4)).heap.size := own_lt (hst.out.rowAt 0 rfl) (g := w.heap.size) rfl
  have hst2 := Lib.hid (by
    have h5 := hst.out.rowsetAt 0 rfl v (.bool true)
    rw [boolV_set, metL_set] at h5
    exact (h5.made (lit_made _ 3 (.int .i64 (v : Int)))).swap)
  obtain ⟨u0, hgc⟩ := hgc
  clear hst
  have hrlt := Lib.hid (fun W (m : Mod [] w W) => Nat.lt_of_lt_of_le bl m.size)
  have hglt := Lib.hid (fun W (m : Mod [] w W) => Nat.lt_of_lt_of_le gll m.size)
  generalize w.alloc (.cells (madeCells #[.bool false] n) 4) = w1 at *
  generalize w.heap.size = g at *
  go_wp2_with fail
  have hst3 : Hid (Sep w ((w1.setCell ⟨g, v, none⟩ (.bool true)).alloc (.cells #[.int .i64 (v : Int)] 3)) [Row 4 1 n (.slice (some ⟨g, 0, none⟩) n n) (boolV (metL n [v])), Row 3 1 1 (.slice (some ⟨w1.heap.size, 0, none⟩) 1 1) (i64s (ints [v]))]) := Lib.hid (by
    have h5 := hst2.out
    simp only [World.setCell, Array.size_modify] at h5 ⊢
    exact h5)
  clear hst2 hgc hgg hgl gll bl
  go_loopw [6, 7] (fun s6 s7 wr => ∃ (O : List Nat) (m i : Nat) (a : Option Addr) (c : Nat), Hid (O.length = m) ∧ Hid (RSt n L f v O i) ∧ i ≤ m ∧ m ≤ n ∧ s6 = .slice a m c ∧ s7 = .int .i64 i ∧ Hid (Sep w wr [Row 4 1 n (.slice (some ⟨g, 0, none⟩) n n) (boolV (metL n O)), Row 3 1 m (.slice a m c) (i64s (ints O))])) (fun _ s7 _ => n - (intOf s7).toNat)
  case atStart => exact ⟨[v], 1, 0, _, _, Lib.hid rfl, Lib.hid (RSt.start n L f v), by omega, by omega, rfl, rfl, hst3⟩
  case round =>
    clear hst3
    obtain ⟨O, m, i, a, c, hOm, hRs, him, hmn, rfl, rfl, hS⟩ := hrel
    by_cases hlt : i < m
    · have hlt1 : (i : Int) < m := by omega
      have hiO : i < O.length := by rw [hOm.out]; exact hlt
      obtain ⟨u, hu⟩ : ∃ u, O[i] = u := ⟨_, rfl⟩
      have hun : u < n := hu ▸ rch_lt hG'.out hv (hRs.out.rc _ (List.getElem_mem hiO))
      have hui := Lib.hid (show O[i]? = some u by rw [List.getElem?_eq_getElem hiO, hu])
      obtain ⟨go2, rfl, hgo2, _, hcell⟩ := row_form (hS.out.rowAt 1 rfl) (by omega)
      have cO := hcell i (.int .i64 (u : Int)) (by
        have : (ints O)[i]? = some (u : Int) := by unfold ints; rw [List.getElem?_map, hui.out]; rfl
        exact i64s_got this)
      have fO : ∀ m : Fut (Mod []) wr.drew, m.v.cell? ⟨go2, i, none⟩ = some (.int .i64 (u : Int)) := fun m' => by
        have h5 := hS.out.still ((Mod.refl [] wr).drew.trans m'.of (by simp))
        obtain ⟨g', e', _, _, hc'⟩ := row_form (h5.rowAt 1 rfl) (by omega)
        injection e' with e'; injection e' with e'; subst e'
        refine hc' i _ ?_
        have : (ints O)[i]? = some (u : Int) := by unfold ints; rw [List.getElem?_map, hui.out]; rfl
        exact i64s_got this
      have f0 : ∀ m : Fut (Mod []) wr.drew, m.v.cell? ⟨r, 0, none⟩ = some (.pointer (some ⟨ba, 0, none⟩)) := fun m' => hb0.out _ (hS.out.mod.trans ((Mod.refl [] wr).drew.trans m'.of (by simp)) (by simp))
      have c0 := f0 ⟨_, Mod.refl _ _⟩
      have cc := Lib.hid (hcall.out wr.drew hS.out.mod.drew u hun)
      obtain ⟨K, hK⟩ : ∃ K, (ofS n L u).length = K := ⟨_, rfl⟩
      rw [hK] at cc
      have hK' := Lib.hid hK
      have hKb : K ≤ 2097152 := by
        have h5 := ofU_le L (2 * L.length) u
        have h6 := ofS_len hG'.out u
        have h7 := hN2'.out
        unfold cntE at h6
        omega
      have hrl : r < wr.heap.size := hrlt.out _ hS.out.mod
      clear hK hu hiO hcell
      go_upto_region 9 with fail
      refine region_sched (G := Mod []) [([0,1,2,3,4,5,6,7,10],8)] [9] (by kernel_rfl) (by kernel_rfl) (by kernel_rfl) rfl (Mod.refl _) (fun _ _ _ h1 h2 => h1.trans h2 (by simp)) ?_
      simp only [stages, pickO, nthO, headO, List.append_eq, List.cons_append, List.nil_append]
      refine sched_step ?_
      repeat (go_big_quiet_step (fail))
      refine wpQuiet_nil ?_
      intro K1 hK1
      rw [if_pos (by rfl)]
      go_simp
      refine cc.out.mono ?_
      rintro e w2 ⟨a2, c2, rfl, hm2⟩
      have hS2 := Lib.hid ((hS.out.still (Mod.refl [] wr).drew).made hm2)
      have hm2' := hm2.mod
      clear hm2 hS
      try dsimp only
      refine hK1.out _ _ hm2' ?_
      clear hK1 K1 hm2' f0 fO c0 cO
      refine sched_last ?_
      repeat (go_big_quiet_step (fail))
      refine wpQuiet_nil ?_
      go_wp2_with fail
      have hS3 := Lib.hid (hS2.out.back2)
      clear hS2
      generalize hwx : wr.drew = wx at *
      clear hwx
      go_loopw [6, 47] (fun s6 s47 wq => ∃ (O : List Nat) (m j : Nat) (a : Option Addr) (c : Nat), Hid (O.length = m) ∧ Hid (RSt n L f v O i) ∧ Hid (O[i]? = some u) ∧ Hid (∀ x ∈ (ofS n L u).take j, 0 < leftE L f x → ∀ hd : Nat, headE L x = (hd : Int) → hd ∈ O) ∧ j ≤ K ∧ i < m ∧ m ≤ n ∧ s6 = .slice a m c ∧ s47 = .int .i64 j ∧ Hid (Sep w wq [Row 4 1 n (.slice (some ⟨g, 0, none⟩) n n) (boolV (metL n O)), Row 3 1 m (.slice a m c) (i64s (ints O)), Row 3 1 K (.slice a2 K c2) (i64s (ints (ofS n L u)))])) (fun _ s47 _ => K - (intOf s47).toNat)
      case atStart => exact ⟨O, m, 0, _, c, hOm, hRs, hui, Lib.hid (by simp), by omega, hlt, hmn, rfl, rfl, hS3⟩
      case round =>
        clear hS3 hOm hRs hui
        obtain ⟨O, m, j, a, c, hOm, hRs, hui, hdn, hjK, him, hmn, rfl, rfl, hS⟩ := hrel
        by_cases hlj : j < K
        · have hlj1 : (j : Int) < K := by omega
          obtain ⟨x, hx⟩ : ∃ x, (ofS n L u)[j]? = some x := ⟨_, List.getElem?_eq_getElem (by rw [hK'.out]; exact hlj)⟩
          have hxm := (mem_ofS hG'.out (v := u)).1 (List.mem_of_getElem? hx)
          have hxN : x < N2 := by have := hN2'.out; omega
          obtain ⟨hd, hhd⟩ := Int.eq_ofNat_of_zero_le (head_in hG'.out hxm.1).1
          have hdn1 : hd < n := by have := (head_in hG'.out hxm.1).2; omega
          obtain ⟨ga, rfl, hga, _, hcell⟩ := row_form (hS.out.rowAt 2 rfl) (by omega)
          have cX := hcell j (.int .i64 (x : Int)) (by
            have : (ints (ofS n L u))[j]? = some (x : Int) := by unfold ints; rw [List.getElem?_map, hx]; rfl
            exact i64s_got this)
          have hx' := Lib.hid hx
          have hxm' := Lib.hid hxm
          have hhd' := Lib.hid hhd
          have c0 := hb0.out _ hS.out.mod
          have c1 := hb1.out _ hS.out.mod
          have cl := hleft.out _ hS.out.mod x hxN
          have l1 := hrlt.out _ hS.out.mod
          have l2 := hglt.out _ hS.out.mod
          have chd := Lib.hid (hhead.out _ hS.out.mod x)
          rw [hhd] at chd
          have cm : wr.cell? ⟨g, hd, none⟩ = some (.bool (decide (hd ∈ O))) := by
            have h1 := (hS.out.rowAt 0 rfl).cellAt hd (by omega)
            rw [boolV_got (metL_get hdn1)] at h1
            exact h1
          have fm := (hS.out.rowAt 0 rfl).frozenAt hd
          have lg : g < wr.heap.size := own_lt (hS.out.rowAt 0 rfl) (g := g) rfl
          have hdl : (hd : Int) < n := by omega
          have hxl : (x : Int) < N2 := by omega
          have htk : (ofS n L u).take (j + 1) = (ofS n L u).take j ++ [x] := by rw [List.take_add_one, hx]; rfl
          have htk' := Lib.hid htk
          clear hx hxm hhd hcell htk
          by_cases hle : 0 < leftE L f x
          · by_cases hmet : hd ∈ O
            · have hnew := Lib.hid (show ∀ y ∈ (ofS n L u).take (j + 1), 0 < leftE L f y → ∀ hd : Nat, headE L y = (hd : Int) → hd ∈ O by
                intro y hy h1 hd2 h2
                rw [htk'.out, List.mem_append, List.mem_singleton] at hy
                rcases hy with hy | rfl
                · exact hdn.out y hy h1 hd2 h2
                · rw [hhd'.out] at h2
                  have : hd = hd2 := by omega
                  subst this
                  exact hmet)
              have hmt : decide (hd ∈ O) = true := by simpa using hmet
              rw [hmt] at cm
              clear hmt hmet
              generalize leftE L f x = z at *
              go_wp2_with (go_at_call 39; refine chd.out.mono ?_; rintro e w1 ⟨rfl, hw1⟩; subst w1)
              go_roundw
              case rel => exact ⟨O, m, j + 1, a, c, hOm, hRs, hui, hnew, by omega, him, hmn, rfl, by go_num, hS⟩
              case measure => simp [intOf]; omega
            · have hmt : decide (hd ∈ O) = false := by simpa using hmet
              rw [hmt] at cm
              have hiO : i < O.length := by rw [hOm.out]; exact him
              have hmore := Lib.hid (RSt.more hRs.out hiO (hxm'.out.1) (by rw [hxm'.out.2]; have := hui.out; rw [List.getElem?_eq_getElem hiO] at this; injection this with this; rw [this]) hle hhd'.out hmet)
              have hlen2 := Lib.hid (show (O ++ [hd]).length = m + 1 by rw [List.length_append, hOm.out]; rfl)
              have hmn2 : m + 1 ≤ n := by rw [← hlen2.out]; exact hmore.out.le hG'.out hv
              have hui2 := Lib.hid (show (O ++ [hd])[i]? = some u by rw [List.getElem?_append_left hiO]; exact hui.out)
              have hnew := Lib.hid (show ∀ y ∈ (ofS n L u).take (j + 1), 0 < leftE L f y → ∀ h2 : Nat, headE L y = (h2 : Int) → h2 ∈ O ++ [hd] by
                intro y hy h1 hd2 h2
                rw [htk'.out, List.mem_append, List.mem_singleton] at hy
                rw [List.mem_append, List.mem_singleton]
                rcases hy with hy | rfl
                · exact .inl (hdn.out y hy h1 hd2 h2)
                · rw [hhd'.out] at h2
                  exact .inr (by omega))
              have hS6 := Lib.hid (by
                have h5 := hS.out.rowsetAt 0 rfl hd (.bool true)
                rw [boolV_set, metL_set] at h5
                exact h5)
              have hgr := Lib.hid (show ∀ (a1 : Option Addr) (c1 : Nat) (w6 : World), w6.ownsRow 0 3 1 (.slice a1 (m + 1) c1) (m + 1) (i64s (ints O) ++ [.int .i64 (hd : Int)]) → Mod (Value.slice a m c).ownBlock.toList (wr.setCell ⟨g, hd, none⟩ (.bool true)) w6 → ((Value.slice a1 (m + 1) c1).ownBlock = (Value.slice a m c).ownBlock ∨ ∃ b, (Value.slice a1 (m + 1) c1).ownBlock = some b ∧ (wr.setCell ⟨g, hd, none⟩ (.bool true)).heap.size ≤ b) →
                  Sep w w6 [Row 4 1 n (.slice (some ⟨g, 0, none⟩) n n) (boolV (metL n (O ++ [hd]))), Row 3 1 (m + 1) (.slice a1 (m + 1) c1) (i64s (ints (O ++ [hd]))), Row 3 1 K (.slice (some ⟨ga, 0, none⟩) K c2) (i64s (ints (ofS n L u)))] by
                intro a1 c1 w6 h1 h2 h3
                rw [← ints_snoc] at h1
                exact hS6.out.growAt 1 rfl h1 h2 h3)
              clear hmt hmet hiO
              generalize leftE L f x = z at *
              go_wp2_with (first
                | (go_at_call 39; refine chd.out.mono ?_; rintro e w1 ⟨rfl, hw1⟩; subst w1)
                | (at_builtin; refine app_own rfl (.tmp 75) (.tmp 77) 51 3 _ 1 8 rfl Tryz.underlying51 infoI5 rfl (by omega) (by omega) (.slice a m c) m 1 (i64s (ints O)) [.int .i64 (hd : Int)] rfl rfl (by simp [World.setCell]) rfl (by simp [Value.oneCell']) (hS6.out.rowAt 1 rfl) (by omega) ?_; intro a1 c1 w6 ho6 hm6 hb6; have hS7 := Lib.hid (hgr.out a1 c1 w6 ho6 hm6 hb6); clear ho6 hm6 hb6))
              go_roundw
              case rel => exact ⟨O ++ [hd], m + 1, j + 1, a1, c1, hlen2, hmore, hui2, hnew, by omega, by omega, hmn2, rfl, by go_num, hS7⟩
              case measure => simp [intOf]; omega
          · have hnew := Lib.hid (show ∀ y ∈ (ofS n L u).take (j + 1), 0 < leftE L f y → ∀ hd : Nat, headE L y = (hd : Int) → hd ∈ O by
              intro y hy h1 hd2 h2
              rw [htk'.out, List.mem_append, List.mem_singleton] at hy
              rcases hy with hy | rfl
              · exact hdn.out y hy h1 hd2 h2
              · exact absurd h1 hle)
            generalize leftE L f x = z at *
            go_wp2_with (go_at_call 39; refine chd.out.mono ?_; rintro e w1 ⟨rfl, hw1⟩; subst w1)
            go_roundw
            case rel => exact ⟨O, m, j + 1, a, c, hOm, hRs, hui, hnew, by omega, him, hmn, rfl, by go_num, hS⟩
            case measure => simp [intOf]; omega
        · have hjk : j = K := by omega
          have hiO : i < O.length := by rw [hOm.out]; exact him
          have hnx := Lib.hid (hRs.out.next hiO (fun a' h' h1 h2 h3 h4 => by
            have hu2 := hui.out
            rw [List.getElem?_eq_getElem hiO] at hu2
            injection hu2 with hu2
            rw [hu2] at h2
            refine hdn.out a' ?_ h3 h' h4
            rw [hjk, ← hK'.out, List.take_length, mem_ofS hG'.out]
            exact ⟨h1, h2⟩))
          have hS9 := Lib.hid (hS.out.dropAt 2 (by simp))
          clear hS hdn hjk hiO
          go_wp2_with fail
          go_roundw
          case rel => exact ⟨O, m, i + 1, a, c, hOm, hnx, by omega, hmn, rfl, by go_num, hS9⟩
          case measure => simp [intOf]; omega
    · have hiO : i = O.length := by have := hOm.out; omega
      have hRs2 := hRs.out
      rw [hiO] at hRs2
      obtain ⟨l, hl1, hl2, hl3⟩ := reach_sort hRs2
      have hlm : l.length = m := hl2.trans hOm.out
      have hsort := Lib.hid (by
        have h5 := hS.out.rowAt 1 rfl
        have h6 := sortI_any (xs := ints O) (a := a) (c := c) (w := wr) (by rw [ints_len, hOm.out]; exact h5) (by rw [ints_len, hOm.out]; omega)
        rw [ints_len, hOm.out, hl3] at h6
        exact h6)
      have hl1' := Lib.hid hl1
      have hlm' := Lib.hid hlm
      clear hl1 hl2 hl3 hlm hRs2 hiO hRs
      go_wp2_with fail
      refine hsort.out.mono ?_
      rintro e w9 ⟨rfl, ho9, hm9⟩
      have hS9 := Lib.hid (hS.out.growAt 1 rfl ho9 hm9 (.inl rfl))
      clear ho9 hm9
      try dsimp only
      go_wp2_with fail
      go_ret
      refine ⟨l, a, c, hl1'.out, by rw [hlm'.out]; rfl, ?_⟩
      rw [hlm'.out]
      exact hS9.out.swap.toMade
end
end Edge
end Go.Proofs.YtjpfmkfikidgkaaGreat

set_option linter.unusedVariables false
set_option linter.unusedSimpArgs false
namespace Go.Proofs.YtjpfmkfikidgkaaGreat
open Go.RowKit
namespace Edge
/-- What the search holds: the levels, the round's number, who is next. -/
def SpL (Bo g Bd Bn n : Nat) (O : List Int) (d : Nat) (m : Nat) (a : Option Addr) (c : Nat) (next : List Nat) (R : List Part) : List Part :=
  Blk Bo [.slice (some ⟨g, 0, none⟩) n n] 51 :: Row 3 1 n (.slice (some ⟨g, 0, none⟩) n n) (i64s O) :: Blk Bd [.int .i64 d] 3 :: Blk Bn [.slice a m c] 51 :: Row 3 1 m (.slice a m c) (i64s (ints next)) :: R
theorem i64s_getD {O : List Int} {u : Nat} (hu : u < O.length) : (i64s O)[u]? = some (.int .i64 (O.getD u 0)) := by
  rw [List.getD_eq_getElem?_getD, List.getElem?_eq_getElem hu]
  exact i64s_get hu
set_option maxRecDepth 100000 in
set_option maxHeartbeats 4000000 in
theorem see_sep {W0 w : World} {Bo g Bd Bn n d u m : Nat} {O : List Int} {next : List Nat} {a : Option Addr} {c : Nat} {R : List Part} (hS : Sep W0 w (SpL Bo g Bd Bn n O d m a c next R)) (hO : O.length = n) (hu : u < n) (hm : m ≤ 4096) :
    Calls Tryz.prog 189 #[.int .i64 (u : Int), .pointer (some ⟨Bo, 0, none⟩), .pointer (some ⟨Bd, 0, none⟩), .pointer (some ⟨Bn, 0, none⟩)] w fun e w' => e = .returned (.tuple #[]) ∧
      ((0 ≤ O.getD u 0 ∧ w' = w) ∨ (O.getD u 0 < 0 ∧ ∃ a1 c1, Sep W0 w' (SpL Bo g Bd Bn n (O.set u (d : Int)) d (m + 1) a1 c1 (next ++ [u]) R))) := by
  have c0 := (hS.blkAt 0 rfl).cell 0 rfl
  have l0 := (hS.blkAt 0 rfl).lt
  have cg : w.cell? ⟨g, u, none⟩ = some (.int .i64 (O.getD u 0)) := by
    have h1 := (hS.rowAt 1 rfl).cellAt u (by omega)
    rw [i64s_getD (by omega)] at h1
    exact h1
  have fg := (hS.rowAt 1 rfl).frozenAt u
  have lg : g < w.heap.size := own_lt (hS.rowAt 1 rfl) (g := g) rfl
  have cd := (hS.blkAt 2 rfl).cell 0 rfl
  have ld := (hS.blkAt 2 rfl).lt
  have cn := (hS.blkAt 3 rfl).cell 0 rfl
  have ln := (hS.blkAt 3 rfl).lt
  have hul : (u : Int) < n := by omega
  by_cases h0 : O.getD u 0 < 0
  · have t0 : decide (O.getD u 0 < 0) = true := by simpa using h0
    have hS2 := Lib.hid (by
      have h5 := hS.rowsetAt 1 rfl u (.int .i64 d)
      rw [i64s_set] at h5
      exact h5)
    have cn2 := (hS2.out.blkAt 3 rfl).cell 0 rfl
    have hgr := Lib.hid (show ∀ (a1 : Option Addr) (c1 : Nat) (w6 : World), w6.ownsRow 0 3 1 (.slice a1 (m + 1) c1) (m + 1) (i64s (ints next) ++ [.int .i64 (u : Int)]) → Mod (Value.slice a m c).ownBlock.toList (w.setCell ⟨g, u, none⟩ (.int .i64 d)) w6 → ((Value.slice a1 (m + 1) c1).ownBlock = (Value.slice a m c).ownBlock ∨ ∃ b, (Value.slice a1 (m + 1) c1).ownBlock = some b ∧ (w.setCell ⟨g, u, none⟩ (.int .i64 d)).heap.size ≤ b) →
        Sep W0 w6 (Blk Bo [.slice (some ⟨g, 0, none⟩) n n] 51 :: Row 3 1 n (.slice (some ⟨g, 0, none⟩) n n) (i64s (O.set u (d : Int))) :: Blk Bd [.int .i64 d] 3 :: Blk Bn [.slice a m c] 51 :: Row 3 1 (m + 1) (.slice a1 (m + 1) c1) (i64s (ints (next ++ [u]))) :: R) by
      intro a1 c1 w6 h1 h2 h3
      rw [← ints_snoc] at h1
      exact hS2.out.growAt 4 rfl h1 h2 h3)
    have h0' := Lib.hid h0
    clear hS h0
    generalize O.getD u 0 = z at *
    go_enter Tryz.func189, Tryz.ntmps189
    go_wp2_with (at_builtin; refine app_own rfl (.tmp 14) (.tmp 16) 51 3 _ 1 8 rfl Tryz.underlying51 infoI5 rfl (by omega) (by omega) (.slice a m c) m 1 (i64s (ints next)) [.int .i64 (u : Int)] rfl rfl (by simp [World.setCell]) rfl (by simp [Value.oneCell']) (hS2.out.rowAt 4 rfl) (by omega) ?_; intro a1 c1 w6 ho6 hm6 hb6; have hS7 := Lib.hid (hgr.out a1 c1 w6 ho6 hm6 hb6); clear ho6 hm6 hb6; have cn7 := (hS7.out.blkAt 3 rfl).cell 0 rfl; have fn7 := (hS7.out.blkAt 3 rfl).free 0; have ln7 := (hS7.out.blkAt 3 rfl).lt)
    exact bodyPost_end (v := .tuple #[]) (by simp [results, Tryz.results189, go_sem]) rfl ⟨rfl, .inr ⟨h0'.out, a1, c1, hS7.out.setAt 3 rfl 0 (.slice a1 (m + 1) c1)⟩⟩
  · have t0 : decide (O.getD u 0 < 0) = false := by simpa using h0
    have h0' := Lib.hid (show 0 ≤ O.getD u 0 by omega)
    clear hS h0
    generalize O.getD u 0 = z at *
    go_enter Tryz.func189, Tryz.ntmps189
    go_wp2_with fail
    exact bodyPost_end (v := .tuple #[]) (by simp [results, Tryz.results189, go_sem]) rfl ⟨rfl, .inl ⟨h0'.out, rfl⟩⟩
end Edge
end Go.Proofs.YtjpfmkfikidgkaaGreat

set_option linter.unusedVariables false
set_option linter.unusedSimpArgs false
namespace Go.Proofs.YtjpfmkfikidgkaaGreat
open Go.RowKit
theorem Sep.partAt {W0 w : World} {P : Part} {L : List Part} (h : Sep W0 w L) (i : Nat) (hi : L[i]? = some P) : ∃ F, P w F := by
  obtain ⟨F, h1, _⟩ := (h.get i hi).first
  exact ⟨F, h1⟩
namespace Edge
/-- .. seen, in the search. -/
theorem see_bst {W0 w : World} {Bo g Bd Bn n d u m t i : Nat} {A : Nat → Nat → Prop} {O : List Int} {now next : List Nat} {a : Option Addr} {c : Nat} {R : List Part} (hS : Sep W0 w (SpL Bo g Bd Bn n O d m a c next R)) (hA : ∀ {u x}, A u x → u < n ∧ x < n) (hn4 : n ≤ 4096) (hB : BSt n A t O d now i next) (hm : next.length = m) (hd : 1 ≤ d) (hi : i < now.length) (ha : A u now[i]) :
    Calls Tryz.prog 189 #[.int .i64 (u : Int), .pointer (some ⟨Bo, 0, none⟩), .pointer (some ⟨Bd, 0, none⟩), .pointer (some ⟨Bn, 0, none⟩)] w fun e w' => e = .returned (.tuple #[]) ∧
      ∃ O' next' m' a1 c1, next'.length = m' ∧ m' ≤ n ∧ BSt n A t O' d now i next' ∧ (∀ y, O.getD y 0 ≠ -1 → O'.getD y 0 ≠ -1) ∧ O'.getD u 0 ≠ -1 ∧ Sep W0 w' (SpL Bo g Bd Bn n O' d m' a1 c1 next' R) := by
  have hu := (hA ha).1
  have hm1 : m ≤ n := by rw [← hm]; exact nodup_le n next hB.nd hB.nextl
  refine (see_sep hS hB.len hu (by omega)).mono ?_
  rintro e w' ⟨rfl, ⟨h0, rfl⟩ | ⟨h0, a1, c1, hS2⟩⟩
  · exact ⟨rfl, O, next, m, a, c, hm, hm1, hB, fun y h => h, by omega, hS⟩
  · have h0' : O.getD u 0 = -1 := by rcases hB.val u hu with h | h <;> omega
    have hB2 := hB.see hd hi ha hu h0'
    have hm2 : (next ++ [u]).length = m + 1 := by rw [List.length_append, hm]; rfl
    refine ⟨rfl, O.set u d, next ++ [u], m + 1, a1, c1, hm2, ?_, hB2, fun y h => ?_, ?_, hS2⟩
    · rw [← hm2]; exact nodup_le n _ hB2.nd hB2.nextl
    · rw [getD_set5 O u _ (by rw [hB.len]; exact hu)]
      split
      · omega
      · exact h
    · rw [getD_set5 O u _ (by rw [hB.len]; exact hu), if_pos rfl]; omega
set_option maxRecDepth 100000 in
set_option maxHeartbeats 8000000 in
theorem to1_bst {W0 w : World} {Bo g Bd Bn Ba Br r ba n d m t i v : Nat} {L : List Ed} {f O : List Int} {now next : List Nat} {a : Option Addr} {c : Nat} {R : List Part}
    (hS : Sep W0 w (SpL Bo g Bd Bn n O d m a c next (Blk Ba [.pointer (some ⟨ba, 0, none⟩)] 47 :: Blk Br [.pointer (some ⟨r, 0, none⟩)] 29 :: RestP r ba n L f :: ArcP ba n L :: R)))
    (hG : GOk n L) (hB : BSt n (Arc L f) t O d now i next) (hm : next.length = m) (hd : 1 ≤ d) (hi : i < now.length) (hv : now[i] = v) (hvn : v < n) :
    Calls Tryz.prog 132 #[.int .i64 (v : Int), .func (.func 189) #[] #[.pointer (some ⟨Bo, 0, none⟩), .pointer (some ⟨Bd, 0, none⟩), .pointer (some ⟨Bn, 0, none⟩)], .pointer (some ⟨Ba, 0, none⟩), .pointer (some ⟨Br, 0, none⟩)] w fun e w' => e = .returned (.tuple #[]) ∧
      ∃ O' next' m' a1 c1, next'.length = m' ∧ m' ≤ n ∧ BSt n (Arc L f) t O' d now (i + 1) next' ∧ Sep W0 w' (SpL Bo g Bd Bn n O' d m' a1 c1 next' (Blk Ba [.pointer (some ⟨ba, 0, none⟩)] 47 :: Blk Br [.pointer (some ⟨r, 0, none⟩)] 29 :: RestP r ba n L f :: ArcP ba n L :: R)) := by
  have hm1 : m ≤ n := by rw [← hm]; exact nodup_le n next hB.nd hB.nextl
  have hn4 := hG.le
  have ca := (hS.blkAt 5 rfl).cell 0 rfl
  have la := (hS.blkAt 5 rfl).lt
  obtain ⟨FA, hA⟩ := hS.partAt 8 rfl
  have cc := Lib.hid (show Calls Tryz.prog 75 #[.pointer (some ⟨ba, 0, none⟩), .int .i64 (v : Int)] w fun e w' => ∃ a c, e = .returned (.slice a (ofS n L v).length c) ∧ Made w w' 3 1 a (ofS n L v).length c (i64s (ints (ofS n L v))) by
    have h1 := aout_p hA hG (v : Int)
    have e : outI n L (v : Int) = ints (ofS n L v) := by unfold outI; rw [if_pos (by omega), Int.toNat_natCast]
    rw [e, ints_len] at h1
    exact h1)
  obtain ⟨K, hK⟩ : ∃ K, (ofS n L v).length = K := ⟨_, rfl⟩
  rw [hK] at cc
  have hK' := Lib.hid hK
  have hKb : K ≤ 2097152 := by
    have h5 := ofU_le L (2 * L.length) v
    have h6 := ofS_len hG v
    have h7 := hG.len
    unfold cntE at h6
    omega
  have hS' := Lib.hid hS
  have hB' := Lib.hid hB
  have hm' := Lib.hid hm
  have hG' := Lib.hid hG
  have hv' := Lib.hid hv
  have hlen : L.length ≤ 1048576 := hG.len
  clear hS hB hm hG hK hA hv
  go_enter Tryz.func132, Tryz.ntmps132
  go_wp2_with fail
  refine cc.out.mono ?_
  rintro e w2 ⟨a2, c2, rfl, hmd⟩
  have hS2 := Lib.hid (hS'.out.made hmd)
  clear hmd hS' cc ca la
  try dsimp only
  go_wp2_with fail
  go_loopw [12] (fun s12 wr => ∃ (O : List Int) (next : List Nat) (m j : Nat) (a : Option Addr) (c : Nat), Hid (BSt n (Arc L f) t O d now i next) ∧ Hid (next.length = m) ∧ m ≤ n ∧ Hid (∀ x ∈ (ofS n L v).take j, 0 < leftE L f (back x) → ∀ u : Nat, headE L x = (u : Int) → O.getD u 0 ≠ -1) ∧ j ≤ K ∧ s12 = .int .i64 j ∧
    Hid (Sep W0 wr (Row 3 1 K (.slice a2 K c2) (i64s (ints (ofS n L v))) :: SpL Bo g Bd Bn n O d m a c next (Blk Ba [.pointer (some ⟨ba, 0, none⟩)] 47 :: Blk Br [.pointer (some ⟨r, 0, none⟩)] 29 :: RestP r ba n L f :: ArcP ba n L :: R)))) (fun s12 _ => K - (intOf s12).toNat)
  case atStart => exact ⟨O, next, m, 0, a, c, hB', hm', hm1, Lib.hid (by simp), by omega, rfl, hS2⟩
  case round =>
    clear hS2 hB' hm' hm1
    obtain ⟨O, next, m, j, a, c, hB, hm, hm1, hdn, hjK, rfl, hS⟩ := hrel
    by_cases hlj : j < K
    · have hlj1 : (j : Int) < K := by omega
      obtain ⟨x, hx⟩ : ∃ x, (ofS n L v)[j]? = some x := ⟨_, List.getElem?_eq_getElem (by rw [hK'.out]; exact hlj)⟩
      have hxm := (mem_ofS hG'.out (v := v)).1 (List.mem_of_getElem? hx)
      have hbk : back x < 2 * L.length := back_lt.2 hxm.1
      obtain ⟨hd1, hhd⟩ := Int.eq_ofNat_of_zero_le (head_in hG'.out hxm.1).1
      obtain ⟨ga, rfl, hga, _, hcell⟩ := row_form (hS.out.rowAt 0 rfl) (by omega)
      have cX := hcell j (.int .i64 (x : Int)) (by
        have : (ints (ofS n L v))[j]? = some (x : Int) := by unfold ints; rw [List.getElem?_map, hx]; rfl
        exact i64s_got this)
      have ca := (hS.out.blkAt 6 rfl).cell 0 rfl
      have la := (hS.out.blkAt 6 rfl).lt
      have cr := (hS.out.blkAt 7 rfl).cell 0 rfl
      have lr := (hS.out.blkAt 7 rfl).lt
      have chd := Lib.hid (show Calls Tryz.prog 39 #[.pointer (some ⟨ba, 0, none⟩), .int .i64 (x : Int)] wr fun e w' => e = .returned (.int .i64 (hd1 : Int)) ∧ w' = wr by
        obtain ⟨FA, hA⟩ := hS.out.partAt 9 rfl
        have h1 := ahead_p hA hG'.out (x : Int)
        have e : headI L (x : Int) = headE L x := by unfold headI; rw [if_neg (by omega), Int.toNat_natCast]
        rw [e, hhd] at h1
        exact h1)
      have clf := Lib.hid (show Calls Tryz.prog 40 #[.pointer (some ⟨r, 0, none⟩), .int .i64 ((back x : Nat) : Int)] wr fun e w' => e = .returned (.int .i64 (leftE L f (back x))) ∧ w' = wr by
        obtain ⟨FA, hA⟩ := hS.out.partAt 9 rfl
        obtain ⟨FR, hR⟩ := hS.out.partAt 8 rfl
        have h1 := rleft_p hR hA hG'.out ((back x : Nat) : Int)
        have e : leftI L f ((back x : Nat) : Int) = leftE L f (back x) := by unfold leftI; rw [if_pos (by omega), Int.toNat_natCast]
        rw [e] at h1
        exact h1)
      have hxb := bits_back x (by omega)
      have htk := Lib.hid (show (ofS n L v).take (j + 1) = (ofS n L v).take j ++ [x] by rw [List.take_add_one, hx]; rfl)
      have hhd' := Lib.hid hhd
      have hxm' := Lib.hid hxm
      have harc : 0 < leftE L f (back x) → Arc L f hd1 v := fun hle => ⟨back x, hbk, by rw [tail_back, hhd], by rw [head_back, hxm.2], hle⟩
      by_cases hle : 0 < leftE L f (back x)
      · have csee := Lib.hid (see_bst (hS.out.tail) (arc_lt hG'.out) hn4 hB.out hm.out hd hi (show Arc L f hd1 now[i] by rw [hv'.out]; exact harc hle))
        have csee2 := Lib.hid (show Calls Tryz.prog 189 #[.int .i64 (hd1 : Int), .pointer (some ⟨Bo, 0, none⟩), .pointer (some ⟨Bd, 0, none⟩), .pointer (some ⟨Bn, 0, none⟩)] wr fun e w' => e = .returned (.tuple #[]) ∧
      ∃ O' next' m' a1 c1, next'.length = m' ∧ m' ≤ n ∧ BSt n (Arc L f) t O' d now i next' ∧ (∀ y, O.getD y 0 ≠ -1 → O'.getD y 0 ≠ -1) ∧ O'.getD hd1 0 ≠ -1 ∧ Sep W0 w' (Row 3 1 K (.slice (some ⟨ga, 0, none⟩) K c2) (i64s (ints (ofS n L v))) :: SpL Bo g Bd Bn n O' d m' a1 c1 next' (Blk Ba [.pointer (some ⟨ba, 0, none⟩)] 47 :: Blk Br [.pointer (some ⟨r, 0, none⟩)] 29 :: RestP r ba n L f :: ArcP ba n L :: R)) by
          have h1 := see_bst (R := Blk Ba [.pointer (some ⟨ba, 0, none⟩)] 47 :: Blk Br [.pointer (some ⟨r, 0, none⟩)] 29 :: RestP r ba n L f :: ArcP ba n L :: R ++ [Row 3 1 K (.slice (some ⟨ga, 0, none⟩) K c2) (i64s (ints (ofS n L v)))]) (by have h2 := hS.out.rot; simpa [SpL] using h2) (arc_lt hG'.out) hn4 hB.out hm.out hd hi (show Arc L f hd1 now[i] by rw [hv'.out]; exact harc hle)
          refine h1.mono ?_
          rintro e w' ⟨rfl, O', next', m', a1, c1, k1, k2, k3, k4, k5, k6⟩
          refine ⟨rfl, O', next', m', a1, c1, k1, k2, k3, k4, k5, ?_⟩
          refine k6.perm ?_
          have := List.perm_append_singleton (Row 3 1 K (.slice (some ⟨ga, 0, none⟩) K c2) (i64s (ints (ofS n L v)))) (SpL Bo g Bd Bn n O' d m' a1 c1 next' (Blk Ba [.pointer (some ⟨ba, 0, none⟩)] 47 :: Blk Br [.pointer (some ⟨r, 0, none⟩)] 29 :: RestP r ba n L f :: ArcP ba n L :: R))
          simpa [SpL] using this)
        clear csee hx hxm hhd hcell harc hS
        have hkeep := Lib.hid (show ∀ O' : List Int, (∀ y, O.getD y 0 ≠ -1 → O'.getD y 0 ≠ -1) → O'.getD hd1 0 ≠ -1 → ∀ y ∈ (ofS n L v).take (j + 1), 0 < leftE L f (back y) → ∀ u : Nat, headE L y = (u : Int) → O'.getD u 0 ≠ -1 by
          intro O' k1 k2 y hy h1 u h2
          rw [htk.out, List.mem_append, List.mem_singleton] at hy
          rcases hy with hy | rfl
          · exact k1 _ (hdn.out y hy h1 u h2)
          · rw [hhd'.out] at h2
            have : hd1 = u := by omega
            subst this
            exact k2)
        clear hdn htk hhd' hxm' hB hm
        generalize leftE L f (back x) = z at *
        generalize ((back x : Nat) : Int) = bx at *
        clear hbk
        go_wp2_with (first
          | (go_at_call 39; refine chd.out.mono ?_; rintro e w1 ⟨rfl, hw1⟩; subst w1)
          | (go_at_call 40; refine clf.out.mono ?_; rintro e w1 ⟨rfl, hw1⟩; subst w1))
        refine csee2.out.mono ?_
        rintro e w3 ⟨rfl, O', next', m', a1, c1, k1, k2, k3, k4, k5, k6⟩
        have k1' := Lib.hid k1
        have k3' := Lib.hid k3
        have k6' := Lib.hid k6
        have hk' := Lib.hid (hkeep.out O' k4 k5)
        clear k1 k3 k4 k5 k6 csee2 chd clf hkeep
        try dsimp only
        go_wp2_with fail
        go_roundw
        case rel => exact ⟨O', next', m', j + 1, a1, c1, k3', k1', k2, hk', by omega, by go_num, k6'⟩
        case measure => simp [intOf]; omega
      · have hnew := Lib.hid (show ∀ y ∈ (ofS n L v).take (j + 1), 0 < leftE L f (back y) → ∀ u : Nat, headE L y = (u : Int) → O.getD u 0 ≠ -1 by
          intro y hy h1 hd2 h2
          rw [htk.out, List.mem_append, List.mem_singleton] at hy
          rcases hy with hy | rfl
          · exact hdn.out y hy h1 hd2 h2
          · exact absurd h1 hle)
        clear hx hxm hhd hcell harc hdn
        generalize leftE L f (back x) = z at *
        generalize ((back x : Nat) : Int) = bx at *
        clear hbk
        go_wp2_with (go_at_call 40; refine clf.out.mono ?_; rintro e w1 ⟨rfl, hw1⟩; subst w1)
        go_roundw
        case rel => exact ⟨O, next, m, j + 1, a, c, hB, hm, hm1, hnew, by omega, by go_num, hS⟩
        case measure => simp [intOf]; omega
    · have hjk : j = K := by omega
      have hall : ∀ u, Arc L f u now[i] → O.getD u 0 ≠ -1 := by
        rintro u ⟨y, h1, h2, h3, h4⟩
        refine hdn.out (back y) ?_ (by rw [back_back]; exact h4) u (by rw [head_back, h2])
        rw [hjk, ← hK'.out, List.take_length, mem_ofS hG'.out]
        exact ⟨back_lt.2 h1, by rw [tail_back, h3, hv'.out]⟩
      have hB2 := Lib.hid (hB.out.seen hi hall)
      have hS9 := Lib.hid hS.out.tail
      clear hS hdn hjk hall
      go_wp2_with fail
      exact bodyPost_end (v := .tuple #[]) (by simp [results, Tryz.results132, go_sem]) rfl ⟨rfl, O, next, m, a, c, hm.out, hm1, hB2.out, hS9.out⟩
end Edge
end Go.Proofs.YtjpfmkfikidgkaaGreat

set_option linter.unusedVariables false
set_option linter.unusedSimpArgs false
namespace Go.Proofs.YtjpfmkfikidgkaaGreat
open Go.RowKit
/-- The objects in another order: each number counts in what is left. -/
def pickL {α : Type _} : List α → List Nat → List α
  | L, [] => L
  | L, i :: is => match L[i]? with
    | some x => x :: pickL (L.eraseIdx i) is
    | none => L
theorem pickL_perm {α : Type _} : ∀ (is : List Nat) (L : List α), L.Perm (pickL L is)
  | [], L => List.Perm.refl _
  | i :: is, L => by
    unfold pickL
    cases h : L[i]? with
    | none => exact List.Perm.refl _
    | some x =>
      obtain ⟨hl, he⟩ := List.getElem?_eq_some_iff.1 h
      have h1 := (perm_pick (α := Unit) L i hl).symm
      rw [he] at h1
      exact h1.trans (List.Perm.cons x (pickL_perm is _))
theorem Sep.picks {w0 w : World} {L : List Part} (h : Sep w0 w L) (is : List Nat) : Sep w0 w (pickL L is) := h.perm (pickL_perm is L)
theorem Sep.nilRow {w0 w : World} {L : List Part} (h : Sep w0 w L) (e size : Nat) : Sep w0 w (Row e size 0 (.slice none 0 0) [] :: L) :=
  h.add (P := Row e size 0 (.slice none 0 0) []) (Mod.refl _ _) (F := []) ⟨World.ownsRow_nil w 0 _ size, by simp [Value.ownBlock]⟩ (by simp)
namespace Edge
def negK (n k : Nat) : List Int := List.replicate k (-1) ++ List.replicate (n - k) 0
theorem negK_zero (n : Nat) : i64s (negK n 0) = List.replicate n (.int .i64 0) := by simp [negK, i64s]
theorem negK_len {n k : Nat} (h : k ≤ n) : (negK n k).length = n := by simp [negK]; omega
theorem negK_step {n k : Nat} (h : k < n) : (negK n k).set k (-1) = negK n (k + 1) := by
  unfold negK
  rw [List.set_append_right _ _ (by simp), List.length_replicate, Nat.sub_self, show n - k = (n - (k + 1)) + 1 by omega, List.replicate_succ, List.set_cons_zero, List.replicate_succ', List.append_assoc]
  rfl
theorem negK_all (n : Nat) : negK n n = List.replicate n (-1) := by simp [negK]
/-- The levels towards any number. -/
def LevI (n : Nat) (A : Nat → Nat → Prop) (t : Int) (D : List Int) : Prop := if 0 ≤ t ∧ t < n then LevTo n A t.toNat D else D = List.replicate n (-1)
/-- A function that lets see whoever leads to a vertex. -/
def OnOk (W0 : World) (n : Nat) (A : Nat → Nat → Prop) (t k : Nat) (caps : Array Value) (RR : List Part) : Prop :=
  ∀ (w : World) (Bo g Bd Bn d m i v : Nat) (O : List Int) (now next : List Nat) (a : Option Addr) (c : Nat) (R : List Part), Sep W0 w (SpL Bo g Bd Bn n O d m a c next (RR ++ R)) → BSt n A t O d now i next → next.length = m → 1 ≤ d → ∀ (hi : i < now.length), now[i] = v → v < n →
    Calls Tryz.prog k (#[.int .i64 (v : Int), .func (.func 189) #[] #[.pointer (some ⟨Bo, 0, none⟩), .pointer (some ⟨Bd, 0, none⟩), .pointer (some ⟨Bn, 0, none⟩)]] ++ caps) w fun e w' => e = .returned (.tuple #[]) ∧
      ∃ O' next' m' a1 c1, next'.length = m' ∧ m' ≤ n ∧ BSt n A t O' d now (i + 1) next' ∧ Sep W0 w' (SpL Bo g Bd Bn n O' d m' a1 c1 next' (RR ++ R))
def dAt (w : World) (p : Value) : Nat := match p with
  | .pointer (some a) => match w.cell? a with | some v => (intOf v).toNat | none => 0
  | _ => 0
theorem dAt_eq {w : World} {b d : Nat} (h : w.cell? ⟨b, 0, none⟩ = some (.int .i64 (d : Int))) : dAt w (.pointer (some ⟨b, 0, none⟩)) = d := by
  unfold dAt
  simp only [h, intOf, Int.toNat_natCast]
set_option maxRecDepth 100000 in
set_option maxHeartbeats 8000000 in
theorem spread_sep {W0 w : World} {n kf : Nat} {caps : Array Value} {A : Nat → Nat → Prop} {RR : List Part} (t : Int) (hS : Sep W0 w RR) (hA : ∀ {u x}, A u x → u < n ∧ x < n) (hn4 : n ≤ 4096) (hf : ∀ (v : Int) (p1 p2 p3 : Nat) (w : World), (callFunc kf (#[.int .i64 v, .func (.func 189) #[] #[.pointer (some ⟨p1, 0, none⟩), .pointer (some ⟨p2, 0, none⟩), .pointer (some ⟨p3, 0, none⟩)]] ++ caps)).run Tryz.prog w = .ok (.enter kf (#[.int .i64 v, .func (.func 189) #[] #[.pointer (some ⟨p1, 0, none⟩), .pointer (some ⟨p2, 0, none⟩), .pointer (some ⟨p3, 0, none⟩)]] ++ caps)) w) (hon : ∀ t, OnOk W0 n A t kf caps RR) :
    Calls Tryz.prog 131 #[.int .i64 n, .int .i64 t, .func (.func kf) #[] caps] w fun e w' => ∃ g D, e = .returned (.slice (some ⟨g, 0, none⟩) n n) ∧ LevI n A t D ∧ D.length = n ∧
      Sep W0 w' (Row 3 1 n (.slice (some ⟨g, 0, none⟩) n n) (i64s D) :: RR) := by
  have hA' := Lib.hid (fun u x (h : A u x) => hA h)
  have hon' := Lib.hid hon
  have hmk := make_run (P := Tryz.prog) 51 3 (.int .i64 0) 8 Tryz.underlying51 infoI5 rfl (by omega) n (by omega)
  have hS1 := Lib.hid ((hS.made (made_made w 3 (.int .i64 0) n (by omega))).box [.slice (some ⟨w.heap.size, 0, none⟩) n n] 51)
  rw [World.size_alloc, ← negK_zero] at hS1
  clear hS hA hon
  go_enter Tryz.func131, Tryz.ntmps131
  go_upto_region 2 with fail
  clear hmk
  generalize (w.alloc (.cells (madeCells #[.int .i64 0] n) 3)).alloc (.cells #[.slice (some ⟨w.heap.size, 0, none⟩) n n] 51) = w1 at *
  generalize w.heap.size + 1 = Bo at *
  generalize w.heap.size = g at *
  go_wp2_with fail
  go_loopw [17] (fun s17 wr => ∃ k : Nat, k ≤ n ∧ s17 = .int .i64 k ∧ Hid (Sep W0 wr (Blk Bo [.slice (some ⟨g, 0, none⟩) n n] 51 :: Row 3 1 n (.slice (some ⟨g, 0, none⟩) n n) (i64s (negK n k)) :: RR))) (fun s17 _ => n - (intOf s17).toNat)
  case atStart => exact ⟨0, Nat.zero_le _, rfl, hS1⟩
  case round =>
    clear hS1
    obtain ⟨k, hk, rfl, hS⟩ := hrel
    by_cases hlt : k < n
    · have hlt1 : (k : Int) < n := by omega
      have c0 := (hS.out.blkAt 0 rfl).cell 0 rfl
      have l0 := (hS.out.blkAt 0 rfl).lt
      have cg := (hS.out.rowAt 1 rfl).cellAt k (by omega)
      rw [i64s_getD (by rw [negK_len hk]; exact hlt)] at cg
      have fg := (hS.out.rowAt 1 rfl).frozenAt k
      have lg : g < wr.heap.size := own_lt (hS.out.rowAt 1 rfl) (g := g) rfl
      have hS2 := Lib.hid (by
        have h5 := hS.out.rowsetAt 1 rfl k (.int .i64 (-1))
        rw [i64s_set, negK_step hlt] at h5
        exact h5)
      clear hS
      generalize (negK n k).getD k 0 = z at *
      go_wp2_with fail
      go_roundw
      case rel => exact ⟨k + 1, by omega, by go_num, hS2⟩
      case measure => simp [intOf]; omega
    · have hkn : k = n := by omega
      rw [hkn, negK_all] at hS
      clear hkn hk
      by_cases ht : 0 ≤ t ∧ t < n
      · obtain ⟨t, rfl⟩ := Int.eq_ofNat_of_zero_le ht.1
        have htn : t < n := by omega
        have c0 := (hS.out.blkAt 0 rfl).cell 0 rfl
        have l0 := (hS.out.blkAt 0 rfl).lt
        have cg := (hS.out.rowAt 1 rfl).cellAt t (by omega)
        rw [i64s_getD (by simp; omega)] at cg
        have fg := (hS.out.rowAt 1 rfl).frozenAt t
        have lg : g < wr.heap.size := own_lt (hS.out.rowAt 1 rfl) (g := g) rfl
        have hS2 := Lib.hid (by
          have h5 := hS.out.rowsetAt 1 rfl t (.int .i64 0)
          rw [i64s_set] at h5
          exact h5)
        clear hS
        generalize (List.replicate n (-1)).getD t 0 = z at *
        have t1 : decide ((n : Int) ≤ (t : Int)) = false := by simp; omega
        have t2 : decide ((t : Int) < 0) = false := by simp
        have htl : (t : Int) < n := ht.2
        go_upto_region 10 with fail
        generalize wr.setCell ⟨g, t, none⟩ (.int .i64 0) = w2 at *
        clear c0 l0 cg fg lg
        have hB0 := Lib.hid (BSt.start (n := n) (A := A) htn)
        have hS3 := Lib.hid (by
          have h5 := (hS2.out.made (lit_made w2 3 (.int .i64 (t : Int)))).box [.int .i64 1] 3
          rw [World.size_alloc] at h5
          exact h5)
        go_wp2_with fail
        generalize (w2.alloc (.cells #[.int .i64 (t : Int)] 3)).alloc (.cells #[.int .i64 1] 3) = w3 at *
        generalize w2.heap.size + 1 = Bd0 at *
        generalize w2.heap.size = gn0 at *
        have hS4 := Lib.hid (show Sep W0 w3 (Blk Bo [.slice (some ⟨g, 0, none⟩) n n] 51 :: Row 3 1 n (.slice (some ⟨g, 0, none⟩) n n) (i64s ((List.replicate n (-1)).set t 0)) :: Blk Bd0 [.int .i64 ((1 : Nat) : Int)] 3 :: Row 3 1 1 (.slice (some ⟨gn0, 0, none⟩) 1 1) (i64s (ints [t])) :: RR) from hS3.out.picks [2, 2, 0, 0])
        clear hS3 hS2
        skip
        go_loopw [9, 10] (fun s9 s10 wr => ∃ (O : List Int) (d : Nat) (now : List Nat) (m : Nat) (a : Option Addr) (c : Nat) (Bd : Nat), s9 = .slice a m c ∧ s10 = .pointer (some ⟨Bd, 0, none⟩) ∧ Hid (now.length = m) ∧ Hid (BSt n A t O d now 0 []) ∧ 1 ≤ d ∧ d ≤ n + 1 ∧ m ≤ n ∧
          Hid (Sep W0 wr (Blk Bo [.slice (some ⟨g, 0, none⟩) n n] 51 :: Row 3 1 n (.slice (some ⟨g, 0, none⟩) n n) (i64s O) :: Blk Bd [.int .i64 (d : Int)] 3 :: Row 3 1 m (.slice a m c) (i64s (ints now)) :: RR))) (fun s9 s10 wr => n + 2 - dAt wr s10)
        case atStart => exact ⟨_, 1, [t], 1, _, _, Bd0, rfl, rfl, Lib.hid rfl, hB0, by omega, by omega, by omega, hS4⟩
        case round =>
          clear hS4 hB0
          obtain ⟨O, d, now, m, a, c, Bd, rfl, rfl, hm, hB, hd1, hdn, hmn, hS⟩ := hrel
          by_cases hm0 : 0 < m
          · have hm01 : (0 : Int) < m := by omega
            have hdle : d ≤ n := hB.out.dle (fun h => hA'.out _ _ h) htn (fun e => by have := hm.out; rw [e] at this; simp at this; omega)
            have hda := dAt_eq ((hS.out.blkAt 2 rfl).cell 0 rfl)
            have hS5 := Lib.hid (by
              have h5 := hS.out.box [.slice none 0 0] 51
              exact h5)
            go_upto_region 15 with fail
            generalize wr.alloc (.cells #[.slice none 0 0] 51) = w5 at *
            generalize wr.heap.size = Bn at *
            have hS6 := Lib.hid (show Sep W0 w5 (Row 3 1 m (.slice a m c) (i64s (ints now)) :: SpL Bo g Bd Bn n O d 0 none 0 [] RR) from (hS5.out.nilRow 3 1).picks [5, 2, 2, 2, 1, 0])
            have hm2' := Lib.hid hm.out
            clear hS5
            go_wp2_with fail
            go_loopw [44] (fun s44 wr => ∃ (O : List Int) (next : List Nat) (m2 : Nat) (a2 : Option Addr) (c2 i : Nat), i ≤ m ∧ s44 = .int .i64 i ∧ Hid (BSt n A t O d now i next) ∧ Hid (next.length = m2) ∧ m2 ≤ n ∧
              Hid (Sep W0 wr (Row 3 1 m (.slice a m c) (i64s (ints now)) :: SpL Bo g Bd Bn n O d m2 a2 c2 next RR))) (fun s44 _ => m - (intOf s44).toNat)
            case atStart => exact ⟨O, [], 0, none, 0, 0, by omega, rfl, hB, Lib.hid rfl, by omega, hS6⟩
            case round =>
              clear hS6 hB
              obtain ⟨O, next, m2, a2, c2, i, him, rfl, hB, hm2, hm2n, hS⟩ := hrel
              by_cases hi : i < m
              · have hi1 : (i : Int) < m := by omega
                have hin : i < now.length := by rw [hm.out]; exact hi
                obtain ⟨v, hv⟩ : ∃ v, now[i] = v := ⟨_, rfl⟩
                have hvn : v < n := by rw [← hv]; exact hB.out.nowl _ (List.getElem_mem hin)
                obtain ⟨ga, rfl, hga, _, hcell⟩ := row_form (hS.out.rowAt 0 rfl) (by omega)
                have cv := hcell i (.int .i64 (v : Int)) (by
                  have : (ints now)[i]? = some (v : Int) := by unfold ints; rw [List.getElem?_map, List.getElem?_eq_getElem hin, hv]; rfl
                  exact i64s_got this)
                have cc := Lib.hid (show Calls Tryz.prog kf (#[.int .i64 (v : Int), .func (.func 189) #[] #[.pointer (some ⟨Bo, 0, none⟩), .pointer (some ⟨Bd, 0, none⟩), .pointer (some ⟨Bn, 0, none⟩)]] ++ caps) wr fun e w' => e = .returned (.tuple #[]) ∧
                    ∃ O' next' m' a1 c1, next'.length = m' ∧ m' ≤ n ∧ BSt n A t O' d now (i + 1) next' ∧ Sep W0 w' (Row 3 1 m (.slice (some ⟨ga, 0, none⟩) m c) (i64s (ints now)) :: SpL Bo g Bd Bn n O' d m' a1 c1 next' RR) by
                  have h1 := hon'.out t wr Bo g Bd Bn d m2 i v O now next a2 c2 [Row 3 1 m (.slice (some ⟨ga, 0, none⟩) m c) (i64s (ints now))] (by exact hS.out.rot) hB.out hm2.out hd1 hin hv hvn
                  refine h1.mono ?_
                  rintro e w' ⟨rfl, O', next', m', a1, c1, k1, k2, k3, k4⟩
                  refine ⟨rfl, O', next', m', a1, c1, k1, k2, k3, ?_⟩
                  exact k4.perm (List.perm_append_singleton (Row 3 1 m (.slice (some ⟨ga, 0, none⟩) m c) (i64s (ints now))) (SpL Bo g Bd Bn n O' d m' a1 c1 next' RR)))
                clear hcell hv hin hB hm2 hS
                go_wp2_with fail
                refine cc.out.mono ?_
                rintro e w6 ⟨rfl, O', next', m', a1, c1, k1, k2, k3, k4⟩
                have k1' := Lib.hid k1
                have k3' := Lib.hid k3
                have k4' := Lib.hid k4
                clear k1 k3 k4 cc cv hga
                try dsimp only
                go_wp2_with fail
                go_roundw
                case rel => exact ⟨O', next', m', a1, c1, i + 1, by omega, by go_num, k3', k1', k2, k4'⟩
                case measure => simp [intOf]; omega
              · have hii : i = now.length := by have := hm.out; omega
                have hB2 := hB.out
                rw [hii] at hB2
                have hB3 := Lib.hid (hB2.turn (fun h => hA'.out _ _ h) htn hd1)
                have cd := (hS.out.blkAt 3 rfl).cell 0 rfl
                have ld := (hS.out.blkAt 3 rfl).lt
                have cn := (hS.out.blkAt 4 rfl).cell 0 rfl
                have ln := (hS.out.blkAt 4 rfl).lt
                have hda2 := dAt_eq cd
                clear hB2 hii hB
                have hS7 := Lib.hid (show Sep W0 (wr.alloc (.cells #[.int .i64 ((d : Int) + 1)] 3)) (Blk Bo [.slice (some ⟨g, 0, none⟩) n n] 51 :: Row 3 1 n (.slice (some ⟨g, 0, none⟩) n n) (i64s O) :: Blk wr.heap.size [.int .i64 ((d + 1 : Nat) : Int)] 3 :: Row 3 1 m2 (.slice a2 m2 c2) (i64s (ints next)) :: RR) from
                  ((hS.out.box [.int .i64 ((d + 1 : Nat) : Int)] 3).picks [1, 3, 3]).tail.tail.tail.picks [1, 1, 0])
                have hda3 := dAt_eq ((hS7.out.blkAt 2 rfl).cell 0 rfl)
                clear hS
                go_wp2_with fail
                go_roundw
                case rel => exact ⟨O, d + 1, next, m2, a2, c2, wr.heap.size, rfl, rfl, hm2, hB3, by omega, by omega, hm2n, hS7⟩
                case measure => rw [hda3, hda]; omega
          · have hnow : now = [] := by
              have := hm.out
              exact List.eq_nil_of_length_eq_zero (by omega)
            have hlev := Lib.hid (show LevI n A (t : Int) O by
              have hB2 := hB.out
              rw [hnow] at hB2
              have h5 := hB2.over (fun h => hA'.out _ _ h) htn hd1
              unfold LevI
              rw [if_pos ⟨by omega, by omega⟩, Int.toNat_natCast]
              exact h5)
            have hlen := Lib.hid hB.out.len
            have c0 := (hS.out.blkAt 0 rfl).cell 0 rfl
            have l0 := (hS.out.blkAt 0 rfl).lt
            have hS7 := Lib.hid (hS.out.picks [0, 1, 1]).tail.tail.tail
            clear hS hB hnow hm
            go_wp2_with fail
            go_ret
            exact ⟨g, O, rfl, hlev.out, hlen.out, hS7.out⟩
      · have hlev := Lib.hid (show LevI n A t (List.replicate n (-1)) by unfold LevI; rw [if_neg ht])
        have c0 := (hS.out.blkAt 0 rfl).cell 0 rfl
        have l0 := (hS.out.blkAt 0 rfl).lt
        have hS7 := Lib.hid hS.out.tail
        clear hS
        by_cases h0 : t < 0
        · have t1 : decide (t < 0) = true := by simpa using h0
          go_wp2_with fail
          go_ret
          exact ⟨g, _, rfl, hlev.out, by simp, hS7.out⟩
        · have t1 : decide (t < 0) = false := by simpa using h0
          have t2 : decide ((n : Int) ≤ t) = true := by simp; omega
          go_wp2_with fail
          go_ret
          first | exact ⟨g, _, rfl, hlev.out, by simp, hS7.out⟩ | exact ⟨g, rfl, _, hlev.out, by simp, hS7.out⟩
end Edge
end Go.Proofs.YtjpfmkfikidgkaaGreat
