/- The whole flow: augment.Run. (Ahead of it: Flows way by way, as plain things: what goes along a way comes to its end; the steps are one. What is left of arcs: New. What is left of arcs: the contracts over several objects; the law's awake. The levels towards a vertex, and from one. The shortest way: the program's. What may go along arcs: the program's. Regions that draw their order and call yield: quiet operations first, stage by stage, as in XSched; a stage's last operation may begin a round of a loop over a function. An object that is made of others: opened and shut. Range over a function, several objects side by side: the iterator's objects and the caller's. The reference's flow: New, Left. The reference's flow: Excess. What stays anywhere, of any flow: the program's. One check behind the other; whether a number is among some. Whether a number is among some; whether all are 0. How much a flow carries: the program's. Sets of vertices, as bits of words: where a vertex stands, and whether it is in. Sets of vertices: one is put in; a set of some. Sets of vertices: an empty one, and one of some. side.crossing: goes over the edges with just one end in a set. Flows way by way: what goes along a way; the steps, one behind the other, as they come out of the iterator. The steps of a flow, one behind the other, as they come out of the iterator. Whether vertices may be a side: the program's way and the reference's. side.set, side.Weight. Vertices put together, as plain things: what a naming is; edges that are split and merged again; the naming of two vertices. Whether names are a naming. Edges that weigh too much are split. The graph of a naming. Two vertices put together. The reference: whether a number is in a list; namings; two vertices put together. augment.Check; the iterator of the steps.) -/
import Derived.Test.YtjpfmkfikidgkaaGreatWayLaw
import Derived.Test.YtjpfmkfikidgkaaGreatFckLaw
import Derived.Test.YtjpfmkfikidgkaaGreatURowAugmentTells
import Derived.Test.YtjpfmkfikidgkaaGreatSched
import Derived.OrdersIn
import Derived.Test.YtjpfmkfikidgkaaGreatSep
import Derived.RangeFuncSeq
import Derived.RangeFuncLeaves
import Derived.ControlIn
import Derived.Test.YtjpfmkfikidgkaaGreatCsr2
import Derived.Test.YtjpfmkfikidgkaaGreatRefN2
import Derived.Test.YtjpfmkfikidgkaaGreatSepAt
import Derived.Test.YtjpfmkfikidgkaaGreatSame45
import Derived.TacticsIn
import Derived.OwnWalkIn
import Derived.Test.YtjpfmkfikidgkaaGreatTotLaw
import Derived.Test.YtjpfmkfikidgkaaGreatStepApp
import Derived.Test.YtjpfmkfikidgkaaGreatKit3
import Derived.Laws.EntriesVeiled
import Derived.Test.YtjpfmkfikidgkaaGreatFork
import Derived.StillTailTactics
import Derived.Deep.Cut
import Derived.Test.YtjpfmkfikidgkaaGreatEdRow
set_option linter.unusedVariables false
set_option linter.unusedSimpArgs false
namespace Go.Proofs.YtjpfmkfikidgkaaGreat
open Go.RowKit
namespace Edge
/-- x goes along all arcs of a way. -/
def pushW (L : List Ed) (f : List Int) (P : List Nat) (x : Int) : List Int := P.foldl (fun (f : List Int) (i : Nat) => pushI L f (i : Int) x) f
theorem FB.pushW {L : List Ed} {f : List Int} (hF : FB L f) (P : List Nat) (x : Int) : FB L (pushW L f P x) := by
  induction P generalizing f with
  | nil => exact hF
  | cons i P ih => exact ih (hF.pushI _ _)
theorem pushI_may {L : List Ed} {f : List Int} {i : Nat} {x : Int} (h : i < 2 * L.length) (h0 : 0 ≤ x) (h1 : x ≤ leftE L f i) : pushI L f (i : Int) x = pushF f i x := by
  unfold pushI mayP
  rw [if_pos (by rw [decide_eq_true_eq]; exact ⟨⟨by omega, by omega⟩, h0, by rw [Int.toNat_natCast]; exact h1⟩), Int.toNat_natCast]
theorem exc_pushI_not {L : List Ed} {f : List Int} (hF : FB L f) {i : Nat} {x : Int} (h : i < 2 * L.length) {v : Int} (h1 : headE L i ≠ v) (h2 : tailE L i ≠ v) : exc L (pushI L f (i : Int) x) v = exc L f v := by
  unfold pushI
  split
  · rw [Int.toNat_natCast, exc_push hF.len h, if_neg h1, if_neg h2]; omega
  · rfl
theorem left_pushI_not {L : List Ed} {f : List Int} (hF : FB L f) {i j : Nat} {x : Int} (h : i < 2 * L.length) (h1 : j ≠ i) (h2 : j ≠ back i) : leftE L (pushI L f (i : Int) x) j = leftE L f j := by
  unfold pushI
  split
  · rw [Int.toNat_natCast, leftE_push hF.len h, if_neg h1, if_neg h2]
  · rfl
section
variable {n : Nat} {L : List Ed} {f : List Int} {D : List Int} {t : Nat}
theorem exc_isway (hG : GOk n L) (hD : LevTo n (Arc L f) t D) (ht : t < n) {x : Int} (h0 : 0 ≤ x) {k v : Nat} {l : List Nat} (hw : IsWay L f D k v l) : ∀ (g : List Int), FB L g → (∀ i, i < 2 * L.length → headE L i = (t : Int) → leftE L g i = leftE L f i) → v < n → D.getD v 0 = (k : Int) → 1 ≤ k → (∀ i ∈ l, x ≤ leftE L f i) →
    exc L (pushW L g l x) (t : Int) = exc L g (t : Int) + x := by
  induction hw with
  | nil v => intro g hF hg hv hk h1 hx; omega
  | @cons k v b h l hb hh hw ih =>
    intro g hF hg hv hk h1 hx
    have hbl := hb.1.1.1
    have hbt := hb.1.1.2
    have hbD := hb.1.2.2
    have hhn : h < n := by
      have := (head_in hG hbl).2
      omega
    rw [hh, Int.toNat_natCast, hk] at hbD
    have hDt : D.getD t 0 = 0 := (hD.2 t ht).one (IsD.self t)
    have htv : tailE L b ≠ (t : Int) := by
      rw [hbt]
      intro e
      have : v = t := by omega
      rw [this, hDt] at hk
      omega
    show exc L (pushW L (pushI L g (b : Int) x) l x) (t : Int) = _
    by_cases hk0 : k = 0
    · subst hk0
      cases hw
      have hht : h = t := by
        have h2 := hD.2 h hhn
        rw [show D.getD h 0 = 0 by omega] at h2
        exact h2.zero
      subst hht
      show exc L (pushI L g (b : Int) x) (h : Int) = _
      rw [pushI_may hbl h0 (by rw [hg b hbl hh]; exact hx b (by simp)), exc_push hF.len hbl, if_pos hh, if_neg htv]
      omega
    · have hht : h ≠ t := fun e => by
        rw [e, hDt] at hbD
        omega
      have hh2 : headE L b ≠ (t : Int) := by rw [hh]; omega
      rw [ih (pushI L g (b : Int) x) (hF.pushI _ _) (fun i hi hit => by
        rw [left_pushI_not hF hbl (fun e => hh2 (by rw [← e]; exact hit)) (fun e => htv (by
          unfold tailE
          rw [← e]; exact hit))]
        exact hg i hi hit) hhn (by omega) (by omega) (fun i hi => hx i (by simp [hi]))]
      rw [exc_pushI_not hF hbl hh2 htv]
theorem roomK_le {l : List Int} : ∀ k, k ≤ l.length → ∀ j, j < k → roomK L f l k ≤ leftI L f (l.getD j 0)
  | 0, _, j, hj => by omega
  | k + 1, hk, j, hj => by
    unfold roomK
    rcases Nat.lt_or_ge j k with h | h
    · have := roomK_le (l := l) k (by omega) j h
      split <;> omega
    · obtain rfl : j = k := by omega
      split
      · exact Int.le_refl _
      · omega
theorem roomL_le {l : List Nat} (h : ∀ i ∈ l, i < 2 * L.length) : ∀ i ∈ l, roomL L f (ints l) ≤ leftE L f i := by
  intro i hi
  obtain ⟨j, hj, he⟩ := List.getElem_of_mem hi
  unfold roomL
  rw [if_pos (fun y hy => by
    unfold ints at hy
    obtain ⟨z, hz, rfl⟩ := List.mem_map.1 hy
    have := h z hz
    omega)]
  have h1 := roomK_le (L := L) (f := f) (l := ints l) (ints l).length (Nat.le_refl _) j (by rw [ints_len]; exact hj)
  have h2 : (ints l).getD j 0 = (i : Int) := by
    unfold ints
    rw [List.getD_eq_getElem?_getD, List.getElem?_map, List.getElem?_eq_getElem hj, he]; rfl
  rw [h2] at h1
  unfold leftI at h1
  have h3 := h i hi
  rw [if_pos (by omega), Int.toNat_natCast] at h1
  exact h1
theorem roomL_nil : roomL L f (ints []) = 0 := by
  unfold roomL ints
  simp [roomK]
end
/-- A step: the way l, and what goes along it. -/
def IsStep (n : Nat) (L : List Ed) (s t : Int) (f : List Int) (l : List Nat) (x : Int) : Prop := (∃ D, LevI n (Arc L f) t D ∧ D.length = n ∧ WayP n L f D s l) ∧ l ≠ [] ∧ x = roomL L f (ints l)
def IsDone (n : Nat) (L : List Ed) (s t : Int) (f : List Int) : Prop := ∃ D, LevI n (Arc L f) t D ∧ D.length = n ∧ WayP n L f D s []
def flowW (L : List Ed) (f : List Int) (ws : List (List Nat × Int)) : List Int := ws.foldl (fun f p => pushW L f p.1 p.2) f
def PreW (n : Nat) (L : List Ed) (s t : Int) : List Int → List (List Nat × Int) → Prop
  | _, [] => True
  | f, (l, x) :: ws => IsStep n L s t f l x ∧ PreW n L s t (pushW L f l x) ws
def sumW (ws : List (List Nat × Int)) : Int := (ws.map fun p => p.2).sum
section
variable {n : Nat} {L : List Ed} {s t : Int} {f : List Int}
theorem FB.flowW (hF : FB L f) (ws : List (List Nat × Int)) : FB L (flowW L f ws) := by
  induction ws generalizing f with
  | nil => exact hF
  | cons p ws ih => exact ih (hF.pushW _ _)
theorem flowW_snoc (ws : List (List Nat × Int)) (l : List Nat) (x : Int) : flowW L f (ws ++ [(l, x)]) = pushW L (flowW L f ws) l x := by simp [flowW]
theorem sumW_snoc (ws : List (List Nat × Int)) (l : List Nat) (x : Int) : sumW (ws ++ [(l, x)]) = sumW ws + x := by simp [sumW]
theorem PreW.snoc {ws : List (List Nat × Int)} {l : List Nat} {x : Int} : PreW n L s t f ws → IsStep n L s t (flowW L f ws) l x → PreW n L s t f (ws ++ [(l, x)]) := by
  induction ws generalizing f with
  | nil => intro _ h; exact ⟨h, trivial⟩
  | cons p ws ih => intro h1 h2; exact ⟨h1.1, ih h1.2 h2⟩
theorem IsStep.one {l m : List Nat} {x y : Int} (h1 : IsStep n L s t f l x) (h2 : IsStep n L s t f m y) : l = m ∧ x = y := by
  obtain ⟨⟨D, hD, hDl, hw⟩, _, rfl⟩ := h1
  obtain ⟨⟨E, hE, hEl, hv⟩, _, rfl⟩ := h2
  have hDE : D = E := by
    unfold LevI at hD hE
    split at hD
    · rw [if_pos (by assumption)] at hE; exact hD.one hE
    · rw [if_neg (by assumption)] at hE; rw [hD, hE]
  subst hDE
  have := hw.one hv
  subst this
  exact ⟨rfl, rfl⟩
theorem IsStep.notDone {l : List Nat} {x : Int} (h1 : IsStep n L s t f l x) (h2 : IsDone n L s t f) : False := by
  obtain ⟨D, hD, hDl, hw⟩ := h2
  obtain ⟨⟨E, hE, hEl, hv⟩, hne, _⟩ := h1
  have hDE : D = E := by
    unfold LevI at hD hE
    split at hD
    · rw [if_pos (by assumption)] at hE; exact hD.one hE
    · rw [if_neg (by assumption)] at hE; rw [hD, hE]
  subst hDE
  exact hne (hv.one hw)
/-- Any steps are the first of all. -/
theorem PreW.pre {ws vs : List (List Nat × Int)} : PreW n L s t f ws → PreW n L s t f vs → IsDone n L s t (flowW L f vs) → ∃ rest, vs = ws ++ rest ∧ PreW n L s t (flowW L f ws) rest := by
  induction ws generalizing f vs with
  | nil => intro _ h2 _; exact ⟨vs, rfl, h2⟩
  | cons p ws ih =>
    intro h1 h2 h3
    obtain ⟨l, x⟩ := p
    cases vs with
    | nil => exact (h1.1.notDone h3).elim
    | cons q vs =>
      obtain ⟨m, y⟩ := q
      obtain ⟨rfl, rfl⟩ := h1.1.one h2.1
      obtain ⟨rest, rfl, hr⟩ := ih h1.2 h2.2 h3
      exact ⟨rest, rfl, hr⟩
theorem PreW.one {ws vs : List (List Nat × Int)} (h1 : PreW n L s t f ws) (h2 : PreW n L s t f vs) (d1 : IsDone n L s t (flowW L f ws)) (d2 : IsDone n L s t (flowW L f vs)) : ws = vs := by
  obtain ⟨rest, hr, hp⟩ := h1.pre h2 d2
  cases rest with
  | nil => rw [hr, List.append_nil]
  | cons p rest =>
    obtain ⟨l, x⟩ := p
    exact (hp.1.notDone d1).elim
theorem IsStep.arcs {l : List Nat} {x : Int} (h : IsStep n L s t f l x) : ∀ i ∈ l, i < 2 * L.length ∧ 0 < leftE L f i := by
  obtain ⟨⟨D, _, _, hw⟩, _, _⟩ := h
  exact hw.arcs
theorem IsStep.pos {l : List Nat} {x : Int} (h : IsStep n L s t f l x) : 0 < x := by
  have h1 := h.arcs
  obtain ⟨_, hne, rfl⟩ := h
  exact roomL_pos h1 (by cases l with | nil => exact absurd rfl hne | cons _ _ => simp)
theorem IsStep.exc (hG : GOk n L) (hF : FB L f) {l : List Nat} {x : Int} (h : IsStep n L s t f l x) : exc L (pushW L f l x) t = Edge.exc L f t + x := by
  have h1 := h.arcs
  have h0 := h.pos
  obtain ⟨⟨D, hD, hDl, hw⟩, hne, hx⟩ := h
  unfold WayP at hw
  split at hw
  · rename_i hs
    have ht : 0 ≤ t ∧ t < n := by
      refine Classical.byContradiction fun hc => ?_
      unfold LevI at hD
      rw [if_neg hc] at hD
      have := hs.2.2
      rw [hD, List.getD_eq_getElem?_getD, List.getElem?_replicate, if_pos (by omega)] at this
      exact absurd this (by decide)
    obtain ⟨t, rfl⟩ := Int.eq_ofNat_of_zero_le ht.1
    have htn : t < n := by omega
    unfold LevI at hD
    rw [if_pos ht, Int.toNat_natCast] at hD
    refine exc_isway hG hD htn (by omega) hw f hF (fun i _ _ => rfl) (by omega) (by omega) (by omega) (fun i hi => ?_)
    rw [hx]
    exact roomL_le (fun j hj => (h1 j hj).1) i hi
  · exact absurd hw hne
theorem PreW.exc (hG : GOk n L) (hF : FB L f) {ws : List (List Nat × Int)} : PreW n L s t f ws → Edge.exc L (flowW L f ws) t = Edge.exc L f t + sumW ws ∧ (ws.length : Int) ≤ sumW ws := by
  induction ws generalizing f with
  | nil => intro _; simp [flowW, sumW]
  | cons p ws ih =>
    obtain ⟨l, x⟩ := p
    intro h
    obtain ⟨h1, h2⟩ := ih (hF.pushW l x) h.2
    have h3 := h.1.exc hG hF
    have h4 := h.1.pos
    have h5 : sumW ((l, x) :: ws) = x + sumW ws := by simp [sumW]
    rw [h5, List.length_cons]
    refine ⟨?_, by omega⟩
    show Edge.exc L (flowW L (pushW L f l x) ws) t = _
    rw [h1, h3]
    omega
theorem exc_noF {L : List Ed} (v : Int) : Edge.exc L (List.replicate L.length 0) v = 0 := by
  induction L with
  | nil => rfl
  | cons e l ih =>
    rw [List.length_cons, List.replicate_succ]
    simp only [Edge.exc, ih]
    split <;> split <;> rfl
end
end Edge
end Go.Proofs.YtjpfmkfikidgkaaGreat

set_option linter.unusedVariables false
set_option linter.unusedSimpArgs false
namespace Go.Proofs.YtjpfmkfikidgkaaGreat
open Go.RowKit
namespace Edge
theorem sep_wrap2 {goalP : World → Prop} {W0 V Wx : World} {L : List Part} (h : Sep W0 Wx L) (m : Mod [] V Wx) (hp : ∀ Wg, Sep W0 Wg L → Mod [] V Wg → goalP Wg) : goalP Wx := hp Wx h m
set_option maxRecDepth 100000 in
set_option maxHeartbeats 8000000 in
theorem rnew_res {w0 w : World} {q : Option Addr} {n : Nat} {L : List Ed} {R : List Part} (hG : GOk n L)
    (hC : Calls Tryz.prog 104 #[.pointer q] w fun e w' => ∃ ba, e = .returned (.pointer (some ⟨ba, 0, none⟩)) ∧ Sep w0 w' (ArcP ba n L :: R)) :
    Calls Tryz.prog 16 #[.pointer q] w fun e w' => ∃ r ba, e = .returned (.pointer (some ⟨r, 0, none⟩)) ∧ Sep w0 w' (RestP r ba n L (noF L) :: ArcP ba n L :: R) := by
  have hn4 := hG.le
  have hl := hG.len
  have hG' := Lib.hid hG
  obtain ⟨m, hm⟩ : ∃ m, 2 * L.length = m := ⟨_, rfl⟩
  have hml : m ≤ 2097152 := by omega
  have hm' := Lib.hid hm
  have hC' := Lib.hid hC
  clear hC hG hm
  go_enter Tryz.func16, Tryz.ntmps16
  go_wp2_with fail
  refine hC'.out.mono ?_
  rintro e w1 ⟨ba, rfl, hS⟩
  have cl := Lib.hid (fun W (h : Mod [] w1 W) => alen_sep (hS.still h))
  rw [hm'.out] at cl
  have cn := Lib.hid (fun W (h : Mod [] w1 W) => an_sep (hS.still h) hG'.out)
  have hS1 := Lib.hid (hS.still (Mod.refl [] _).drew)
  clear hS hC'
  try dsimp only
  go_upto_region 2 with fail
  have hmkL := make_run (P := Tryz.prog) 33 2 (.int .i64 0) 8 Tryz.underlying33 infoI64b rfl (by omega) m (by omega)
  have hmkN := make_run (P := Tryz.prog) 33 2 (.int .i64 0) 8 Tryz.underlying33 infoI64b rfl (by omega) n (by omega)
  refine region_head (G := Mod []) [0, 1, 4] #[true, true, false, false, true, false, false, false, false, false] 7 (by kernel_rfl) (by kernel_rfl) (by kernel_rfl) rfl (Mod.refl []) ?_
  simp only [pickO, nthO, List.cons_append, List.nil_append]
  repeat (go_big_quiet_step (fail))
  refine wpQuiet_nil ?_
  refine tail_one 2 (by kernel_rfl) rfl ?_
  intro K hK
  rw [if_pos (by rfl)]
  go_simp
  refine (cl.out _ (Mod.refl [] _).drew).mono ?_
  rintro e w2 ⟨rfl, hw2⟩
  subst w2
  try dsimp only
  refine hK.out _ _ (Mod.refl _ _) ?_
  clear hK K
  have hA := Lib.hid (((hS1.out.made (made_made w1.drew 2 (.int .i64 0) m (by omega))).made (made_made _ 2 (.int .i64 0) n (by omega))).box [.pointer (some ⟨ba, 0, none⟩), .slice (some ⟨w1.heap.size, 0, none⟩) m m, .slice (some ⟨w1.heap.size + 1, 0, none⟩) n n] 174)
  have hB := Lib.hid (((hS1.out.made (made_made w1.drew 2 (.int .i64 0) n (by omega))).made (made_made _ 2 (.int .i64 0) m (by omega))).box [.pointer (some ⟨ba, 0, none⟩), .slice (some ⟨w1.heap.size + 1, 0, none⟩) m m, .slice (some ⟨w1.heap.size, 0, none⟩) n n] 174)
  rw [World.size_alloc, World.size_alloc, show w1.drew.heap.size = w1.heap.size from rfl] at hA
  rw [World.size_alloc, World.size_alloc, show w1.drew.heap.size = w1.heap.size from rfl] at hB
  refine tail_two 3 5 (by kernel_rfl) rfl rfl ?_ ?_
  case' refine_1 =>
    intro K hK
    rw [if_pos (by rfl)]
    go_simp
    refine hK.out _ _ ((Mod.refl _ _).alloc _) ?_
    clear hK K
    refine tail_one 5 (by kernel_rfl) rfl ?_
    intro K hK
    rw [if_pos (by rfl)]
    go_simp
    refine (cn.out _ ((Mod.refl [] w1).drew.alloc _)).mono ?_
    rintro e w2 ⟨rfl, hw2⟩
    subst w2
    try dsimp only
    refine hK.out _ _ ((Mod.refl _ _).alloc _) ?_
    clear hK K
    refine tail_one 6 (by kernel_rfl) rfl ?_
    intro K hK
    rw [if_pos (by rfl)]
    go_simp
    refine hK.out _ _ (((Mod.refl _ _).alloc _).alloc _) ?_
    clear hK K
    refine tail_one 7 (by kernel_rfl) rfl ?_
    intro K hK
    rw [if_pos (by rfl)]
    go_simp
    refine hK.out _ _ (((Mod.refl _ _).alloc _).alloc _) ?_
    clear hK K
    refine tail_one 8 (by kernel_rfl) rfl ?_
    intro K hK
    rw [if_pos (by rfl)]
    go_simp
    refine hK.out _ _ ((((Mod.refl _ _).alloc _).alloc _).alloc _) ?_
    clear hK K hmkL hmkN cl cn hB hS1
    refine sep_wrap2 (goalP := fun W => wpAnyH _ _ _ _ _ _ _ _ W) (V := w1.drew) hA.out ((((Mod.refl _ _).alloc _).alloc _).alloc _) ?_
    intro Wg hSg hmg
    clear hA
    have hSg2 := Lib.hid (show Sep w0 Wg (Blk (w1.heap.size + 1 + 1) [.pointer (some ⟨ba, 0, none⟩), .slice (some ⟨w1.heap.size, 0, none⟩) m m, .slice (some ⟨w1.heap.size + 1, 0, none⟩) n n] 174 :: Row 2 1 m (.slice (some ⟨w1.heap.size, 0, none⟩) m m) (List.replicate m (.int .i64 0)) :: Row 2 1 n (.slice (some ⟨w1.heap.size + 1, 0, none⟩) n n) (List.replicate n (.int .i64 0)) :: ArcP ba n L :: R) from hSg.perm (List.Perm.cons _ (List.Perm.swap _ _ _)))
    clear hSg
    generalize w1.heap.size + 1 + 1 = r at *
    generalize w1.heap.size + 1 = go at *
    generalize w1.heap.size = gl at *
  case' refine_2 =>
    intro K hK
    rw [if_pos (by rfl)]
    go_simp
    refine (cn.out _ (Mod.refl [] w1).drew).mono ?_
    rintro e w2 ⟨rfl, hw2⟩
    subst w2
    try dsimp only
    refine hK.out _ _ (Mod.refl _ _) ?_
    clear hK K
    refine tail_two 3 6 (by kernel_rfl) rfl rfl ?_ ?_
  case' refine_2.refine_1 =>
    intro K hK
    rw [if_pos (by rfl)]
    go_simp
    refine hK.out _ _ ((Mod.refl _ _).alloc _) ?_
    clear hK K
    refine tail_one 6 (by kernel_rfl) rfl ?_
    intro K hK
    rw [if_pos (by rfl)]
    go_simp
    refine hK.out _ _ (((Mod.refl _ _).alloc _).alloc _) ?_
    clear hK K
    refine tail_one 7 (by kernel_rfl) rfl ?_
    intro K hK
    rw [if_pos (by rfl)]
    go_simp
    refine hK.out _ _ (((Mod.refl _ _).alloc _).alloc _) ?_
    clear hK K
    refine tail_one 8 (by kernel_rfl) rfl ?_
    intro K hK
    rw [if_pos (by rfl)]
    go_simp
    refine hK.out _ _ ((((Mod.refl _ _).alloc _).alloc _).alloc _) ?_
    clear hK K hmkL hmkN cl cn hB hS1
    refine sep_wrap2 (goalP := fun W => wpAnyH _ _ _ _ _ _ _ _ W) (V := w1.drew) hA.out ((((Mod.refl _ _).alloc _).alloc _).alloc _) ?_
    intro Wg hSg hmg
    clear hA
    have hSg2 := Lib.hid (show Sep w0 Wg (Blk (w1.heap.size + 1 + 1) [.pointer (some ⟨ba, 0, none⟩), .slice (some ⟨w1.heap.size, 0, none⟩) m m, .slice (some ⟨w1.heap.size + 1, 0, none⟩) n n] 174 :: Row 2 1 m (.slice (some ⟨w1.heap.size, 0, none⟩) m m) (List.replicate m (.int .i64 0)) :: Row 2 1 n (.slice (some ⟨w1.heap.size + 1, 0, none⟩) n n) (List.replicate n (.int .i64 0)) :: ArcP ba n L :: R) from hSg.perm (List.Perm.cons _ (List.Perm.swap _ _ _)))
    clear hSg
    generalize w1.heap.size + 1 + 1 = r at *
    generalize w1.heap.size + 1 = go at *
    generalize w1.heap.size = gl at *
  case' refine_2.refine_2 =>
    intro K hK
    rw [if_pos (by rfl)]
    go_simp
    refine hK.out _ _ ((Mod.refl _ _).alloc _) ?_
    clear hK K
    refine tail_one 3 (by kernel_rfl) rfl ?_
    intro K hK
    rw [if_pos (by rfl)]
    go_simp
    refine hK.out _ _ (((Mod.refl _ _).alloc _).alloc _) ?_
    clear hK K
    refine tail_one 7 (by kernel_rfl) rfl ?_
    intro K hK
    rw [if_pos (by rfl)]
    go_simp
    refine hK.out _ _ (((Mod.refl _ _).alloc _).alloc _) ?_
    clear hK K
    refine tail_one 8 (by kernel_rfl) rfl ?_
    intro K hK
    rw [if_pos (by rfl)]
    go_simp
    refine hK.out _ _ ((((Mod.refl _ _).alloc _).alloc _).alloc _) ?_
    clear hK K hmkL hmkN cl cn hA hS1
    refine sep_wrap2 (goalP := fun W => wpAnyH _ _ _ _ _ _ _ _ W) (V := w1.drew) hB.out ((((Mod.refl _ _).alloc _).alloc _).alloc _) ?_
    intro Wg hSg hmg
    clear hB
    have hSg2 := Lib.hid hSg
    clear hSg
    generalize w1.heap.size + 1 + 1 = r at *
    generalize w1.heap.size + 1 = gl at *
    generalize w1.heap.size = go at *
  all_goals
    have hS3 := Lib.hid (show Sep w0 Wg (Blk r [.pointer (some ⟨ba, 0, none⟩), .slice (some ⟨gl, 0, none⟩) m m, .slice (some ⟨go, 0, none⟩) n n] 174 :: Row 2 1 m (.slice (some ⟨gl, 0, none⟩) m m) (i64s (capL L 0)) :: Row 2 1 n (.slice (some ⟨go, 0, none⟩) n n) (i64s (overL n L (noF L))) :: ArcP ba n L :: R) by
      rw [capL_zero, overL_new, hm'.out]
      have e : ∀ m : Nat, i64s (List.replicate m 0) = List.replicate m (.int .i64 0) := fun m => by simp [i64s]
      rw [e, e]
      exact hSg2.out)
    clear hSg2
    refine tail_one 9 (by kernel_rfl) rfl ?_
    intro K hK
    rw [if_pos (by rfl)]
    go_simp
    refine hK.out _ _ hmg ?_
    clear hK K hmg
    refine tail_done (by kernel_rfl) ?_
    have r1 := (hS3.out.blkAt 0 rfl).cell 1 rfl
    have rl := (hS3.out.blkAt 0 rfl).lt
    go_wp2_with fail
    clear r1 rl
    go_loopw [22] (fun i wr => ∃ k : Nat, k ≤ m ∧ i = .int .i64 k ∧ Hid (Sep w0 wr (Blk r [.pointer (some ⟨ba, 0, none⟩), .slice (some ⟨gl, 0, none⟩) m m, .slice (some ⟨go, 0, none⟩) n n] 174 :: Row 2 1 m (.slice (some ⟨gl, 0, none⟩) m m) (i64s (capL L k)) :: Row 2 1 n (.slice (some ⟨go, 0, none⟩) n n) (i64s (overL n L (noF L))) :: ArcP ba n L :: R))) (fun i _ => m - (intOf i).toNat)
    case atStart => exact ⟨0, Nat.zero_le _, rfl, hS3⟩
    case round =>
      clear hS3
      obtain ⟨k, hk, rfl, hS⟩ := hrel
      by_cases hlt : k < m
      · have hlt1 : (k : Int) < m := by omega
        have r1 := (hS.out.blkAt 0 rfl).cell 1 rfl
        have rl := (hS.out.blkAt 0 rfl).lt
        have cc := Lib.hid (acap_sep ((hS.out.still (Mod.refl [] wr).drew).pick 3 (by simp)) hG'.out (k : Int))
        rw [show capI L (k : Int) = capE L k by unfold capI; rw [if_neg (by omega), Int.toNat_natCast]] at cc
        have hcs := Lib.hid (capL_step (L := L) (k := k) (by rw [hm'.out]; exact hlt))
        obtain ⟨ou, ogc⟩ : ∃ u, wr.drew.cell? ⟨gl, k, none⟩ = some u := by
          have h1 := (hS.out.rowAt 1 rfl).cellAt k (by omega)
          have h2 := (hS.out.rowAt 1 rfl).1
          rw [List.getElem?_eq_getElem (by omega)] at h1
          exact ⟨_, h1⟩
        have ogz : wr.drew.frozen? ⟨gl, k, none⟩ = false := (hS.out.rowAt 1 rfl).frozenAt k
        have ogl : gl < wr.drew.heap.size := own_lt (hS.out.rowAt 1 rfl) (g := gl) rfl
        generalize capE L k = z at *
        have hS5 := Lib.hid ((hS.out.rowsetAt 1 rfl k (.int .i64 z)).still (Mod.refl [] _).drew)
        rw [i64s_set, hcs.out] at hS5
        have k1 := KC.one (w := wr.drew) (L := [(⟨r, 1, none⟩, .slice (some ⟨gl, 0, none⟩) m m)]) r1 (by simp)
        clear hS r1 hcs
        go_upto_region 6 with fail
        refine region_sched (G := KC [(⟨r, 1, none⟩, .slice (some ⟨gl, 0, none⟩) m m)]) [([0,1,2,3,4,5,6],7), ([8],9)] [] (by kernel_rfl) (by kernel_rfl) (by kernel_rfl) rfl (KC.refl _) (KC.trans _) ?_
        simp only [stages, pickO, nthO, headO, List.append_eq, List.cons_append, List.nil_append]
        refine sched_step ?_
        repeat (go_big_quiet_step (fail))
        refine wpQuiet_nil ?_
        intro K hK
        rw [if_pos (by rfl)]
        go_simp
        refine cc.out.mono ?_
        rintro e w5 ⟨rfl, hw5⟩
        subst w5
        try dsimp only
        refine hK.out _ _ (KC.refl _ _) ?_
        clear hK K k1 cc
        refine sched_step ?_
        repeat (go_big_quiet_step (fail))
        refine wpQuiet_nil ?_
        intro K hK
        rw [if_pos (by rfl)]
        go_simp
        refine hK.out _ _ (fun p hp _ => by
          simp only [List.mem_cons, List.mem_nil_iff, or_false] at hp
          subst hp
          exact (hS5.out.blkAt 0 rfl).cell 1 rfl) ?_
        clear hK K ogc ogz ogl rl
        refine sched_last ?_
        refine wpQuiet_nil ?_
        go_wp2_with fail
        go_roundw
        case rel => exact ⟨k + 1, by omega, by go_num, hS5⟩
        case measure => simp [intOf]; omega
      · have hkm : k = m := by omega
        have hfin : Hid (Sep w0 wr (RestP r ba n L (noF L) :: ArcP ba n L :: R)) := Lib.hid (by
          refine Sep.mkRest (gl := gl) (go := go) ?_
          have h5 := hS.out
          rw [hkm, ← hm'.out, capL_all] at h5
          exact h5)
        clear hS hk hkm
        go_wp2_with fail
        go_ret
        exact ⟨r, ba, rfl, hfin.out⟩
end Edge
end Go.Proofs.YtjpfmkfikidgkaaGreat

set_option linter.unusedVariables false
set_option linter.unusedSimpArgs false
namespace Go.Proofs.YtjpfmkfikidgkaaGreat
open Go.RowKit
namespace Edge
section
variable {w0 w : World} {r ba n : Nat} {L : List Ed} {f : List Int} {R : List Part}
theorem rarcs_sep (h : Sep w0 w (RestP r ba n L f :: ArcP ba n L :: R)) : Calls Tryz.prog 23 #[.pointer (some ⟨r, 0, none⟩)] w fun e w' => e = .returned (.pointer (some ⟨ba, 0, none⟩)) ∧ w' = w := by
  obtain ⟨F, h1, _⟩ := h.first
  exact rarcs_p h1
theorem rleft_sep (h : Sep w0 w (RestP r ba n L f :: ArcP ba n L :: R)) (hG : GOk n L) (i : Int) : Calls Tryz.prog 40 #[.pointer (some ⟨r, 0, none⟩), .int .i64 i] w fun e w' => e = .returned (.int .i64 (leftI L f i)) ∧ w' = w := by
  obtain ⟨F, h1, _⟩ := h.first
  obtain ⟨F2, h2, _⟩ := h.tail.first
  exact rleft_p h1 h2 hG i
theorem rexc_sep (h : Sep w0 w (RestP r ba n L f :: ArcP ba n L :: R)) (hG : GOk n L) (v : Int) : Calls Tryz.prog 74 #[.pointer (some ⟨r, 0, none⟩), .int .i64 v] w fun e w' => e = .returned (.int .i64 (exc L f v)) ∧ w' = w := by
  obtain ⟨F, h1, _⟩ := h.first
  obtain ⟨F2, h2, _⟩ := h.tail.first
  exact rexc_p h1 h2 hG v
theorem rflow_sep (h : Sep w0 w (RestP r ba n L f :: ArcP ba n L :: R)) (hG : GOk n L) (hF : FB L f) (i : Int) : Calls Tryz.prog 99 #[.pointer (some ⟨r, 0, none⟩), .int .i64 i] w fun e w' => e = .returned (.int .i64 (flowI L f i)) ∧ Mod [] w w' := by
  obtain ⟨F, h1, _⟩ := h.first
  obtain ⟨F2, h2, _⟩ := h.tail.first
  exact rflow_p h1 h2 hG hF i
theorem rflows_sep (h : Sep w0 w (RestP r ba n L f :: ArcP ba n L :: R)) (hG : GOk n L) (hF : FB L f) : Calls Tryz.prog 80 #[.pointer (some ⟨r, 0, none⟩)] w fun e w' => ∃ a c, e = .returned (.slice a f.length c) ∧ Made w w' 2 1 a f.length c (i64s f) := by
  obtain ⟨F, h1, _⟩ := h.first
  obtain ⟨F2, h2, _⟩ := h.tail.first
  exact rflows_p h1 h2 hG hF
theorem rreach_none (h : Sep w0 w (RestP r ba 0 L f :: ArcP ba 0 L :: R)) (hG : GOk 0 L) : Calls Tryz.prog 110 #[.pointer (some ⟨r, 0, none⟩), .int .i64 0] w fun e w' => e = .returned (.slice none 0 0) ∧ w' = w := by
  have ca := Lib.hid (rarcs_sep h)
  have cn := an_sep h.tail hG
  simp only [Int.natCast_zero, Int.ofNat_zero, Int.cast_ofNat_Int] at cn
  have cn' := Lib.hid cn
  clear h hG cn
  go_enter Tryz.func110, Tryz.ntmps110
  go_wp2_with (first
    | (go_at_call 23; refine ca.out.mono ?_; rintro e w1 ⟨rfl, hw1⟩; subst w1)
    | (go_at_call 105; refine cn'.out.mono ?_; rintro e w1 ⟨rfl, hw1⟩; subst w1))
  go_ret
  exact ⟨rfl, rfl⟩
end
theorem fb_new {n : Nat} {L : List Ed} (hG : GOk n L) : FB L (noF L) := FB.none hG.pos
theorem merged23 : merged [(0, 1, 7)] = [(0, 1, 7)] := by decide +kernel
set_option maxRecDepth 100000 in
set_option maxHeartbeats 4000000 in
theorem awake23 (w : World) : Calls Tryz.prog 14 #[] w fun e w' => e = .returned (.bool true) ∧ Mod [] w w' := by
  go_enter Tryz.func14, Tryz.ntmps14
  go_wp2_with fail
  refine (new_net 2 (l := [(0, 1, 7)]) (rd_ed (l := [(0, 1, 7)]) (Has.new w [.int .i64 0, .int .i64 1, .int .i64 7] 146) (by simp))).mono ?_
  rintro e w1 hN
  rcases hN.out with ⟨hne, _⟩ | ⟨he, b, rfl, hS⟩
  · exact absurd (by decide +kernel) hne
  have hG := new_ok he
  rw [merged23] at hS hG
  have e3 : ((2 : Int).toNat) = 2 := rfl
  rw [e3] at hS hG
  have hnw := Lib.hid (rnew_res hG (csr_net hS hG))
  clear hN he hS
  try dsimp only
  go_wp2_with fail
  refine hnw.out.mono ?_
  rintro e w2 ⟨r, ba, rfl, hA⟩
  have hF := fb_new hG
  have c1 := Lib.hid (rpush_sep hA hG hF 0 5)
  rw [show mayP [(0, 1, 7)] (noF [(0, 1, 7)]) 0 5 = true by decide +kernel, show pushI [(0, 1, 7)] (noF [(0, 1, 7)]) 0 5 = [5] by decide +kernel] at c1
  clear hnw hA
  try dsimp only
  go_wp2_with fail
  refine c1.out.mono ?_
  rintro e w3 ⟨rfl, hA⟩
  have hF5 : FB [(0, 1, 7)] [5] := ⟨by decide, trivial⟩
  have c2 := Lib.hid (rpush_sep hA hG hF5 0 3)
  rw [show mayP [(0, 1, 7)] [5] 0 3 = false by decide +kernel, show pushI [(0, 1, 7)] [5] 0 3 = [5] by decide +kernel] at c2
  clear c1 hA
  try dsimp only
  go_wp2_with fail
  refine c2.out.mono ?_
  rintro e w4 ⟨rfl, hA⟩
  have hw4 := Lib.hid (show Mod [] w w4 from ((Mod.refl [] w).alloc _).trans hA.mod (by simp))
  have c3 := Lib.hid (rleft_sep hA hG 0)
  have c4 := Lib.hid (rleft_sep hA hG 1)
  have c5 := Lib.hid (rflow_sep hA hG hF5 0)
  have c6 := Lib.hid (fun W (m : Mod [] w4 W) => rexc_sep (hA.still m) hG 1)
  rw [show leftI [(0, 1, 7)] [5] 0 = 2 by decide +kernel] at c3
  rw [show leftI [(0, 1, 7)] [5] 1 = 12 by decide +kernel] at c4
  rw [show flowI [(0, 1, 7)] [5] 0 = 5 by decide +kernel] at c5
  simp only [show exc [(0, 1, 7)] [5] 1 = 5 by decide +kernel] at c6
  clear c2 hA hF hG hF5
  try dsimp only
  go_wp2_with fail
  refine c3.out.mono ?_
  rintro e w5 ⟨rfl, hw5⟩
  subst w5
  try dsimp only
  go_wp2_with fail
  refine c4.out.mono ?_
  rintro e w5 ⟨rfl, hw5⟩
  subst w5
  try dsimp only
  go_wp2_with fail
  refine c5.out.mono ?_
  rintro e w5 ⟨rfl, hm5⟩
  have c7 := Lib.hid (c6.out _ hm5)
  have hm5' := Lib.hid hm5
  clear hm5
  try dsimp only
  go_wp2_with fail
  refine c7.out.mono ?_
  rintro e w6 ⟨rfl, hw6⟩
  subst w6
  try dsimp only
  go_wp2_with fail
  go_ret
  exact ⟨rfl, hw4.out.trans hm5'.out (by simp)⟩
end Edge
end Go.Proofs.YtjpfmkfikidgkaaGreat

set_option linter.unusedVariables false
set_option linter.unusedSimpArgs false
namespace Go.Proofs.YtjpfmkfikidgkaaGreat
open Go.RowKit
namespace Edge
set_option maxRecDepth 100000 in
set_option maxHeartbeats 8000000 in
theorem from1_bst {W0 w : World} {Bo g Bd Bn Ba Br r ba n d m t i v : Nat} {L : List Ed} {f O : List Int} {now next : List Nat} {a : Option Addr} {c : Nat} {R : List Part}
    (hS : Sep W0 w (SpL Bo g Bd Bn n O d m a c next (Blk Ba [.pointer (some ⟨ba, 0, none⟩)] 47 :: Blk Br [.pointer (some ⟨r, 0, none⟩)] 29 :: RestP r ba n L f :: ArcP ba n L :: R)))
    (hG : GOk n L) (hB : BSt n (fun u x => Arc L f x u) t O d now i next) (hm : next.length = m) (hd : 1 ≤ d) (hi : i < now.length) (hv : now[i] = v) (hvn : v < n) :
    Calls Tryz.prog 188 #[.int .i64 (v : Int), .func (.func 189) #[] #[.pointer (some ⟨Bo, 0, none⟩), .pointer (some ⟨Bd, 0, none⟩), .pointer (some ⟨Bn, 0, none⟩)], .pointer (some ⟨Ba, 0, none⟩), .pointer (some ⟨Br, 0, none⟩)] w fun e w' => e = .returned (.tuple #[]) ∧
      ∃ O' next' m' a1 c1, next'.length = m' ∧ m' ≤ n ∧ BSt n (fun u x => Arc L f x u) t O' d now (i + 1) next' ∧ Sep W0 w' (SpL Bo g Bd Bn n O' d m' a1 c1 next' (Blk Ba [.pointer (some ⟨ba, 0, none⟩)] 47 :: Blk Br [.pointer (some ⟨r, 0, none⟩)] 29 :: RestP r ba n L f :: ArcP ba n L :: R)) := by
  have hm1 : m ≤ n := by rw [← hm]; exact nodup_le n next hB.nd hB.nextl
  have hn4 := hG.le
  have ca := (hS.blkAt 5 rfl).cell 0 rfl
  have la := (hS.blkAt 5 rfl).lt
  obtain ⟨FA, hA⟩ := hS.partAt 8 rfl
  have cc := Lib.hid (show Calls Tryz.prog 75 #[.pointer (some ⟨ba, 0, none⟩), .int .i64 (v : Int)] w fun e w' => ∃ a c, e = .returned (.slice a (ofS n L v).length c) ∧ Made w w' 3 1 a (ofS n L v).length c (i64s (ints (ofS n L v))) by
    have h1 := aout_p hA hG (v : Int)
    have e : outI n L (v : Int) = ints (ofS n L v) := by unfold outI; rw [if_pos (by omega), Int.toNat_natCast]
    rw [e, ints_len] at h1
    exact h1)
  obtain ⟨K, hK⟩ : ∃ K, (ofS n L v).length = K := ⟨_, rfl⟩
  rw [hK] at cc
  have hK' := Lib.hid hK
  have hKb : K ≤ 2097152 := by
    have h5 := ofU_le L (2 * L.length) v
    have h6 := ofS_len hG v
    have h7 := hG.len
    unfold cntE at h6
    omega
  have hS' := Lib.hid hS
  have hB' := Lib.hid hB
  have hm' := Lib.hid hm
  have hG' := Lib.hid hG
  have hv' := Lib.hid hv
  have hlen : L.length ≤ 1048576 := hG.len
  clear hS hB hm hG hK hA hv
  go_enter Tryz.func188, Tryz.ntmps188
  go_wp2_with fail
  refine cc.out.mono ?_
  rintro e w2 ⟨a2, c2, rfl, hmd⟩
  have hS2 := Lib.hid (hS'.out.made hmd)
  clear hmd hS' cc ca la
  try dsimp only
  go_wp2_with fail
  go_loopw [12] (fun s12 wr => ∃ (O : List Int) (next : List Nat) (m j : Nat) (a : Option Addr) (c : Nat), Hid (BSt n (fun u x => Arc L f x u) t O d now i next) ∧ Hid (next.length = m) ∧ m ≤ n ∧ Hid (∀ x ∈ (ofS n L v).take j, 0 < leftE L f x → ∀ u : Nat, headE L x = (u : Int) → O.getD u 0 ≠ -1) ∧ j ≤ K ∧ s12 = .int .i64 j ∧
    Hid (Sep W0 wr (Row 3 1 K (.slice a2 K c2) (i64s (ints (ofS n L v))) :: SpL Bo g Bd Bn n O d m a c next (Blk Ba [.pointer (some ⟨ba, 0, none⟩)] 47 :: Blk Br [.pointer (some ⟨r, 0, none⟩)] 29 :: RestP r ba n L f :: ArcP ba n L :: R)))) (fun s12 _ => K - (intOf s12).toNat)
  case atStart => exact ⟨O, next, m, 0, a, c, hB', hm', hm1, Lib.hid (by simp), by omega, rfl, hS2⟩
  case round =>
    clear hS2 hB' hm' hm1
    obtain ⟨O, next, m, j, a, c, hB, hm, hm1, hdn, hjK, rfl, hS⟩ := hrel
    by_cases hlj : j < K
    · have hlj1 : (j : Int) < K := by omega
      obtain ⟨x, hx⟩ : ∃ x, (ofS n L v)[j]? = some x := ⟨_, List.getElem?_eq_getElem (by rw [hK'.out]; exact hlj)⟩
      have hxm := (mem_ofS hG'.out (v := v)).1 (List.mem_of_getElem? hx)
      obtain ⟨hd1, hhd⟩ := Int.eq_ofNat_of_zero_le (head_in hG'.out hxm.1).1
      obtain ⟨ga, rfl, hga, _, hcell⟩ := row_form (hS.out.rowAt 0 rfl) (by omega)
      have cX := hcell j (.int .i64 (x : Int)) (by
        have : (ints (ofS n L v))[j]? = some (x : Int) := by unfold ints; rw [List.getElem?_map, hx]; rfl
        exact i64s_got this)
      have ca := (hS.out.blkAt 6 rfl).cell 0 rfl
      have la := (hS.out.blkAt 6 rfl).lt
      have cr := (hS.out.blkAt 7 rfl).cell 0 rfl
      have lr := (hS.out.blkAt 7 rfl).lt
      have chd := Lib.hid (show Calls Tryz.prog 39 #[.pointer (some ⟨ba, 0, none⟩), .int .i64 (x : Int)] wr fun e w' => e = .returned (.int .i64 (hd1 : Int)) ∧ w' = wr by
        obtain ⟨FA, hA⟩ := hS.out.partAt 9 rfl
        have h1 := ahead_p hA hG'.out (x : Int)
        have e : headI L (x : Int) = headE L x := by unfold headI; rw [if_neg (by omega), Int.toNat_natCast]
        rw [e, hhd] at h1
        exact h1)
      have clf := Lib.hid (show Calls Tryz.prog 40 #[.pointer (some ⟨r, 0, none⟩), .int .i64 (x : Int)] wr fun e w' => e = .returned (.int .i64 (leftE L f x)) ∧ w' = wr by
        obtain ⟨FA, hA⟩ := hS.out.partAt 9 rfl
        obtain ⟨FR, hR⟩ := hS.out.partAt 8 rfl
        have h1 := rleft_p hR hA hG'.out (x : Int)
        have e : leftI L f (x : Int) = leftE L f x := by unfold leftI; rw [if_pos (by omega), Int.toNat_natCast]
        rw [e] at h1
        exact h1)
      have htk := Lib.hid (show (ofS n L v).take (j + 1) = (ofS n L v).take j ++ [x] by rw [List.take_add_one, hx]; rfl)
      have hhd' := Lib.hid hhd
      have hxm' := Lib.hid hxm
      have harc : 0 < leftE L f x → Arc L f v hd1 := fun hle => ⟨x, hxm.1, hxm.2, hhd, hle⟩
      by_cases hle : 0 < leftE L f x
      · have csee := Lib.hid (see_bst (hS.out.tail) (fun h => (arc_lt hG'.out h).symm) hn4 hB.out hm.out hd hi (show Arc L f now[i] hd1 by rw [hv'.out]; exact harc hle))
        have csee2 := Lib.hid (show Calls Tryz.prog 189 #[.int .i64 (hd1 : Int), .pointer (some ⟨Bo, 0, none⟩), .pointer (some ⟨Bd, 0, none⟩), .pointer (some ⟨Bn, 0, none⟩)] wr fun e w' => e = .returned (.tuple #[]) ∧
      ∃ O' next' m' a1 c1, next'.length = m' ∧ m' ≤ n ∧ BSt n (fun u x => Arc L f x u) t O' d now i next' ∧ (∀ y, O.getD y 0 ≠ -1 → O'.getD y 0 ≠ -1) ∧ O'.getD hd1 0 ≠ -1 ∧ Sep W0 w' (Row 3 1 K (.slice (some ⟨ga, 0, none⟩) K c2) (i64s (ints (ofS n L v))) :: SpL Bo g Bd Bn n O' d m' a1 c1 next' (Blk Ba [.pointer (some ⟨ba, 0, none⟩)] 47 :: Blk Br [.pointer (some ⟨r, 0, none⟩)] 29 :: RestP r ba n L f :: ArcP ba n L :: R)) by
          have h1 := see_bst (R := Blk Ba [.pointer (some ⟨ba, 0, none⟩)] 47 :: Blk Br [.pointer (some ⟨r, 0, none⟩)] 29 :: RestP r ba n L f :: ArcP ba n L :: R ++ [Row 3 1 K (.slice (some ⟨ga, 0, none⟩) K c2) (i64s (ints (ofS n L v)))]) (by have h2 := hS.out.rot; simpa [SpL] using h2) (fun h => (arc_lt hG'.out h).symm) hn4 hB.out hm.out hd hi (show Arc L f now[i] hd1 by rw [hv'.out]; exact harc hle)
          refine h1.mono ?_
          rintro e w' ⟨rfl, O', next', m', a1, c1, k1, k2, k3, k4, k5, k6⟩
          refine ⟨rfl, O', next', m', a1, c1, k1, k2, k3, k4, k5, ?_⟩
          refine k6.perm ?_
          have := List.perm_append_singleton (Row 3 1 K (.slice (some ⟨ga, 0, none⟩) K c2) (i64s (ints (ofS n L v)))) (SpL Bo g Bd Bn n O' d m' a1 c1 next' (Blk Ba [.pointer (some ⟨ba, 0, none⟩)] 47 :: Blk Br [.pointer (some ⟨r, 0, none⟩)] 29 :: RestP r ba n L f :: ArcP ba n L :: R))
          simpa [SpL] using this)
        clear csee hx hxm hhd hcell harc hS
        have hkeep := Lib.hid (show ∀ O' : List Int, (∀ y, O.getD y 0 ≠ -1 → O'.getD y 0 ≠ -1) → O'.getD hd1 0 ≠ -1 → ∀ y ∈ (ofS n L v).take (j + 1), 0 < leftE L f y → ∀ u : Nat, headE L y = (u : Int) → O'.getD u 0 ≠ -1 by
          intro O' k1 k2 y hy h1 u h2
          rw [htk.out, List.mem_append, List.mem_singleton] at hy
          rcases hy with hy | rfl
          · exact k1 _ (hdn.out y hy h1 u h2)
          · rw [hhd'.out] at h2
            have : hd1 = u := by omega
            subst this
            exact k2)
        clear hdn htk hhd' hxm' hB hm
        generalize leftE L f x = z at *
        go_wp2_with (first
          | (go_at_call 39; refine chd.out.mono ?_; rintro e w1 ⟨rfl, hw1⟩; subst w1)
          | (go_at_call 40; refine clf.out.mono ?_; rintro e w1 ⟨rfl, hw1⟩; subst w1))
        refine csee2.out.mono ?_
        rintro e w3 ⟨rfl, O', next', m', a1, c1, k1, k2, k3, k4, k5, k6⟩
        have k1' := Lib.hid k1
        have k3' := Lib.hid k3
        have k6' := Lib.hid k6
        have hk' := Lib.hid (hkeep.out O' k4 k5)
        clear k1 k3 k4 k5 k6 csee2 chd clf hkeep
        try dsimp only
        go_wp2_with fail
        go_roundw
        case rel => exact ⟨O', next', m', j + 1, a1, c1, k3', k1', k2, hk', by omega, by go_num, k6'⟩
        case measure => simp [intOf]; omega
      · have hnew := Lib.hid (show ∀ y ∈ (ofS n L v).take (j + 1), 0 < leftE L f y → ∀ u : Nat, headE L y = (u : Int) → O.getD u 0 ≠ -1 by
          intro y hy h1 hd2 h2
          rw [htk.out, List.mem_append, List.mem_singleton] at hy
          rcases hy with hy | rfl
          · exact hdn.out y hy h1 hd2 h2
          · exact absurd h1 hle)
        clear hx hxm hhd hcell harc hdn
        generalize leftE L f x = z at *
        go_wp2_with (go_at_call 40; refine clf.out.mono ?_; rintro e w1 ⟨rfl, hw1⟩; subst w1)
        go_roundw
        case rel => exact ⟨O, next, m, j + 1, a, c, hB, hm, hm1, hnew, by omega, by go_num, hS⟩
        case measure => simp [intOf]; omega
    · have hjk : j = K := by omega
      have hall : ∀ u, Arc L f now[i] u → O.getD u 0 ≠ -1 := by
        rintro u ⟨y, h1, h2, h3, h4⟩
        refine hdn.out y ?_ h4 u h3
        rw [hjk, ← hK'.out, List.take_length, mem_ofS hG'.out]
        exact ⟨h1, by rw [h2, hv'.out]⟩
      have hB2 := Lib.hid (hB.out.seen hi hall)
      have hS9 := Lib.hid hS.out.tail
      clear hS hdn hjk hall
      go_wp2_with fail
      exact bodyPost_end (v := .tuple #[]) (by simp [results, Tryz.results188, go_sem]) rfl ⟨rfl, O, next, m, a, c, hm.out, hm1, hB2.out, hS9.out⟩

/-- The objects that the search goes along. -/
def ArcO (Ba ba Br r n : Nat) (L : List Ed) (f : List Int) (R : List Part) : List Part := Blk Ba [.pointer (some ⟨ba, 0, none⟩)] 47 :: Blk Br [.pointer (some ⟨r, 0, none⟩)] 29 :: RestP r ba n L f :: ArcP ba n L :: R
theorem to1_on {W0 : World} {Ba Br r ba n : Nat} {L : List Ed} {f : List Int} {R : List Part} (hG : GOk n L) (t : Nat) : OnOk W0 n (Arc L f) t 132 #[.pointer (some ⟨Ba, 0, none⟩), .pointer (some ⟨Br, 0, none⟩)] (ArcO Ba ba Br r n L f R) :=
  fun w Bo g Bd Bn d m i v O now next a c R' hS hB hm hd hi hv hvn => to1_bst (R := R ++ R') (by exact hS) hG hB hm hd hi hv hvn
theorem from1_on {W0 : World} {Ba Br r ba n : Nat} {L : List Ed} {f : List Int} {R : List Part} (hG : GOk n L) (t : Nat) : OnOk W0 n (fun u x => Arc L f x u) t 188 #[.pointer (some ⟨Ba, 0, none⟩), .pointer (some ⟨Br, 0, none⟩)] (ArcO Ba ba Br r n L f R) :=
  fun w Bo g Bd Bn d m i v O now next a c R' hS hB hm hd hi hv hvn => from1_bst (R := R ++ R') (by exact hS) hG hB hm hd hi hv hvn
set_option maxRecDepth 100000 in
set_option maxHeartbeats 4000000 in
theorem to_sep {W0 w : World} {r ba n : Nat} {L : List Ed} {f : List Int} {R : List Part} (hS : Sep W0 w (RestP r ba n L f :: ArcP ba n L :: R)) (hG : GOk n L) (t : Int) :
    Calls Tryz.prog 37 #[.pointer (some ⟨r, 0, none⟩), .int .i64 t] w fun e w' => ∃ g D, e = .returned (.slice (some ⟨g, 0, none⟩) n n) ∧ LevI n (Arc L f) t D ∧ D.length = n ∧ Sep W0 w' (Row 3 1 n (.slice (some ⟨g, 0, none⟩) n n) (i64s D) :: RestP r ba n L f :: ArcP ba n L :: R) := by
  have hn4 := hG.le
  have hS1 := Lib.hid (hS.box [.pointer (some ⟨r, 0, none⟩)] 29)
  have hG' := Lib.hid hG
  have ca := Lib.hid (rarcs_sep hS1.out.tail)
  have hS2 := Lib.hid (show Sep W0 _ (ArcO (w.heap.size + 1) ba w.heap.size r n L f R) from by
    have h5 := hS1.out.box [.pointer (some ⟨ba, 0, none⟩)] 47
    rw [World.size_alloc] at h5
    exact h5)
  clear hS hG
  go_enter Tryz.func37, Tryz.ntmps37
  go_upto_region 2 with (go_at_call 23; refine ca.out.mono ?_; rintro e w1 ⟨rfl, hw1⟩; subst w1)
  clear ca hS1
  generalize (w.alloc (.cells #[.pointer (some ⟨r, 0, none⟩)] 29)).alloc (.cells #[.pointer (some ⟨ba, 0, none⟩)] 47) = w1 at *
  generalize w.heap.size + 1 = Ba at *
  generalize w.heap.size = Br at *
  have c0 := (hS2.out.blkAt 0 rfl).cell 0 rfl
  have l0 := (hS2.out.blkAt 0 rfl).lt
  have cn := Lib.hid (by
    obtain ⟨FA, hA⟩ := hS2.out.partAt 3 rfl
    exact an_p hA hG'.out)
  have cs := Lib.hid (spread_sep (A := (Arc L f)) (kf := 132) (caps := #[.pointer (some ⟨Ba, 0, none⟩), .pointer (some ⟨Br, 0, none⟩)]) t hS2.out (fun h => arc_lt hG'.out h) hn4 (fun v p1 p2 p3 w => by simp [go_sem]) (to1_on hG'.out))
  go_wp2_with (go_at_call 105; refine cn.out.mono ?_; rintro e w1 ⟨rfl, hw1⟩; subst w1)
  refine cs.out.mono ?_
  rintro e w3 ⟨g, D, rfl, hD, hDl, hS3⟩
  have hD' := Lib.hid hD
  have hS3' := Lib.hid hS3
  have hDl' := Lib.hid hDl
  clear hD hDl hS3 cs cn
  try dsimp only
  go_wp2_with fail
  go_ret
  exact ⟨g, D, rfl, hD'.out, hDl'.out, (hS3'.out.picks [1, 1]).tail.tail⟩
set_option maxRecDepth 100000 in
set_option maxHeartbeats 4000000 in
theorem from_sep {W0 w : World} {r ba n : Nat} {L : List Ed} {f : List Int} {R : List Part} (hS : Sep W0 w (RestP r ba n L f :: ArcP ba n L :: R)) (hG : GOk n L) (t : Int) :
    Calls Tryz.prog 130 #[.pointer (some ⟨r, 0, none⟩), .int .i64 t] w fun e w' => ∃ g D, e = .returned (.slice (some ⟨g, 0, none⟩) n n) ∧ LevI n (fun u x => Arc L f x u) t D ∧ D.length = n ∧ Sep W0 w' (Row 3 1 n (.slice (some ⟨g, 0, none⟩) n n) (i64s D) :: RestP r ba n L f :: ArcP ba n L :: R) := by
  have hn4 := hG.le
  have hS1 := Lib.hid (hS.box [.pointer (some ⟨r, 0, none⟩)] 29)
  have hG' := Lib.hid hG
  have ca := Lib.hid (rarcs_sep hS1.out.tail)
  have hS2 := Lib.hid (show Sep W0 _ (ArcO (w.heap.size + 1) ba w.heap.size r n L f R) from by
    have h5 := hS1.out.box [.pointer (some ⟨ba, 0, none⟩)] 47
    rw [World.size_alloc] at h5
    exact h5)
  clear hS hG
  go_enter Tryz.func130, Tryz.ntmps130
  go_upto_region 2 with (go_at_call 23; refine ca.out.mono ?_; rintro e w1 ⟨rfl, hw1⟩; subst w1)
  clear ca hS1
  generalize (w.alloc (.cells #[.pointer (some ⟨r, 0, none⟩)] 29)).alloc (.cells #[.pointer (some ⟨ba, 0, none⟩)] 47) = w1 at *
  generalize w.heap.size + 1 = Ba at *
  generalize w.heap.size = Br at *
  have c0 := (hS2.out.blkAt 0 rfl).cell 0 rfl
  have l0 := (hS2.out.blkAt 0 rfl).lt
  have cn := Lib.hid (by
    obtain ⟨FA, hA⟩ := hS2.out.partAt 3 rfl
    exact an_p hA hG'.out)
  have cs := Lib.hid (spread_sep (A := (fun u x => Arc L f x u)) (kf := 188) (caps := #[.pointer (some ⟨Ba, 0, none⟩), .pointer (some ⟨Br, 0, none⟩)]) t hS2.out (fun h => (arc_lt hG'.out h).symm) hn4 (fun v p1 p2 p3 w => by simp [go_sem]) (from1_on hG'.out))
  go_wp2_with (go_at_call 105; refine cn.out.mono ?_; rintro e w1 ⟨rfl, hw1⟩; subst w1)
  refine cs.out.mono ?_
  rintro e w3 ⟨g, D, rfl, hD, hDl, hS3⟩
  have hD' := Lib.hid hD
  have hS3' := Lib.hid hS3
  have hDl' := Lib.hid hDl
  clear hD hDl hS3 cs cn
  try dsimp only
  go_wp2_with fail
  go_ret
  exact ⟨g, D, rfl, hD'.out, hDl'.out, (hS3'.out.picks [1, 1]).tail.tail⟩
end Edge
end Go.Proofs.YtjpfmkfikidgkaaGreat

set_option linter.unusedVariables false
set_option linter.unusedSimpArgs false
namespace Go.Proofs.YtjpfmkfikidgkaaGreat
open Go.RowKit
namespace Edge
def lenOf : Value → Nat
  | .slice _ n _ => n
  | _ => 0
theorem nilInts {W0 w : World} {L : List Part} (h : Sep W0 w L) : Sep W0 w (Row 3 1 ([] : List Nat).length (.slice none ([] : List Nat).length 0) (i64s (ints [])) :: L) := by
  have h1 := h.nilRow 3 1
  simpa [i64s, ints] using h1
def WayOut (W0 : World) (n r ba : Nat) (L : List Ed) (f : List Int) (s t : Int) (R : List Part) (e : Ending) (w' : World) : Prop :=
  ∃ D l a c, LevI n (Arc L f) t D ∧ D.length = n ∧ WayP n L f D s l ∧ e = .returned (.slice a l.length c) ∧ Sep W0 w' (Row 3 1 l.length (.slice a l.length c) (i64s (ints l)) :: RestP r ba n L f :: ArcP ba n L :: R)
set_option maxRecDepth 100000 in
set_option maxHeartbeats 16000000 in
theorem way_sep {W0 w : World} {r ba n : Nat} {L : List Ed} {f : List Int} {R : List Part} (hS : Sep W0 w (RestP r ba n L f :: ArcP ba n L :: R)) (hG : GOk n L) (s t : Int) :
    Calls Tryz.prog 41 #[.pointer (some ⟨r, 0, none⟩), .int .i64 s, .int .i64 t] w (WayOut W0 n r ba L f s t R) := by
  have hn4 := hG.le
  have cT := Lib.hid (to_sep hS hG t)
  have hG' := Lib.hid hG
  have hlen : L.length ≤ 1048576 := hG.len
  clear hS hG
  go_enter Tryz.func41, Tryz.ntmps41
  go_wp2_with fail
  refine cT.out.mono ?_
  rintro e w1 ⟨g, D, rfl, hD, hDl, hS⟩
  have hD' := Lib.hid hD
  have hDl' := Lib.hid hDl
  have hS1 := Lib.hid hS
  clear hD hS cT hDl
  try dsimp only
  by_cases h0 : s < 0
  · have t0 : decide (s < 0) = true := by simpa using h0
    have hw := Lib.hid (show WayP n L f D s [] by unfold WayP; rw [if_neg (by omega)])
    go_wp2_with fail
    go_ret
    exact ⟨D, [], none, 0, hD'.out, hDl'.out, hw.out, rfl, nilInts hS1.out.tail⟩
  by_cases h1 : (n : Int) ≤ s
  · have t0 : decide (s < 0) = false := by simpa using h0
    have t1 : decide ((n : Int) ≤ s) = true := by simpa using h1
    have hw := Lib.hid (show WayP n L f D s [] by unfold WayP; rw [if_neg (by omega)])
    go_wp2_with fail
    go_ret
    exact ⟨D, [], none, 0, hD'.out, hDl'.out, hw.out, rfl, nilInts hS1.out.tail⟩
  obtain ⟨s, rfl⟩ := Int.eq_ofNat_of_zero_le (show 0 ≤ s by omega)
  have hsn : s < n := by omega
  have hsl : (s : Int) < n := by omega
  have t0 : decide ((s : Int) < 0) = false := by simp
  have t1 : decide ((n : Int) ≤ (s : Int)) = false := by simp; omega
  have cs := (hS1.out.rowAt 0 rfl).cellAt s (by omega)
  rw [i64s_getD (by rw [hDl'.out]; exact hsn)] at cs
  have lg : g < w1.heap.size := own_lt (hS1.out.rowAt 0 rfl) (g := g) rfl
  by_cases h2 : D.getD s 0 < 1
  · have t2 : decide (D.getD s 0 < 1) = true := by simpa using h2
    have hw := Lib.hid (show WayP n L f D s [] by unfold WayP; rw [Int.toNat_natCast, if_neg (by omega)])
    clear h2
    generalize D.getD s 0 = z at *
    go_wp2_with fail
    go_ret
    exact ⟨D, [], none, 0, hD'.out, hDl'.out, hw.out, rfl, nilInts hS1.out.tail⟩
  have t2 : decide (D.getD s 0 < 1) = false := by simpa using h2
  have ht : 0 ≤ t ∧ t < n := by
    refine Classical.byContradiction fun hc => h2 ?_
    have h5 := hD'.out
    unfold LevI at h5
    rw [if_neg hc] at h5
    rw [h5, List.getD_eq_getElem?_getD, List.getElem?_replicate, if_pos hsn]
    decide
  obtain ⟨t, rfl⟩ := Int.eq_ofNat_of_zero_le ht.1
  have htn : t < n := by omega
  have hL := Lib.hid (show LevTo n (Arc L f) t D by
    have h5 := hD'.out
    unfold LevI at h5
    rw [if_pos ht, Int.toNat_natCast] at h5
    exact h5)
  obtain ⟨K, hK⟩ : ∃ K : Nat, D.getD s 0 = K := ⟨(D.getD s 0).toNat, by omega⟩
  have hKn : K ≤ n := by
    have := (hL.out.2 s hsn).lt (arc_lt hG'.out) htn
    omega
  have hK' := Lib.hid hK
  have hwy := Lib.hid (show ∀ l, IsWay L f D K s l → WayP n L f D s l from fun l hl => by
    unfold WayP
    rw [if_pos ⟨by omega, by omega, by rw [Int.toNat_natCast]; omega⟩, Int.toNat_natCast, hK, Int.toNat_natCast]
    exact hl)
  have ca := Lib.hid (rarcs_sep hS1.out.tail)
  rw [hK] at cs t2
  clear h2 hK
  go_upto_region 5 with (go_at_call 23; refine ca.out.mono ?_; rintro e w2 ⟨rfl, hw2⟩; subst w2)
  clear ca cs lg
  have hS2 := Lib.hid (hS1.out.nilRow 3 1)
  clear hS1
  go_wp2_with fail
  go_loopw [9, 10] (fun s9 s10 wr => ∃ (P : List Nat) (m : Nat) (a : Option Addr) (c v k : Nat), Hid (P.length = m) ∧ s9 = .slice a m c ∧ s10 = .int .i64 v ∧ v < n ∧ Hid (D.getD v 0 = k) ∧ m + k = K ∧ Hid (∀ l, IsWay L f D k v l → IsWay L f D K s (P ++ l)) ∧
    Hid (Sep W0 wr (Row 3 1 m (.slice a m c) (i64s (ints P)) :: Row 3 1 n (.slice (some ⟨g, 0, none⟩) n n) (i64s D) :: RestP r ba n L f :: ArcP ba n L :: R))) (fun s9 _ _ => K - lenOf s9)
  case atStart => exact ⟨[], 0, none, 0, s, K, Lib.hid rfl, rfl, rfl, hsn, hK', by omega, Lib.hid (fun l hl => hl), hS2⟩
  case round =>
    clear hS2
    obtain ⟨P, m, a, c, v, k, hP, rfl, rfl, hvn, hk, hmk, hW, hS⟩ := hrel
    have hvl : (v : Int) < n := by omega
    have cv := (hS.out.rowAt 1 rfl).cellAt v (by omega)
    rw [i64s_getD (by rw [hDl'.out]; exact hvn), hk.out] at cv
    have lg : g < wr.heap.size := own_lt (hS.out.rowAt 1 rfl) (g := g) rfl
    by_cases hk0 : 0 < k
    · have hk1 : (0 : Int) < k := by omega
      have cc := Lib.hid (show Calls Tryz.prog 75 #[.pointer (some ⟨ba, 0, none⟩), .int .i64 (v : Int)] wr fun e w' => ∃ a c, e = .returned (.slice a (ofS n L v).length c) ∧ Made wr w' 3 1 a (ofS n L v).length c (i64s (ints (ofS n L v))) by
        obtain ⟨FA, hA⟩ := hS.out.partAt 3 rfl
        have h1 := aout_p hA hG'.out (v : Int)
        have e : outI n L (v : Int) = ints (ofS n L v) := by unfold outI; rw [if_pos (by omega), Int.toNat_natCast]
        rw [e, ints_len] at h1
        exact h1)
      obtain ⟨Kc, hKc⟩ : ∃ K, (ofS n L v).length = K := ⟨_, rfl⟩
      rw [hKc] at cc
      have hKc' := Lib.hid hKc
      have hKb : Kc ≤ 2097152 := by
        have h5 := ofU_le L (2 * L.length) v
        have h6 := ofS_len hG'.out v
        unfold cntE at h6
        omega
      clear hKc
      go_wp2_with fail
      refine cc.out.mono ?_
      rintro e w3 ⟨a2, c2, rfl, hmd⟩
      have hS3 := Lib.hid (hS.out.made hmd)
      clear hmd cc hS cv lg
      try dsimp only
      go_wp2_with fail
      go_loopw [11, 44] (fun s11 s44 wr => ∃ (j : Nat) (best : Int), s11 = .int .i64 best ∧ s44 = .int .i64 j ∧ j ≤ Kc ∧ best ≤ 2097152 ∧ Hid (BestIn L f D v ((ofS n L v).take j) best) ∧
        Hid (Sep W0 wr (Row 3 1 Kc (.slice a2 Kc c2) (i64s (ints (ofS n L v))) :: Row 3 1 m (.slice a m c) (i64s (ints P)) :: Row 3 1 n (.slice (some ⟨g, 0, none⟩) n n) (i64s D) :: RestP r ba n L f :: ArcP ba n L :: R))) (fun _ s44 _ => Kc - (intOf s44).toNat)
      case atStart => exact ⟨0, -1, rfl, rfl, by omega, by omega, Lib.hid (BestIn.nil v), hS3⟩
      case round =>
        clear hS3
        obtain ⟨j, best, rfl, rfl, hjK, hbb, hB, hS⟩ := hrel
        by_cases hlj : j < Kc
        · have hlj1 : (j : Int) < Kc := by omega
          obtain ⟨x, hx⟩ : ∃ x, (ofS n L v)[j]? = some x := ⟨_, List.getElem?_eq_getElem (by rw [hKc'.out]; exact hlj)⟩
          have hxm := (mem_ofS hG'.out (v := v)).1 (List.mem_of_getElem? hx)
          obtain ⟨hd1, hhd⟩ := Int.eq_ofNat_of_zero_le (head_in hG'.out hxm.1).1
          have hdn : hd1 < n := by have := (head_in hG'.out hxm.1).2; omega
          have hdl : (hd1 : Int) < n := by omega
          obtain ⟨ga, rfl, hga, _, hcell⟩ := row_form (hS.out.rowAt 0 rfl) (by omega)
          have cX := hcell j (.int .i64 (x : Int)) (by
            have : (ints (ofS n L v))[j]? = some (x : Int) := by unfold ints; rw [List.getElem?_map, hx]; rfl
            exact i64s_got this)
          have ch := (hS.out.rowAt 2 rfl).cellAt hd1 (by omega)
          rw [i64s_getD (by rw [hDl'.out]; exact hdn)] at ch
          have cv := (hS.out.rowAt 2 rfl).cellAt v (by omega)
          rw [i64s_getD (by rw [hDl'.out]; exact hvn), hk.out] at cv
          have lg : g < wr.heap.size := own_lt (hS.out.rowAt 2 rfl) (g := g) rfl
          have chd := Lib.hid (fun q : Nat => show Calls Tryz.prog 39 #[.pointer (some ⟨ba, 0, none⟩), .int .i64 (x : Int)] (wr.drewN q) fun e w' => e = .returned (.int .i64 (hd1 : Int)) ∧ w' = wr.drewN q by
            obtain ⟨FA, hA⟩ := (hS.out.still ((Mod.refl [] wr).drewN q)).partAt 4 rfl
            have h1 := ahead_p hA hG'.out (x : Int)
            have e : headI L (x : Int) = headE L x := by unfold headI; rw [if_neg (by omega), Int.toNat_natCast]
            rw [e, hhd] at h1
            exact h1)
          have clf := Lib.hid (fun q : Nat => show Calls Tryz.prog 40 #[.pointer (some ⟨r, 0, none⟩), .int .i64 (x : Int)] (wr.drewN q) fun e w' => e = .returned (.int .i64 (leftE L f x)) ∧ w' = wr.drewN q by
            obtain ⟨FA, hA⟩ := (hS.out.still ((Mod.refl [] wr).drewN q)).partAt 4 rfl
            obtain ⟨FR, hR⟩ := (hS.out.still ((Mod.refl [] wr).drewN q)).partAt 3 rfl
            have h1 := rleft_p hR hA hG'.out (x : Int)
            have e : leftI L f (x : Int) = leftE L f x := by unfold leftI; rw [if_pos (by omega), Int.toNat_natCast]
            rw [e] at h1
            exact h1)
          have htk := Lib.hid (show (ofS n L v).take (j + 1) = (ofS n L v).take j ++ [x] by rw [List.take_add_one, hx]; rfl)
          have hbg := hB.out.ge
          have hxb : (x : Int) ≤ 2097152 := by have := hxm.1; omega
          have hSd := Lib.hid (fun q : Nat => hS.out.still ((Mod.refl [] wr).drewN q))
          have hgd := Lib.hid (show gdW L f D v x ↔ 0 < leftE L f x ∧ D.getD hd1 0 = (k : Int) - 1 by unfold gdW; rw [hhd, Int.toNat_natCast, hk.out])
          clear hx hxm hhd hcell hdn hS
          by_cases hz : 0 < leftE L f x
          · by_cases hy : D.getD hd1 0 = (k : Int) - 1
            · have hg := hgd.out.2 ⟨hz, hy⟩
              have ty : (D.getD hd1 0 == (k : Int) - 1) = true := by simpa using hy
              by_cases hb0 : best < 0
              · have hnew : Hid (BestIn L f D v ((ofS n L v).take (j + 1)) x) := Lib.hid (by rw [htk.out]; exact hB.out.new hg (.inl hb0))
                have tb : decide (best < 0) = true := by simpa using hb0
                clear hg hy
                clear hB htk hgd
                generalize leftE L f x = z at *
                generalize D.getD hd1 0 = y at *
                go_upto_region 12 with fail
                go_quiet (first | (go_at_call 40; exact Calls.quiet_of_same (clf.out _)) | (go_at_call 39; exact Calls.quiet_of_same (chd.out _)))
                go_wp2_with fail
                go_roundw
                case rel => exact ⟨j + 1, x, rfl, by go_num, by omega, by omega, hnew, Lib.hid (hSd.out _)⟩
                case measure => simp [intOf]; omega
              · have tb : decide (best < 0) = false := by simpa using hb0
                by_cases hxl : (x : Int) < best
                · have hnew : Hid (BestIn L f D v ((ofS n L v).take (j + 1)) x) := Lib.hid (by rw [htk.out]; exact hB.out.new hg (.inr hxl))
                  have tx : decide ((x : Int) < best) = true := by simpa using hxl
                  clear hg hy
                  clear hB htk hgd
                  generalize leftE L f x = z at *
                  generalize D.getD hd1 0 = y at *
                  go_upto_region 12 with fail
                  go_quiet (first | (go_at_call 40; exact Calls.quiet_of_same (clf.out _)) | (go_at_call 39; exact Calls.quiet_of_same (chd.out _)))
                  go_wp2_with fail
                  go_roundw
                  case rel => exact ⟨j + 1, x, rfl, by go_num, by omega, by omega, hnew, Lib.hid (hSd.out _)⟩
                  case measure => simp [intOf]; omega
                · have hnew : Hid (BestIn L f D v ((ofS n L v).take (j + 1)) best) := Lib.hid (by rw [htk.out]; exact hB.out.old (by omega) (by omega))
                  have tx : decide ((x : Int) < best) = false := by simpa using hxl
                  clear hg hy
                  clear hB htk hgd
                  generalize leftE L f x = z at *
                  generalize D.getD hd1 0 = y at *
                  go_upto_region 12 with fail
                  go_quiet (first | (go_at_call 40; exact Calls.quiet_of_same (clf.out _)) | (go_at_call 39; exact Calls.quiet_of_same (chd.out _)))
                  go_wp2_with fail
                  go_roundw
                  case rel => exact ⟨j + 1, best, rfl, by go_num, by omega, by omega, hnew, Lib.hid (hSd.out _)⟩
                  case measure => simp [intOf]; omega
            · have hnew : Hid (BestIn L f D v ((ofS n L v).take (j + 1)) best) := Lib.hid (by rw [htk.out]; exact hB.out.no (fun h => hy (hgd.out.1 h).2))
              have ty : (D.getD hd1 0 == (k : Int) - 1) = false := by simpa using hy
              clear hy
              clear hB htk hgd
              generalize leftE L f x = z at *
              generalize D.getD hd1 0 = y at *
              go_upto_region 12 with fail
              go_quiet (first | (go_at_call 40; exact Calls.quiet_of_same (clf.out _)) | (go_at_call 39; exact Calls.quiet_of_same (chd.out _)))
              go_wp2_with fail
              go_roundw
              case rel => exact ⟨j + 1, best, rfl, by go_num, by omega, by omega, hnew, Lib.hid (hSd.out _)⟩
              case measure => simp [intOf]; omega
          · have hnew : Hid (BestIn L f D v ((ofS n L v).take (j + 1)) best) := Lib.hid (by rw [htk.out]; exact hB.out.no (fun h => hz (hgd.out.1 h).1))
            have tz : decide (0 < leftE L f x) = false := by simpa using hz
            clear hB htk hgd
            generalize leftE L f x = z at *
            generalize D.getD hd1 0 = y at *
            go_upto_region 12 with fail
            go_quiet (first | (go_at_call 40; exact Calls.quiet_of_same (clf.out _)) | (go_at_call 39; exact Calls.quiet_of_same (chd.out _)))
            go_wp2_with fail
            go_roundw
            case rel => exact ⟨j + 1, best, rfl, by go_num, by omega, by omega, hnew, Lib.hid (hSd.out _)⟩
            case measure => simp [intOf]; omega
        · have hjk : j = Kc := by omega
          have hball := hB.out
          rw [hjk, ← hKc'.out, List.take_length] at hball
          obtain ⟨b, rfl, hbest⟩ := hball.all hG'.out hL.out hvn (by rw [hk.out]; omega)
          obtain ⟨h1, hh1⟩ := Int.eq_ofNat_of_zero_le (head_in hG'.out hbest.1.1.1).1
          have hh1n : h1 < n := by have := (head_in hG'.out hbest.1.1.1).2; omega
          have hbl := hbest.1.1.1
          obtain ⟨k', hkk⟩ : ∃ k', k = k' + 1 := ⟨k - 1, by omega⟩
          have hD1 := Lib.hid (show D.getD h1 0 = (k' : Int) by
            have h5 := hbest.1.2.2
            rw [hh1, Int.toNat_natCast, hk.out] at h5
            omega)
          have hW1 := Lib.hid (show ∀ l, IsWay L f D k' h1 l → IsWay L f D K s ((P ++ [b]) ++ l) from fun l hl => by
            rw [List.append_assoc]
            exact hW.out _ (by rw [hkk]; exact .cons hbest hh1 hl))
          have hP1 := Lib.hid (show (P ++ [b]).length = m + 1 by rw [List.length_append, hP.out]; rfl)
          have hS4 := Lib.hid hS.out.tail
          have chd := Lib.hid (fun W (M : Sep W0 W (Row 3 1 m (.slice a m c) (i64s (ints P)) :: Row 3 1 n (.slice (some ⟨g, 0, none⟩) n n) (i64s D) :: RestP r ba n L f :: ArcP ba n L :: R) ∨ ∃ a1 c1, Sep W0 W (Row 3 1 (m + 1) (.slice a1 (m + 1) c1) (i64s (ints (P ++ [b]))) :: Row 3 1 n (.slice (some ⟨g, 0, none⟩) n n) (i64s D) :: RestP r ba n L f :: ArcP ba n L :: R)) => show Calls Tryz.prog 39 #[.pointer (some ⟨ba, 0, none⟩), .int .i64 (b : Int)] W fun e w' => e = .returned (.int .i64 (h1 : Int)) ∧ w' = W by
            obtain ⟨FA, hA⟩ : ∃ F, ArcP ba n L W F := by
              rcases M with M | ⟨a1, c1, M⟩
              · exact M.partAt 3 rfl
              · exact M.partAt 3 rfl
            have h1 := ahead_p hA hG'.out (b : Int)
            have e : headI L (b : Int) = headE L b := by unfold headI; rw [if_neg (by omega), Int.toNat_natCast]
            rw [e, hh1] at h1
            exact h1)
          have hgr := Lib.hid (show ∀ (a1 : Option Addr) (c1 : Nat) (w6 : World), w6.ownsRow 0 3 1 (.slice a1 (m + 1) c1) (m + 1) (i64s (ints P) ++ [.int .i64 (b : Int)]) → Mod (Value.slice a m c).ownBlock.toList wr w6 → ((Value.slice a1 (m + 1) c1).ownBlock = (Value.slice a m c).ownBlock ∨ ∃ b, (Value.slice a1 (m + 1) c1).ownBlock = some b ∧ wr.heap.size ≤ b) →
              Sep W0 w6 (Row 3 1 (m + 1) (.slice a1 (m + 1) c1) (i64s (ints (P ++ [b]))) :: Row 3 1 n (.slice (some ⟨g, 0, none⟩) n n) (i64s D) :: RestP r ba n L f :: ArcP ba n L :: R) by
            intro a1 c1 w6 h1 h2 h3
            rw [← ints_snoc] at h1
            exact hS4.out.growAt 0 rfl h1 h2 h3)
          clear hS hB hjk hball hbest hW hP
          go_wp2_with (at_builtin; refine app_own rfl (.tmp 77) (.tmp 79) 51 3 _ 1 8 rfl Tryz.underlying51 infoI5 rfl (by omega) (by omega) (.slice a m c) m 1 (i64s (ints P)) [.int .i64 (b : Int)] rfl rfl (by simp) rfl (by simp [Value.oneCell']) (hS4.out.rowAt 0 rfl) (by omega) ?_; intro a1 c1 w6 ho6 hm6 hb6; have hS7 := Lib.hid (hgr.out a1 c1 w6 ho6 hm6 hb6); clear ho6 hm6 hb6)
          refine (chd.out _ (.inr ⟨_, _, hS7.out⟩)).mono ?_
          rintro e w7 ⟨rfl, hw7⟩
          subst w7
          try dsimp only
          go_wp2_with fail
          go_roundw
          case rel => exact ⟨P ++ [b], m + 1, a1, c1, h1, k', hP1, rfl, rfl, hh1n, hD1, by omega, hW1, hS7⟩
          case measure => simp [lenOf]; omega
    · have hk00 : k = 0 := by omega
      subst hk00
      have hend := hwy.out _ (hW.out [] (.nil v))
      rw [List.append_nil] at hend
      have hend' := Lib.hid hend
      have hS9 := Lib.hid (hS.out.picks [1]).tail
      clear hS hend hW
      go_wp2_with fail
      go_ret
      have hpm := hP.out
      subst hpm
      exact ⟨D, P, a, c, hD'.out, hDl'.out, hend'.out, rfl, hS9.out⟩
end Edge
end Go.Proofs.YtjpfmkfikidgkaaGreat

set_option linter.unusedVariables false
set_option linter.unusedSimpArgs false
namespace Go.Proofs.YtjpfmkfikidgkaaGreat
open Go.RowKit
namespace Edge
theorem roomL_no {L : List Ed} {f : List Int} {l : List Int} {k : Nat} (hk : k < l.length) (h : ¬ (0 ≤ l.getD k 0 ∧ l.getD k 0 < 2 * (L.length : Int))) : roomL L f l = 0 := by
  unfold roomL
  rw [if_neg (fun hc => h (by
    rw [List.getD_eq_getElem?_getD, List.getElem?_eq_getElem hk]
    exact hc _ (List.getElem_mem _)))]
theorem roomL_yes {L : List Ed} {f : List Int} {l : List Int} (h : ∀ k, k < l.length → 0 ≤ l.getD k 0 ∧ l.getD k 0 < 2 * (L.length : Int)) : roomL L f l = roomK L f l l.length := by
  unfold roomL
  rw [if_pos (fun i hi => by
    obtain ⟨k, hk, he⟩ := List.getElem_of_mem hi
    have := h k hk
    rw [List.getD_eq_getElem?_getD, List.getElem?_eq_getElem hk, he] at this
    exact this)]
set_option maxRecDepth 100000 in
set_option maxHeartbeats 8000000 in
theorem room_sep {W0 w : World} {r ba n : Nat} {L : List Ed} {f : List Int} {R : List Part} (hS : Sep W0 w (RestP r ba n L f :: ArcP ba n L :: R)) (hG : GOk n L) {l : List Int} {v : Value} (h : Rd w 1 v l.length (i64s l)) :
    Calls Tryz.prog 42 #[.pointer (some ⟨r, 0, none⟩), v] w fun e w' => e = .returned (.int .i64 (roomL L f l)) ∧ w' = w := by
  obtain ⟨a, c, rfl⟩ := h.val
  have hle := h.le
  have hlen : L.length ≤ 1048576 := hG.len
  have ca := Lib.hid (rarcs_sep hS)
  have cl := Lib.hid (by
    obtain ⟨FA, hA⟩ := hS.partAt 1 rfl
    exact alen_p hA)
  have clf := Lib.hid (fun i => rleft_sep hS hG i)
  obtain ⟨M, hM⟩ : ∃ M : Nat, 2 * L.length = M := ⟨_, rfl⟩
  rw [hM] at cl
  have hMb : M ≤ 2097152 := by omega
  have hno := Lib.hid (fun k (hk : k < l.length) (h : ¬ (0 ≤ l.getD k 0 ∧ l.getD k 0 < (M : Int))) => roomL_no (L := L) (f := f) hk (by rw [show 2 * (L.length : Int) = (M : Int) by omega]; exact h))
  have hyes := Lib.hid (fun (h : ∀ k, k < l.length → 0 ≤ l.getD k 0 ∧ l.getD k 0 < (M : Int)) => roomL_yes (L := L) (f := f) (by rw [show 2 * (L.length : Int) = (M : Int) by omega]; exact h))
  have hh := Lib.hid h
  clear hS hG h hM hlen
  go_enter Tryz.func42, Tryz.ntmps42
  go_wp2_with fail
  go_loopw [5, 11] (fun s5 s11 wr => ∃ k : Nat, k ≤ l.length ∧ s5 = .int .i64 (roomK L f l k) ∧ s11 = .int .i64 k ∧ wr = w ∧ Hid (∀ j, j < k → 0 ≤ l.getD j 0 ∧ l.getD j 0 < (M : Int))) (fun _ s11 _ => l.length - (intOf s11).toNat)
  case atStart => exact ⟨0, Nat.zero_le _, rfl, rfl, rfl, Lib.hid (fun j hj => by omega)⟩
  case round =>
    obtain ⟨k, hk, rfl, rfl, hw, hall⟩ := hrel
    subst hw
    by_cases hlt : k < l.length
    · have hlt1 : (k : Int) < l.length := by omega
      obtain ⟨g, o, rfl, hg, hcell⟩ := rd_cell hh.out hlt
      have c0 := hcell _ k (.int .i64 (l.getD k 0)) (Mod.refl _ _) (i64s_getD hlt)
      have hno2 := Lib.hid (hno.out k hlt)
      have hst := Lib.hid (show roomK L f l (k + 1) = if k = 0 ∨ leftI L f (l.getD k 0) < roomK L f l k then leftI L f (l.getD k 0) else roomK L f l k from rfl)
      have hnext := Lib.hid (show (0 ≤ l.getD k 0 ∧ l.getD k 0 < (M : Int)) → ∀ j, j < k + 1 → 0 ≤ l.getD j 0 ∧ l.getD j 0 < (M : Int) from fun h j hj => by
        rcases Nat.lt_or_ge j k with c | c
        · exact hall.out j c
        · have : j = k := by omega
          subst this
          exact h)
      have clk := Lib.hid (clf.out (l.getD k 0))
      generalize l.getD k 0 = x at *
      clear hcell hall
      by_cases h0 : x < 0
      · have t0 : decide (x < 0) = true := by simpa using h0
        have hr := Lib.hid (hno2.out (by omega))
        clear h0
        go_wp2_with fail
        go_ret
        exact ⟨by rw [hr.out]; rfl, rfl⟩
      · have t0 : decide (x < 0) = false := by simpa using h0
        by_cases h1 : (M : Int) ≤ x
        · have t1 : decide ((M : Int) ≤ x) = true := by simpa using h1
          have hr := Lib.hid (hno2.out (by omega))
          clear h0 h1
          go_wp2_with (first
            | (go_at_call 23; refine ca.out.mono ?_; rintro e w1 ⟨rfl, hw1⟩; subst w1)
            | (go_at_call 24; refine cl.out.mono ?_; rintro e w1 ⟨rfl, hw1⟩; subst w1))
          go_ret
          exact ⟨by rw [hr.out]; rfl, rfl⟩
        · have t1 : decide ((M : Int) ≤ x) = false := by simpa using h1
          have hn := Lib.hid (hnext.out (by omega))
          clear h0 h1 hno2 hnext
          generalize leftI L f x = z at *
          generalize roomK L f l k = y at *
          by_cases hk0 : k = 0
          · have t2 : ((k : Int) == 0) = true := by simp; omega
            have hst2 := Lib.hid (show roomK L f l (k + 1) = z by rw [hst.out, if_pos (.inl hk0)])
            clear hk0 hk
            go_wp2_with (first
              | (go_at_call 23; refine ca.out.mono ?_; rintro e w1 ⟨rfl, hw1⟩; subst w1)
              | (go_at_call 40; refine clk.out.mono ?_; rintro e w1 ⟨rfl, hw1⟩; subst w1)
              | (go_at_call 24; refine cl.out.mono ?_; rintro e w1 ⟨rfl, hw1⟩; subst w1))
            go_roundw
            case rel => exact ⟨k + 1, by omega, by rw [hst2.out], by go_num, by first | rfl | trivial, hn⟩
            case measure => simp [intOf]; omega
          · have t2 : ((k : Int) == 0) = false := by simp; omega
            by_cases hzy : z < y
            · have t3 : decide (z < y) = true := by simpa using hzy
              have hst2 := Lib.hid (show roomK L f l (k + 1) = z by rw [hst.out, if_pos (.inr hzy)])
              clear hzy hk0
              go_wp2_with (first
                | (go_at_call 23; refine ca.out.mono ?_; rintro e w1 ⟨rfl, hw1⟩; subst w1)
                | (go_at_call 40; refine clk.out.mono ?_; rintro e w1 ⟨rfl, hw1⟩; subst w1)
                | (go_at_call 24; refine cl.out.mono ?_; rintro e w1 ⟨rfl, hw1⟩; subst w1))
              go_roundw
              case rel => exact ⟨k + 1, by omega, by rw [hst2.out], by go_num, by first | rfl | trivial, hn⟩
              case measure => simp [intOf]; omega
            · have t3 : decide (z < y) = false := by simpa using hzy
              have hst2 := Lib.hid (show roomK L f l (k + 1) = y by rw [hst.out, if_neg (fun h => h.elim hk0 hzy)])
              clear hzy hk0
              go_wp2_with (first
                | (go_at_call 23; refine ca.out.mono ?_; rintro e w1 ⟨rfl, hw1⟩; subst w1)
                | (go_at_call 40; refine clk.out.mono ?_; rintro e w1 ⟨rfl, hw1⟩; subst w1)
                | (go_at_call 24; refine cl.out.mono ?_; rintro e w1 ⟨rfl, hw1⟩; subst w1))
              go_roundw
              case rel => exact ⟨k + 1, by omega, by rw [hst2.out], by go_num, by first | rfl | trivial, hn⟩
              case measure => simp [intOf]; omega
    · have hkl : k = l.length := by omega
      have hend := Lib.hid (hyes.out (fun j hj => hall.out j (by omega)))
      rw [← hkl] at hend
      generalize roomK L f l k = y at *
      clear hall hkl hk
      go_wp2_with fail
      go_ret
      exact ⟨by rw [hend.out]; rfl, rfl⟩
end Edge
end Go.Proofs.YtjpfmkfikidgkaaGreat

set_option linter.unusedVariables false
set_option linter.unusedSimpArgs false
namespace Go.Proofs.YtjpfmkfikidgkaaGreat
open Go.RowKit
section
variable {P : Program} {ops : Array Oper} {Q : Exit → Act → World → Prop} {md : Region.Mode} {S : World → Prop} {N : Nat}
/-- What goes on in the plain walk goes on in the wide fence. -/
theorem oper_wide {o : Oper} {a : Act} {w : World} {K : Act → World → Prop} (h : o.wp P a w K Q) : o.wpIn Fence.wide N P a w K Q := by
  refine ⟨fun f _ => trivial, ?_⟩
  unfold Oper.wp at h
  show o.uponIn Fence.wide N P a K Q ((o.semAt none a.eval).run P w)
  rw [Oper.semAt_none]
  cases hr : (execOp a.eval o).run P w with
  | ok x w' =>
    rw [hr] at h
    cases x with
    | value v => exact h
    | skip => exact h
    | «defer» d => exact h
    | enter f args => exact ⟨fun hd => by simp [Fence.wide] at hd, callsIn_wide.2 h⟩
    | row r args => exact ⟨fun hd => by simp [Fence.wide] at hd, fun c cs _ => by
        obtain ⟨v, w2, h1, h2⟩ := h c cs
        exact ⟨v, w2, h1, stepsIn_wide.2 h2⟩⟩
    | round l f tmps assign body => exact h.elim
    | _ => exact h.elim
  | halt x w' =>
    rw [hr] at h
    cases x with
    | panic v => exact h
    | _ => exact h.elim
/-- Number i, in the wide fence. -/
abbrev opY (N : Nat) (P : Program) (ops : Array Oper) (Q : Exit → Act → World → Prop) (i : Nat) (K : Act → World → Prop) (a : Act) (w : World) : Prop := wpOpIn Fence.wide N P ops Q i K a w
theorem opY_yields {i : Nat} {o : Oper} {v : Value} {a : Act} (hi : ops[i]? = some o) (hy : YieldsIf P ops S o v a) {K : Act → World → Prop} {w : World} (hS : S w) (h : K (a.put o.dst v) w) : opY N P ops Q i K a w := by
  unfold opY wpOpIn
  rw [hi]
  rcases hy with ⟨hw, hv⟩ | ⟨hw, rfl⟩
  · simp only [hw, if_true]
    refine ⟨fun f _ => trivial, ?_⟩
    show o.uponIn Fence.wide N P a K Q ((o.semAt none a.eval).run P w)
    rw [Oper.semAt_none, hv w hS]
    exact h
  · simp only [hw, Bool.false_eq_true, if_false]
    exact ⟨fun f _ => trivial, h⟩
/-- An operation apart from one that has yielded already: it minds nothing. -/
theorem opY_put {j : Nat} {oi oj : Oper} {v : Value} (hj : ops[j]? = some oj) (hap : oi.apart ops oj = true) (hsi : ∀ cs b, oi.op ≠ .select cs b) (hsj : ∀ cs b, oj.op ≠ .select cs b)
    (hQ : ∀ c a w, Q (.panic c) (a.put oi.dst v) w → Q (.panic c) a w) {K : Act → World → Prop} {a : Act} {w : World} (hy : YieldsIf P ops S oi v a) (h : opY N P ops Q j K (a.put oi.dst v) w) :
    opY N P ops Q j (fun a' w' => YieldsIf P ops S oi v a' ∧ K (a'.put oi.dst v) w') a w := by
  obtain ⟨h1, h2, h3⟩ := Oper.apart_spec hap
  have kp : ∀ u, YieldsIf P ops S oi v (a.put oj.dst u) := fun u => hy.of_same (execOp_put oi hsi a oj.dst u h3) (wanted_put oi a oj.dst u h3)
  have sw : ∀ u, (a.put oj.dst u).put oi.dst v = (a.put oi.dst v).put oj.dst u := fun u => (Act.put_comm a v u h2).symm
  unfold opY wpOpIn at h ⊢
  rw [hj] at h ⊢
  simp only at h ⊢
  rw [wanted_put oj a oi.dst v h1] at h
  by_cases hw : Region.wanted oj (yielded ops a.tmps) = true
  · rw [if_pos hw] at h ⊢
    refine ⟨fun f _ => trivial, ?_⟩
    have h4 : oj.uponIn Fence.wide N P (a.put oi.dst v) K Q ((oj.semAt none (a.put oi.dst v).eval).run P w) := h.2
    show oj.uponIn Fence.wide N P a _ Q ((oj.semAt none a.eval).run P w)
    rw [Oper.semAt_none, execOp_put oj hsj a oi.dst v h1] at h4
    rw [Oper.semAt_none]
    generalize (execOp a.eval oj).run P w = r at h4 ⊢
    cases r with
    | ok x w' =>
      cases x with
      | value u => exact ⟨kp u, by rw [sw u]; exact h4⟩
      | skip => exact ⟨kp _, by rw [sw undef]; exact h4⟩
      | «defer» d =>
        refine ⟨(hy.of_same (a' := { a with defers := d :: a.defers }) rfl rfl).of_same (execOp_put oi hsi _ oj.dst undef h3) (wanted_put oi _ oj.dst undef h3), ?_⟩
        rw [← Act.put_comm _ v undef h2, ← Act.put_defers]
        exact h4
      | enter f args => exact ⟨h4.1, CallsIn.mono h4.2 (fun e w2 he => by
          cases e with
          | returned u => exact ⟨kp u, by rw [sw u]; exact he⟩
          | panicked c => exact hQ _ _ _ he
          | outgrown => exact he)⟩
      | row r args => exact ⟨h4.1, RowsIn.mono h4.2 (fun u w2 he => ⟨kp u, by rw [sw u]; exact he⟩)⟩
      | round l f tmps assign body => exact ⟨h4.1, RoundIn.mono h4.2 (fun e w2 he => by
          cases e with
          | returned u => exact ⟨kp u, by rw [sw u]; exact he⟩
          | panicked c => exact hQ _ _ _ he
          | outgrown => exact he)⟩
      | _ => exact h4.elim
    | halt x w' =>
      cases x with
      | panic u => exact hQ _ _ _ h4
      | _ => exact h4.elim
  · rw [if_neg hw] at h ⊢
    exact ⟨fun f _ => trivial, kp _, by rw [sw undef]; exact h.2⟩
theorem opY_mono {i : Nat} {a : Act} {w : World} {K K' : Act → World → Prop} (h : ∀ a w, K a w → K' a w) (hh : opY N P ops Q i K a w) : opY N P ops Q i K' a w := wpOpIn_mono h hh
/-- Whatever order comes, S holding behind whatever is carried out. -/
def anyY (N : Nat) (P : Program) (md : Region.Mode) (ops : Array Oper) (Q : Exit → Act → World → Prop) (S : World → Prop) : Nat → Array Bool → Act → World → Prop
  | 0, listed, a, w => Region.ready md ops listed = [] ∧ Q .normal a w
  | k + 1, listed, a, w => (Region.ready md ops listed = [] → Q .normal a w) ∧ ∀ i ∈ Region.ready md ops listed, opY N P ops Q i (fun a' w' => S w' ∧ anyY N P md ops Q S k (listed.setIfInBounds i true) a' w') a w
theorem anyY_in : ∀ (k : Nat) (listed : Array Bool) (a : Act) (w : World), anyY N P md ops Q S k listed a w → wpAnyIn Fence.wide N P md ops Q k listed a w
  | 0, _, _, _, h => h
  | k + 1, _, _, _, h => ⟨h.1, fun i hi => opY_mono (fun a' w' h' => anyY_in k _ a' w' h'.2) (h.2 i hi)⟩
theorem anyY_mono {S' : World → Prop} (hS : ∀ w, S' w → S w) : ∀ (k : Nat) (listed : Array Bool) (a : Act) (w : World), anyY N P md ops Q S' k listed a w → anyY N P md ops Q S k listed a w
  | 0, _, _, _, h => h
  | k + 1, _, _, _, h => ⟨h.1, fun i hi => opY_mono (fun a' w' h' => ⟨hS _ h'.1, anyY_mono hS k _ a' w' h'.2⟩) (h.2 i hi)⟩
/-- One that yields, whenever it comes, may come first. -/
theorem anyY_first {i : Nat} {oi : Oper} {v : Value} (hi : ops[i]? = some oi) (hsel : ∀ (j : Nat) (o : Oper) cs b, ops[j]? = some o → o.op ≠ .select cs b) (hQ : ∀ c a w, Q (.panic c) (a.put oi.dst v) w → Q (.panic c) a w) :
    ∀ (k : Nat) (listed : Array Bool) (a : Act) (w : World),
      (∀ j oj, ops[j]? = some oj → j ≠ i → listed.getD j true = false → (∀ e ∈ oj.after, Region.binds md e = true → e.on ≠ i) → oi.apart ops oj = true) →
      i ∈ Region.ready md ops listed → YieldsIf P ops S oi v a → S w → anyY N P md ops Q S k (listed.setIfInBounds i true) (a.put oi.dst v) w → anyY N P md ops Q S (k + 1) listed a w := by
  intro k
  induction k with
  | zero =>
    intro listed a w _ hr hy hS H
    refine ⟨fun h => absurd (h ▸ hr) (by simp), fun j hj => ?_⟩
    by_cases e : j = i
    · subst e; exact opY_yields hi hy hS ⟨hS, H⟩
    · have := ready_mono hj e
      rw [H.1] at this
      exact absurd this (by simp)
  | succ k ih =>
    intro listed a w hfree hr hy hS H
    refine ⟨fun h => absurd (h ▸ hr) (by simp), fun j hj => ?_⟩
    by_cases e : j = i
    · subst e; exact opY_yields hi hy hS ⟨hS, H⟩
    · obtain ⟨hun, oj, hoj, hall⟩ := mem_ready.1 hj
      have hni : ∀ x ∈ oj.after, Region.binds md x = true → x.on ≠ i := fun x hx hb he => by
        have p1 := hall x hx hb
        have p0 := (mem_ready.1 hr).1
        rw [he] at p1
        rcases Nat.lt_or_ge i listed.size with q | q
        · simp [q] at p0 p1; rw [p0] at p1; cases p1
        · simp [Array.getElem?_eq_none q] at p1
      have h2 := opY_put hoj (hfree j oj hoj e hun hni) (fun cs b => hsel i oi cs b hi) (fun cs b => hsel j oj cs b hoj) hQ hy (H.2 j (ready_mono hj e))
      refine opY_mono (fun a' w' ⟨y1, s1, r1⟩ => ⟨s1, ih (listed.setIfInBounds j true) a' w' (fun m om hm hmi hu hno => hfree m om hm hmi ?_ hno) (ready_mono hr (Ne.symm e)) y1 s1 ?_⟩) h2
      · by_cases q : j = m
        · subst q; exact hun
        · rw [getD_set_ne true q] at hu; exact hu
      · rw [Array.setIfInBounds_comm _ _ e]; exact r1
def wpSchedY (N : Nat) (P : Program) (ops : Array Oper) (G : World → World → Prop) (Q : Exit → Act → World → Prop) : List (List Oper × Oper) → List Oper → Act → World → Prop
  | [], last, a, w => wpQuiet P ops (Cls G w) (fun a' => Q .normal a' w) last a
  | (seg, b) :: rest, last, a, w => wpQuiet P ops (Cls G w) (fun a' => ∀ K : Act → World → Prop, Hid (∀ a'' w'', G w w'' → wpSchedY N P ops G Q rest last a'' w'' → K a'' w'') → if Region.wanted b (yielded ops a'.tmps) = true then (b.wp P a' w K Q ∨ b.wpIn Fence.wide N P a' w K Q) else K (a'.put b.dst undef) w) seg a
variable {G : World → World → Prop}
theorem seg_takeY (hs : Region.noSelect ops = true) (hQ : ∀ c a d v w, Q (.panic c) (Act.put a d v) w → Q (.panic c) a w) (hG : ∀ w, G w w) {Kq : Act → Prop} {w : World} :
    ∀ (is : List Nat) (listed listed' : Array Bool) (k : Nat) (a : Act), segB md ops is listed = some listed' → wpQuiet P ops (Cls G w) Kq (is.filterMap (ops[·]?)) a →
      (∀ a', Kq a' → anyY N P md ops Q (G w) k listed' a' w) → anyY N P md ops Q (G w) (k + is.length) listed a w
  | [], listed, listed', k, a, hB, h, hK => by
    simp only [segB, Option.some.injEq] at hB
    subst hB
    exact hK _ h
  | i :: is, listed, listed', k, a, hB, h, hK => by
    unfold segB at hB
    split at hB
    case isFalse => exact absurd hB (by simp)
    rename_i hc
    simp only [Bool.and_eq_true] at hc
    obtain ⟨⟨hr, hf⟩, hst⟩ := hc
    obtain ⟨o, ho⟩ : ∃ o, ops[i]? = some o := by
      cases hx : ops[i]? with
      | none => simp [hx] at hst
      | some o => exact ⟨o, rfl⟩
    simp only [ho, Option.map_some, Option.getD_some] at hst
    simp only [List.filterMap_cons, ho] at h
    unfold wpQuiet at h
    have ih : ∀ v, wpQuiet P ops (Cls G w) Kq (is.filterMap (ops[·]?)) (a.put o.dst v) → anyY N P md ops Q (G w) (k + is.length) (listed.setIfInBounds i true) (a.put o.dst v) w :=
      fun v hv => seg_takeY hs hQ hG is _ listed' k _ hB hv hK
    rw [List.length_cons, ← Nat.add_assoc]
    have fst : ∀ v, YieldsIf P ops (G w) o v a → wpQuiet P ops (Cls G w) Kq (is.filterMap (ops[·]?)) (a.put o.dst v) → anyY N P md ops Q (G w) (k + is.length + 1) listed a w := fun v hy hv =>
      anyY_first ho (Region.noSelect_spec hs) (fun c a w => hQ c a _ _ w) _ listed a w (Region.free_spec ho hf) (by simpa using hr) hy (hG w) (ih v hv)
    by_cases hw : Region.wanted o (yielded ops a.tmps) = true
    · rw [if_pos hw] at h
      obtain ⟨v, h1, h2⟩ := h
      exact fst v (yields_of hst hw h1) h2
    · rw [if_neg hw] at h
      exact fst undef (.inr ⟨by simpa using hw, rfl⟩) h
theorem schedY_held (hs : Region.noSelect ops = true) (hQ : ∀ c a d v w, Q (.panic c) (Act.put a d v) w → Q (.panic c) a w) (hG : ∀ w, G w w) (hT : ∀ w1 w2 w3, G w1 w2 → G w2 w3 → G w1 w3) (last : List Nat) :
    ∀ (ps : List (List Nat × Nat)) (listed : Array Bool) (a : Act) (w : World), schedB md ops ps last listed = true →
      wpSchedY N P ops G Q (ps.map fun p => (p.1.filterMap (ops[·]?), (ops[p.2]?).getD default)) (last.filterMap (ops[·]?)) a w → anyY N P md ops Q (G w) (countS ps + last.length) listed a w
  | [], listed, a, w, hB, h => by
    unfold schedB at hB
    split at hB
    case h_2 => exact absurd hB (by simp)
    rename_i l' hl'
    simp only [countS]
    exact seg_takeY hs hQ hG last listed l' 0 a hl' h (fun a' hk => ⟨by simpa using hB, hk⟩)
  | (is, b) :: rest, listed, a, w, hB, h => by
    unfold schedB at hB
    split at hB
    case h_2 => exact absurd hB (by simp)
    rename_i l' hl'
    simp only [Bool.and_eq_true, beq_iff_eq] at hB
    obtain ⟨⟨hr, hsm⟩, hB⟩ := hB
    obtain ⟨o, ho⟩ := Option.isSome_iff_exists.1 hsm
    simp only [List.map_cons, ho, Option.getD_some] at h
    unfold wpSchedY at h
    have e : countS ((is, b) :: rest) + last.length = (countS rest + last.length + 1) + is.length := by simp only [countS]; omega
    rw [e]
    refine seg_takeY hs hQ hG is listed l' _ a hl' h (fun a' hk => ⟨fun h0 => by rw [hr] at h0; exact absurd h0 (by simp), fun i hi => ?_⟩)
    rw [hr, List.mem_singleton] at hi
    subst hi
    have h2 := hk (fun a' w' => G w w' ∧ anyY N P md ops Q (G w) (countS rest + last.length) (l'.setIfInBounds i true) a' w')
      (show Hid _ from fun a'' w'' hg hw => ⟨hg, anyY_mono (fun w3 h3 => hT _ _ _ hg h3) _ _ _ _ (schedY_held hs hQ hG hT last rest _ a'' w'' hB hw)⟩)
    unfold opY wpOpIn
    simp only [ho]
    by_cases hw : Region.wanted o (yielded ops a'.tmps) = true
    · rw [if_pos hw] at h2 ⊢
      exact h2.elim oper_wide id
    · rw [if_neg hw] at h2 ⊢
      exact ⟨fun f _ => trivial, h2⟩
theorem region_schedY {id : Nat} {a : Act} {w : World} {l : List Oper} (ps : List (List Nat × Nat)) (last : List Nat) (hm : P.follows .mixedOrders = true) (hs : Region.noSelect l.toArray = true) (hB : schedB .any l.toArray ps last (Array.replicate l.length false) = true) (hc : countS ps + last.length = l.length)
    (hG : ∀ w, G w w) (hT : ∀ w1 w2 w3, G w1 w2 → G w2 w3 → G w1 w3)
    (h : wpSchedY 3 P l.toArray G (NoPanic Q) (stages l ps) (pickO l last) a w.drew) : (Code.region id l.toArray true).wp P Q a w := by
  refine wp_region_noPanic ?_
  refine (wpIn_wide (n := 3)).1 (wpIn_region_any hm (anyY_in (S := G w.drew) _ _ _ _ ?_))
  rw [stages_eq, pickO_eq] at h
  have := schedY_held hs (fun _ _ _ _ _ h => h) hG hT last ps _ a w.drew hB h
  rw [hc] at this
  simpa using this
theorem schedY_step {seg : List Oper} {b : Oper} {rest : List (List Oper × Oper)} {last : List Oper} {a : Act} {w : World}
    (h : wpQuiet P ops (fun w' => ∃ m : Fut G w, w' = m.v) (fun a' => ∀ K : Act → World → Prop, Hid (∀ a'' w'', G w w'' → wpSchedY N P ops G Q rest last a'' w'' → K a'' w'') → if Region.wanted b (yielded ops a'.tmps) = true then (b.wp P a' w K Q ∨ b.wpIn Fence.wide N P a' w K Q) else K (a'.put b.dst undef) w) seg a) :
    wpSchedY N P ops G Q ((seg, b) :: rest) last a w := h
theorem schedY_last {last : List Oper} {a : Act} {w : World} (h : wpQuiet P ops (fun w' => ∃ m : Fut G w, w' = m.v) (fun a' => Q .normal a' w) last a) : wpSchedY N P ops G Q [] last a w := h
end
end Go.Proofs.YtjpfmkfikidgkaaGreat

set_option linter.unusedVariables false
set_option linter.unusedSimpArgs false
namespace Go.Proofs.YtjpfmkfikidgkaaGreat
open Go.RowKit
theorem Parts.app {w : World} : ∀ {L2 : List Part} {F2 : List Nat} {L1 : List Part} {F1 : List Nat}, Parts w L2 F2 → Parts w L1 F1 → (∀ b ∈ F2, b ∉ F1) → Parts w (L2 ++ L1) (F2 ++ F1)
  | [], F2, L1, F1, h2, h1, _ => by unfold Parts at h2; subst h2; exact h1
  | P :: L2, F2, L1, F1, h2, h1, hd => by
    obtain ⟨g, Fa, Fb, rfl, ha, hb, hab⟩ := h2
    refine ⟨g, Fa, Fb ++ F1, by rw [List.append_assoc], ha, Parts.app hb h1 (fun b hb' => hd b (by simp [hb'])), fun b hb' hc => ?_⟩
    rcases List.mem_append.1 hc with hc | hc
    · exact hab b hb' hc
    · exact hd b (by simp [hb']) hc
theorem Parts.split {w : World} : ∀ {L2 L1 : List Part} {F : List Nat}, Parts w (L2 ++ L1) F → ∃ F2 F1, F = F2 ++ F1 ∧ Parts w L2 F2 ∧ Parts w L1 F1 ∧ ∀ b ∈ F2, b ∉ F1
  | [], L1, F, h => ⟨[], F, rfl, rfl, h, by simp⟩
  | P :: L2, L1, F, h => by
    obtain ⟨g, Fa, Fb, rfl, ha, hb, hab⟩ := h
    obtain ⟨F2, F1, rfl, h2, h1, hd⟩ := Parts.split hb
    refine ⟨Fa ++ F2, F1, by rw [List.append_assoc], ⟨g, Fa, F2, rfl, ha, h2, fun b hb hc => hab b hb (by simp [hc])⟩, h1, fun b hb hc => ?_⟩
    rcases List.mem_append.1 hb with hb | hb
    · exact hab b hb (by simp [hc])
    · exact hd b hb hc
/-- Objects made behind others. -/
theorem Sep.stack {w0 w1 w2 : World} {L1 L2 : List Part} (h1 : Sep w0 w1 L1) (h2 : Sep w1 w2 L2) : Sep w0 w2 (L2 ++ L1) := by
  obtain ⟨F1, p1, m1, b1⟩ := h1.out
  obtain ⟨F2, p2, m2, b2⟩ := h2.out
  refine ⟨F2 ++ F1, p2.app (p1.keep m2 (by simp)) (fun b hb hc => ?_), m1.trans m2 (by simp), fun b hb => ?_⟩
  · have := p1.lt b hc
    have := b2 b hb
    omega
  · rcases List.mem_append.1 hb with hb | hb
    · exact Nat.le_trans m1.size (b2 b hb)
    · exact b1 b hb
theorem Sep.opened {w0 w : World} {P : Part} {L R : List Part} (h : Sep w0 w (P :: R)) (hp : ∀ F, P w F → Parts w L F) : Sep w0 w (L ++ R) := by
  obtain ⟨F, ⟨g, F1, F2, rfl, h1, h2, h3⟩, h4, h5⟩ := h.out
  exact ⟨F1 ++ F2, (hp F1 h1).app h2 h3, h4, h5⟩
theorem Sep.shut {w0 w : World} {P : Part} [g : Good P] {L R : List Part} (h : Sep w0 w (L ++ R)) (hp : ∀ F, Parts w L F → P w F) : Sep w0 w (P :: R) := by
  obtain ⟨F, hF, h4, h5⟩ := h.out
  obtain ⟨F2, F1, rfl, h2, h1, hd⟩ := Parts.split hF
  exact ⟨F2 ++ F1, ⟨g, F2, F1, rfl, hp F2 h2, h1, hd⟩, h4, h5⟩
end Go.Proofs.YtjpfmkfikidgkaaGreat

set_option linter.unusedVariables false
set_option linter.unusedSimpArgs false
namespace Go.Proofs.YtjpfmkfikidgkaaGreat
open Go.RowKit
/-- A block that is no cells. -/
def ObjP (b : Nat) (o : Obj) : Part := fun w F => w.heap[b]? = some o ∧ F = [b]
instance (b : Nat) (o : Obj) : Good (ObjP b o) where
  lt h b' hb := by obtain ⟨h, rfl⟩ := h; rw [List.mem_singleton.1 hb]; exact (Array.getElem?_eq_some_iff.1 h).1
  keep h m hd := ⟨(m.block _ (Array.getElem?_eq_some_iff.1 h.1).1 (hd _ (by rw [h.2]; simp))).trans h.1, h.2⟩
theorem Sep.obj {w0 w : World} {b : Nat} {o : Obj} {L : List Part} (h : Sep w0 w (ObjP b o :: L)) : w.heap[b]? = some o := by
  obtain ⟨F, h1, _⟩ := h.first
  exact h1.1
theorem Mod.putObj (w : World) (b : Nat) (o : Obj) : Mod [b] w (w.putObj b o) := ⟨rfl, rfl, rfl, by simp, fun i hi hn => World.putObj_heap_other (by simpa using hn)⟩
theorem Sep.putObj {w0 w : World} {b : Nat} {o : Obj} {L : List Part} (h : Sep w0 w (ObjP b o :: L)) (o' : Obj) : Sep w0 (w.putObj b o') (ObjP b o' :: L) := by
  obtain ⟨F, ⟨h1, rfl⟩, h2, h3⟩ := h.first
  exact h3 _ _ [b] ⟨World.putObj_heap_same (Array.getElem?_eq_some_iff.1 h1).1, rfl⟩ (Mod.putObj w b o') (fun b hb => .inl hb)
theorem Sep.newObj {w0 w : World} {L : List Part} (h : Sep w0 w L) (o : Obj) : Sep w0 (w.alloc o) (ObjP w.heap.size o :: L) :=
  h.add ((Mod.refl [] w).alloc _) (F := [w.heap.size]) ⟨World.alloc_heap_new w o, rfl⟩ (by simp)
/-- Some objects as one. -/
def AllP (L : List Part) : Part := fun w F => Parts w L F
instance (L : List Part) : Good (AllP L) where
  lt h := Parts.lt h
  keep h m hd := Parts.keep m h hd
theorem Sep.unall {w0 w : World} {L R : List Part} (h : Sep w0 w (AllP L :: R)) : Sep w0 w (L ++ R) := h.opened (fun _ h => h)
theorem Sep.all {w0 w : World} {L R : List Part} (h : Sep w0 w (L ++ R)) : Sep w0 w (AllP L :: R) := h.shut (fun _ h => h)
/-- One of several. -/
def ExP {C : Type} (f : C → Part) : Part := fun w F => ∃ c, f c w F
instance {C : Type} (f : C → Part) [g : ∀ c, Good (f c)] : Good (ExP f) where
  lt h b hb := by obtain ⟨c, h⟩ := h; exact (g c).lt h b hb
  keep h m hd := by obtain ⟨c, h⟩ := h; exact ⟨c, (g c).keep h m hd⟩
theorem Sep.ex {w0 w : World} {C : Type} {f : C → Part} [g : ∀ c, Good (f c)] {R : List Part} (h : Sep w0 w (ExP f :: R)) : ∃ c, Sep w0 w (f c :: R) := by
  obtain ⟨F, ⟨_, F1, F2, rfl, ⟨c, h1⟩, h2, h3⟩, h4, h5⟩ := h.out
  exact ⟨c, ⟨F1 ++ F2, ⟨g c, F1, F2, rfl, h1, h2, h3⟩, h4, h5⟩⟩
theorem Sep.toEx {w0 w : World} {C : Type} {f : C → Part} [g : ∀ c, Good (f c)] {R : List Part} (c : C) (h : Sep w0 w (f c :: R)) : Sep w0 w (ExP f :: R) := by
  obtain ⟨F, ⟨_, F1, F2, rfl, h1, h2, h3⟩, h4, h5⟩ := h.out
  exact ⟨F1 ++ F2, ⟨inferInstance, F1, F2, rfl, ⟨c, h1⟩, h2, h3⟩, h4, h5⟩
/-- An object of which something holds. -/
def IfP (c : Prop) (P : Part) : Part := fun w F => c ∧ P w F
instance (c : Prop) (P : Part) [g : Good P] : Good (IfP c P) where
  lt h := g.lt h.2
  keep h m hd := ⟨h.1, g.keep h.2 m hd⟩
theorem Sep.ifs {w0 w : World} {c : Prop} {P : Part} [g : Good P] {R : List Part} (h : Sep w0 w (IfP c P :: R)) : c ∧ Sep w0 w (P :: R) := by
  obtain ⟨F, ⟨_, F1, F2, rfl, ⟨hc, h1⟩, h2, h3⟩, h4, h5⟩ := h.out
  exact ⟨hc, ⟨F1 ++ F2, ⟨g, F1, F2, rfl, h1, h2, h3⟩, h4, h5⟩⟩
theorem Sep.toIf {w0 w : World} {c : Prop} {P : Part} [g : Good P] {R : List Part} (hc : c) (h : Sep w0 w (P :: R)) : Sep w0 w (IfP c P :: R) := by
  obtain ⟨F, ⟨_, F1, F2, rfl, h1, h2, h3⟩, h4, h5⟩ := h.out
  exact ⟨F1 ++ F2, ⟨inferInstance, F1, F2, rfl, ⟨hc, h1⟩, h2, h3⟩, h4, h5⟩
/-- Nothing is it. -/
def NoP : Part := fun _ _ => False
instance : Good NoP := ⟨fun h => h.elim, fun h => h.elim⟩
theorem Sep.no {w0 w : World} {R : List Part} (h : Sep w0 w (NoP :: R)) : False := by
  obtain ⟨F, h1, _⟩ := h.first
  exact h1
/-- AN ITERATOR: R pre is what it has (and has of others) behind pre; G x is what comes with x, and is given away; T: what may come; S: what has come at its end; Sp: where it was stopped. -/
def ItSep {α : Type} (P : Program) (gf : Nat) (lb : Array Value) (encs : α → Array Value) (w0 : World) (G : α → List Part) (R : List α → List Part) (T S Sp : List α → Prop) : Prop :=
  ∀ (O Ox : List α → Part) (l : Nat) (W : World), (∀ p, Good (O p)) → (∀ p, Good (Ox p)) →
    (∀ pre x R' W1, T (pre ++ [x]) → Sep w0 W1 (O pre :: (G x ++ R')) → YieldAt Fence.wide 2 P l (encs x) W1 fun e W' =>
      (e = .returned (.bool true) ∧ Sep w0 W' (O (pre ++ [x]) :: R')) ∨ (e = .returned (.bool false) ∧ Sep w0 W' (Ox (pre ++ [x]) :: R'))) →
    Sep w0 W (O [] :: R []) →
    Calls P gf (#[.func (.yield l) #[] #[]] ++ lb) W fun e W' => (∃ v, e = .returned v) ∧ ((∃ xs, S xs ∧ Sep w0 W' (O xs :: R xs)) ∨ (∃ pre, Sp pre ∧ Sep w0 W' (Ox pre :: R pre)))
/-- How a round's body may be left. -/
def roundEnd {α : Type} (w0 : World) (U : List α → Part) (X : Code → List α → Part) (xs : List α) (R : List Part) : Exit → Act → World → Prop
  | .normal, _, W => Sep w0 W (U xs :: R)
  | .ret, _, W => Sep w0 W (X .ret xs :: R)
  | .exit id, _, W => Sep w0 W (X (.exit id) xs :: R)
  | .goto t, _, W => Sep w0 W (X (.goto t) xs :: R)
  | .panic _, _, _ => False
  | .outgrown, _, _ => False
theorem Sep.mid {w0 w : World} {A B C : Part} {L R : List Part} (h : Sep w0 w (A :: B :: C :: (L ++ R))) : Sep w0 w (C :: (L ++ (A :: B :: R))) :=
  h.perm (by
    refine (List.perm_middle (l₁ := [A, B]) (a := C) (l₂ := L ++ R)).trans (List.Perm.cons C ?_)
    show ([A, B] ++ (L ++ R)).Perm (L ++ ([A, B] ++ R))
    rw [← List.append_assoc, ← List.append_assoc]
    exact List.Perm.append_right R List.perm_append_comm)
/-- **for .. := range g { .. }** -/
theorem range_sep {α : Type} {P : Program} {g : Operand} {ps : Array Tmp} {assign body : Code} {Q : Exit → Act → World → Prop} {a : Act} {w : World} {gf : Nat} {lb : Array Value}
    {encs : α → Array Value} {w0 : World} {G : α → List Part} {R : List α → List Part} {T S Sp : List α → Prop}
    (hit : ItSep P gf lb encs w0 G R T S Sp) (hg : a.eval g = .func (.func gf) #[] lb) (eg : ∀ args w, (callFunc gf args).run P w = .ok (.enter gf args) w) (hps : ∀ x, (encs x).size = ps.size)
    (U : List α → Part) (X : Code → List α → Part) (U' : List α → α → Act → Part) (hU : ∀ p, Good (U p)) (hX : ∀ c p, Good (X c p)) (h0 : Sep w0 w (U [] :: R []))
    (hassign : ∀ (l : Nat) (pre : List α) (x : α) (R' : List Part) (W : World), T (pre ++ [x]) → Sep w0 W (U pre :: (G x ++ R')) →
      assign.wpIn (Fence.wide.inRound l) 2 P (fun e a1 W1 => e = .normal ∧ Sep w0 W1 (U' pre x a1 :: R')) { tmps := (ps.zip (encs x)).foldl (fun t (p, v) => t.setIfInBounds p v) a.tmps, defers := [] } W)
    (hbody : ∀ (l : Nat) (pre : List α) (x : α) (R' : List Part) (a1 : Act) (W : World), T (pre ++ [x]) → Sep w0 W (U' pre x a1 :: R') → body.wpIn (Fence.wide.inRound l) 2 P (roundEnd w0 U X (pre ++ [x]) R') a1 W)
    (hdone : ∀ (D : Nat) (xs : List α) (W : World), S xs → Sep w0 W (ObjP D (.deferred (some [])) :: U xs :: R xs) → Q .normal { a with defers := { target := .collected D, args := #[] } :: a.defers } W)
    (hstop : ∀ (D : Nat) (c : Code) (pre : List α) (W : World), Sp pre → Sep w0 W (ObjP D (.deferred (some [])) :: X c pre :: R pre) → c.wp P Q { a with defers := { target := .collected D, args := #[] } :: a.defers } W) :
    (Code.rangeFunc g ps assign body).wp P Q a w := by
  refine (wpIn_wide (n := 3)).1 (wpIn_rangeFunc ?_)
  intro fn hfn
  obtain ⟨rec, hrec⟩ : ∃ rec : LoopState → Option Code → Loop, rec = fun st pe => { state := st, pending := pe, fn, tmps := a.tmps, params := ps, assign, body, defers := w.heap.size } := ⟨_, rfl⟩
  obtain ⟨W1, hW1⟩ : ∃ W1, (w.alloc (.deferred (some []))).alloc (.loop (rec .ready none)) = W1 := ⟨_, rfl⟩
  obtain ⟨l, hl⟩ : ∃ l, l = w.heap.size + 1 := ⟨_, rfl⟩
  obtain ⟨D, hD⟩ : ∃ D, D = w.heap.size := ⟨_, rfl⟩
  have hS1 : Sep w0 W1 (ObjP l (.loop (rec .ready none)) :: ObjP D (.deferred (some [])) :: U [] :: R []) := by
    have := (h0.newObj (.deferred (some []))).newObj (.loop (rec .ready none))
    rw [World.size_alloc, ← hl, ← hD, hW1] at this
    exact this
  refine ⟨l, [{ target := .collected D, args := #[] }], W1, { target := .fn (.func gf) lb, args := #[.func (.yield l) #[] #[]] }, W1, gf, #[.func (.yield l) #[] #[]] ++ lb, W1, ?_, ?_, ?_, ?_, fun h => by simp [Fence.wide] at h, ?_⟩
  · rw [← hW1, hrec, hl, hD]; exact run_enterLoop_outer _ _ _ _ _
  · simp only [resolve, hg]
    simp [go_sem]
  · intro f' hf'; trivial
  · simp [invoke, go_sem, eg]
  · have hGU : ∀ p, Good (U p) := hU
    refine callsIn_wide.2 ((hit (fun p => AllP [ObjP l (.loop (rec .ready none)), ObjP D (.deferred (some [])), U p]) (fun p => ExP (fun c => AllP [ObjP l (.loop (rec .done (some c))), ObjP D (.deferred (some [])), X c p])) l W1 (fun _ => inferInstance) (fun _ => inferInstance) ?_ (Sep.all (L := [_, _, _]) hS1)).mono ?_)
    · intro pre x R' W hT hSr
      have hS : Sep w0 W (ObjP l (.loop (rec .ready none)) :: ObjP D (.deferred (some [])) :: U pre :: (G x ++ R')) := hSr.unall
      have hy := run_yield (P := P) (args := encs x) hS.obj (by rw [hrec]; exact hps x)
      rw [hrec] at hy
      refine ⟨fn, _, assign, body, hy, roundIn_of_wpIn trivial ?_⟩
      refine wpIn_mono (hassign l pre x (ObjP l (.loop (rec .ready none)) :: ObjP D (.deferred (some [])) :: R') W hT hS.mid) ?_
      rintro e a1 W2 ⟨rfl, hS2⟩
      have hS3 := hS2.swap
      refine ⟨_, run_beginRound hS3.obj (by rw [hrec]), ?_⟩
      refine wpIn_mono (hbody l pre x (ObjP l (.loop { rec .ready none with state := .busy }) :: ObjP D (.deferred (some [])) :: R') a1 _ hT (hS3.putObj _).swap) ?_
      have fin : ∀ (jump : Option Code) (V : Part) (W3 : World), Sep w0 W3 (V :: ObjP l (.loop { rec .ready none with state := .busy }) :: ObjP D (.deferred (some [])) :: R') →
          (Instr.endRound l jump).run P W3 = .ok (.bool jump.isNone) (W3.putObj l (.loop (rec (if jump.isNone then .ready else .done) jump))) ∧
          Sep w0 (W3.putObj l (.loop (rec (if jump.isNone then .ready else .done) jump))) (ObjP l (.loop (rec (if jump.isNone then .ready else .done) jump)) :: ObjP D (.deferred (some [])) :: V :: R') := fun jump V W3 h3 => by
        have := run_endRound (P := P) jump h3.swap.obj
        rw [hrec] at this ⊢
        rw [hrec] at h3
        exact ⟨this, ((h3.swap.putObj _).swap.back2)⟩
      rintro e a3 W3 hp
      cases e with
      | normal =>
        obtain ⟨hr, h4⟩ := fin none _ W3 hp
        exact ⟨_, _, hr, .inl ⟨rfl, Sep.all (L := [_, _, _]) h4⟩⟩
      | ret =>
        obtain ⟨hr, h4⟩ := fin (some .ret) _ W3 hp
        exact ⟨_, _, hr, .inr ⟨rfl, Sep.toEx Code.ret (Sep.all (L := [_, _, _]) h4)⟩⟩
      | exit id =>
        obtain ⟨hr, h4⟩ := fin (some (.exit id)) _ W3 hp
        exact ⟨_, _, hr, .inr ⟨rfl, Sep.toEx (Code.exit id) (Sep.all (L := [_, _, _]) h4)⟩⟩
      | goto t =>
        obtain ⟨hr, h4⟩ := fin (some (.goto t)) _ W3 hp
        exact ⟨_, _, hr, .inr ⟨rfl, Sep.toEx (Code.goto t) (Sep.all (L := [_, _, _]) h4)⟩⟩
      | panic ch => exact hp.elim
      | outgrown => exact hp.elim
    · rintro e W2 ⟨⟨v, rfl⟩, (⟨xs, hS, hSep⟩ | ⟨pre, hSp, hSep⟩)⟩
      · have h5 : Sep w0 W2 (ObjP l (.loop (rec .ready none)) :: ObjP D (.deferred (some [])) :: U xs :: R xs) := hSep.unall
        refine ⟨none, _, by have := run_endLoop (P := P) h5.obj (by rw [hrec]; simp); rw [hrec] at this; exact this, ?_⟩
        exact hdone D xs _ hS (h5.putObj _).tail
      · obtain ⟨c, hSep⟩ := hSep.ex
        have h5 : Sep w0 W2 (ObjP l (.loop (rec .done (some c))) :: ObjP D (.deferred (some [])) :: X c pre :: R pre) := hSep.unall
        refine ⟨some c, _, by have := run_endLoop (P := P) h5.obj (by rw [hrec]; simp); rw [hrec] at this; exact this, ?_⟩
        exact wpIn_wide.2 (hstop D c pre _ hSp (h5.putObj _).tail)
end Go.Proofs.YtjpfmkfikidgkaaGreat

set_option linter.unusedVariables false
set_option linter.unusedSimpArgs false
namespace Go.Proofs.YtjpfmkfikidgkaaGreat
open Go.RowKit
namespace Edge
def restV (n : Int) (a : Option Addr) (m c : Nat) (fa : Option Addr) (fc : Nat) : Value := .agg #[.int .i64 n, .slice a m c, .slice fa m fc]
/-- The reference's flow f of the edges L: what is read of it. -/
structure RX (w : World) (L : List Ed) (f : List Int) (a : Option Addr) (c : Nat) (fa : Option Addr) (fc : Nat) : Prop where
  l : Rd w 3 (.slice a L.length c) L.length (flat encEd L)
  f : Rd w 1 (.slice fa L.length fc) L.length (i64s f)
theorem RX.still {w w' : World} {L : List Ed} {f : List Int} {a : Option Addr} {c : Nat} {fa : Option Addr} {fc : Nat} (h : RX w L f a c fa fc) (m : Mod [] w w') : RX w' L f a c fa fc := ⟨h.l.still m, h.f.still m⟩
theorem RX.len {w : World} {L : List Ed} {f : List Int} {a : Option Addr} {c : Nat} {fa : Option Addr} {fc : Nat} (h : RX w L f a c fa fc) : f.length = L.length := by
  have := h.f.1
  rw [i64s_len] at this
  omega
theorem RX.fcell {w : World} {L : List Ed} {f : List Int} {a : Option Addr} {c : Nat} {fa : Option Addr} {fc k : Nat} (h : RX w L f a c fa fc) (hk : k < L.length) : ∃ g o, fa = some ⟨g, o, none⟩ ∧ g < w.heap.size ∧ ∀ w', Mod [] w w' → w'.cell? ⟨g, o + k, none⟩ = some (.int .i64 (f.getD k 0)) := by
  obtain ⟨g, o, e, hg, hc⟩ := rd_cell h.f hk
  refine ⟨g, o, e, hg, fun w' m => hc w' k _ m ?_⟩
  have hf : k < f.length := by rw [h.len]; exact hk
  refine i64s_got ?_
  rw [List.getD_eq_getElem?_getD, List.getElem?_eq_getElem hf]; rfl
set_option maxRecDepth 100000 in
set_option maxHeartbeats 2000000 in
theorem xnew23 (n : Nat) {L : List Ed} {a : Option Addr} {c : Nat} (w : World) (hl : L.length ≤ 1048576) :
    Calls Tryz.prog 17 #[netV n a L.length c] w fun e w' => ∃ fa fc, e = .returned (restV n a L.length c fa fc) ∧ Made w w' 2 1 fa L.length fc (i64s (noF L)) := by
  obtain ⟨m, hm⟩ : ∃ m, L.length = m := ⟨_, rfl⟩
  have hm' := Lib.hid hm
  rw [hm] at hl ⊢
  have hB := ((Has.new w [.int .i64 n, .slice a m c] 32).alloc (.cells #[.int .i64 0, .slice none 0 0, .slice none 0 0] 35))
  have hB' := Lib.hid hB
  have hmk := make_run (P := Tryz.prog) 33 2 (.int .i64 0) 8 Tryz.underlying33 infoI64b rfl (by omega) m (by omega)
  have hmod : Hid (Mod [] w ((w.alloc (.cells #[.int .i64 n, .slice a m c] 32)).alloc (.cells #[.int .i64 0, .slice none 0 0, .slice none 0 0] 35))) := Lib.hid (((Mod.refl [] w).alloc _).alloc _)
  unfold netV restV
  clear hB hm
  go_enter Tryz.func17, Tryz.ntmps17
  go_upto_region 1 with fail
  have hA := Lib.hid (((((Sep.empty w).box [.int .i64 n, .slice a m c] 32).box [.int .i64 0, .slice none 0 0, .slice none 0 0] 35).still (Mod.refl [] _).drew))
  have f0 := KC.one (w := ((w.alloc (.cells #[.int .i64 n, .slice a m c] 32)).alloc (.cells #[.int .i64 0, .slice none 0 0, .slice none 0 0] 35)).drew) (L := [(⟨w.heap.size, 0, none⟩, .int .i64 n), (⟨w.heap.size, 1, none⟩, .slice a m c)]) ((hA.out.blkAt 1 rfl).cell 0 rfl) (by simp)
  have f1 := KC.one (w := ((w.alloc (.cells #[.int .i64 n, .slice a m c] 32)).alloc (.cells #[.int .i64 0, .slice none 0 0, .slice none 0 0] 35)).drew) (L := [(⟨w.heap.size, 0, none⟩, .int .i64 n), (⟨w.heap.size, 1, none⟩, .slice a m c)]) ((hA.out.blkAt 1 rfl).cell 1 rfl) (by simp)
  have hS : Hid (Sep w (((w.alloc (.cells #[.int .i64 n, .slice a m c] 32)).alloc (.cells #[.int .i64 0, .slice none 0 0, .slice none 0 0] 35)).alloc (.cells (madeCells #[.int .i64 0] m) 2)).drew [Row 2 1 m (.slice (some ⟨w.heap.size + 1 + 1, 0, none⟩) m m) (i64s (noF L)), Blk (w.heap.size + 1) [.int .i64 0, .slice none 0 0, .slice none 0 0] 35, Blk w.heap.size [.int .i64 n, .slice a m c] 32]) := Lib.hid (by
    have h5 := hA.out.made (made_made _ 2 (.int .i64 0) m (by omega))
    have e : i64s (noF L) = List.replicate m (.int .i64 0) := by unfold noF; rw [hm'.out]; simp [i64s]
    rw [e]
    simp only [World.size_alloc] at h5
    rw [show ∀ W : World, W.drew.heap.size = W.heap.size from fun _ => rfl] at h5
    simp only [World.size_alloc] at h5
    exact h5)
  clear hm' hmod hB' hA
  refine region_sched (G := KC [(⟨w.heap.size, 0, none⟩, .int .i64 n), (⟨w.heap.size, 1, none⟩, .slice a m c)]) [([0,1,2,3],4), ([5],6)] [] (by kernel_rfl) (by kernel_rfl) (by kernel_rfl) rfl (KC.refl _) (KC.trans _) ?_
  simp only [stages, pickO, nthO, headO, List.append_eq, List.cons_append, List.nil_append]
  refine sched_step ?_
  repeat (go_big_quiet_step (fail))
  refine wpQuiet_nil ?_
  intro K hK
  rw [if_pos (by rfl)]
  go_simp
  refine hK.out _ _ (fun p hp _ => by
    simp only [List.mem_cons, List.mem_nil_iff, or_false] at hp
    rcases hp with rfl | rfl
    · exact (hS.out.blkAt 2 rfl).cell 0 rfl
    · exact (hS.out.blkAt 2 rfl).cell 1 rfl) ?_
  clear hK K hmk f0 f1
  generalize (((w.alloc (.cells #[.int .i64 n, .slice a m c] 32)).alloc (.cells #[.int .i64 0, .slice none 0 0, .slice none 0 0] 35)).alloc (.cells (madeCells #[.int .i64 0] m) 2)).drew = W1 at *
  generalize w.heap.size + 1 + 1 = g at *
  generalize w.heap.size + 1 = B2 at *
  generalize w.heap.size = B at *
  have hb := hS.out.blkAt 1 rfl
  have k0 := hb.cell 0 rfl
  have k1 := hb.cell 1 rfl
  have k2 := hb.cell 2 rfl
  have z0 := hb.free 0
  have z1 := hb.free 1
  have z2 := hb.free 2
  have bl := hb.lt
  have hS3 := Lib.hid (((hS.out.setAt 1 rfl 0 (.int .i64 n)).setAt 1 rfl 1 (.slice a m c)).setAt 1 rfl 2 (.slice (some ⟨g, 0, none⟩) m m))
  clear hb
  refine sched_step ?_
  repeat (go_big_quiet_step (fail))
  refine wpQuiet_nil ?_
  intro K hK
  rw [if_pos (by rfl)]
  go_simp
  refine hK.out _ _ (fun p hp _ => by
    simp only [List.mem_cons, List.mem_nil_iff, or_false] at hp
    rcases hp with rfl | rfl
    · exact (hS3.out.blkAt 2 rfl).cell 0 rfl
    · exact (hS3.out.blkAt 2 rfl).cell 1 rfl) ?_
  clear hK K k0 k1 k2 z0 z1 z2 bl
  refine sched_last ?_
  refine wpQuiet_nil ?_
  have hb := hS3.out.blkAt 1 rfl
  have k0 := hb.cell 0 rfl
  have k1 := hb.cell 1 rfl
  have k2 := hb.cell 2 rfl
  have hfin := Lib.hid hS3.out.toMade
  clear hb hS hS3
  go_wp2_with fail
  generalize ((W1.setCell ⟨B2, 0, none⟩ (.int .i64 n)).setCell ⟨B2, 1, none⟩ (.slice a m c)).setCell ⟨B2, 2, none⟩ (.slice (some ⟨g, 0, none⟩) m m) = wf at *
  refine bodyPost_ret (v := .agg #[.int .i64 n, .slice a m c, .slice (some ⟨g, 0, none⟩) m m]) ?_ rfl ⟨_, _, rfl, hfin.out⟩
  simp [results, Tryz.results17, go_sem, k0, k1, k2]
set_option maxRecDepth 100000 in
set_option maxHeartbeats 2000000 in
theorem xleft23 {n : Nat} {L : List Ed} {f : List Int} {a : Option Addr} {c : Nat} {fa : Option Addr} {fc : Nat} {w : World} (h : RX w L f a c fa fc) (hG : GOk n L) (hF : FB L f) (i : Int) (hi : i ≤ 9223372036854775807) :
    Calls Tryz.prog 109 #[restV n a L.length c fa fc, .int .i64 i] w fun e w' => e = .returned (.int .i64 (leftI L f i)) ∧ Mod [] w w' := by
  have hmod := Lib.hid ((Mod.refl [] w).alloc (.cells #[.int .i64 n, .slice a L.length c, .slice fa L.length fc] 35))
  have hl := hG.len
  have htl := Lib.hid (rtail_any n (h.l.still hmod.out) hl i hi)
  have hB := Has.new w [.int .i64 n, .slice a L.length c, .slice fa L.length fc] 35
  have hB' := Lib.hid hB
  have b0 := hB.cell 0 rfl
  have b1 := hB.cell 1 rfl
  have bl := hB.lt
  have h' := Lib.hid h
  unfold netV at htl
  unfold restV
  clear h hB
  by_cases hin : 0 ≤ i ∧ i < 2 * L.length
  · obtain ⟨k, rfl⟩ := Int.eq_ofNat_of_zero_le hin.1
    have h1 : k < 2 * L.length := by omega
    have ht : tailI L (k : Int) = tailE L k := by unfold tailI; rw [if_neg (by omega), Int.toNat_natCast]
    have hc : leftI L f (k : Int) = leftE L f k := by unfold leftI; rw [if_pos (by omega), Int.toNat_natCast]
    have ht2 := tail_in hG h1
    rw [ht] at htl
    rw [hc]
    have hk : k / 2 < L.length := by omega
    obtain ⟨g, o, rfl, hg, hcell⟩ := ed_cells h'.out.l hk
    obtain ⟨gf, of, rfl, hgf, hfcell⟩ := h'.out.fcell hk
    have hcl := Lib.hid (fun W m => (hcell W m).2.2)
    have hcf := Lib.hid hfcell
    have et := capE_get h1
    have hcap := capE_le hG k
    have hfb := hF.get (k / 2) hk
    have e5 : leftE L f k = if k % 2 = 0 then L[k / 2].2.2 - f.getD (k / 2) 0 else L[k / 2].2.2 + f.getD (k / 2) 0 := by
      unfold leftE; rw [et]
    rw [et] at hcap
    rw [e5]
    generalize f.getD (k / 2) 0 = y at *
    generalize L[k / 2] = x at *
    obtain ⟨xu, xv, xw⟩ := x
    simp only at et hcl hcap hfb ⊢
    generalize tailE L k = t at *
    have hk1 : (k : Int) / 2 < L.length := by omega
    have ht3 : 0 ≤ t := ht2.1
    clear et hcell hfcell hin ht hc ht2 hi h' e5 hF
    by_cases h2 : k % 2 = 0
    · have t1 : ((k : Int) % 2 == 0) = true := by simp; omega
      rw [if_pos h2]
      clear h2
      go_enter Tryz.func109, Tryz.ntmps109
      go_wp2_with fail
      refine htl.out.mono ?_
      rintro e w1 ⟨rfl, hm⟩
      have hB1 := hB'.out.keep hm (by simp)
      have c1 := hB1.cell 1 rfl
      have c2 := hB1.cell 2 rfl
      have cl := hB1.lt
      have q2 := hcl.out w1 (hmod.out.trans hm (by simp))
      have q3 := hcf.out w1 (hmod.out.trans hm (by simp))
      have hgl : g < w1.heap.size := Nat.lt_of_lt_of_le hg (hmod.out.trans hm (by simp)).size
      have hgl2 : gf < w1.heap.size := Nat.lt_of_lt_of_le hgf (hmod.out.trans hm (by simp)).size
      have hm' := Lib.hid (hmod.out.trans hm (by simp))
      clear b0 b1 bl hB1 hm htl hcl hcf
      try dsimp only
      go_upto_region 4 with fail
      go_quiet (fail)
      go_wp2_with fail
      go_ret
      exact ⟨rfl, hm'.out.drewN _⟩
    · have t1 : ((k : Int) % 2 == 0) = false := by simp; omega
      rw [if_neg h2]
      clear h2
      go_enter Tryz.func109, Tryz.ntmps109
      go_wp2_with fail
      refine htl.out.mono ?_
      rintro e w1 ⟨rfl, hm⟩
      have hB1 := hB'.out.keep hm (by simp)
      have c1 := hB1.cell 1 rfl
      have c2 := hB1.cell 2 rfl
      have cl := hB1.lt
      have q2 := hcl.out w1 (hmod.out.trans hm (by simp))
      have q3 := hcf.out w1 (hmod.out.trans hm (by simp))
      have hgl : g < w1.heap.size := Nat.lt_of_lt_of_le hg (hmod.out.trans hm (by simp)).size
      have hgl2 : gf < w1.heap.size := Nat.lt_of_lt_of_le hgf (hmod.out.trans hm (by simp)).size
      have hm' := Lib.hid (hmod.out.trans hm (by simp))
      clear b0 b1 bl hB1 hm htl hcl hcf
      try dsimp only
      go_upto_region 5 with fail
      go_quiet (fail)
      go_wp2_with fail
      go_ret
      exact ⟨rfl, hm'.out.drewN _⟩
  · have ht : tailI L i = -1 := by
      unfold tailI
      by_cases h0 : i < 0
      · rw [if_pos h0]
      · rw [if_neg h0, tailE_out (by omega)]
    have hc : leftI L f i = 0 := by unfold leftI; rw [if_neg hin]
    rw [ht] at htl
    rw [hc]
    clear ht hc hin hi h'
    go_enter Tryz.func109, Tryz.ntmps109
    go_wp2_with fail
    refine htl.out.mono ?_
    rintro e w1 ⟨rfl, hm⟩
    have hm' := Lib.hid (hmod.out.trans hm (by simp))
    try dsimp only
    go_wp2_with fail
    go_ret
    exact ⟨rfl, hm'.out⟩
end Edge
end Go.Proofs.YtjpfmkfikidgkaaGreat

set_option linter.unusedVariables false
set_option linter.unusedSimpArgs false
namespace Go.Proofs.YtjpfmkfikidgkaaGreat
open Go.RowKit
namespace Edge
theorem exc_take : ∀ (L : List Ed) (f : List Int) (k : Nat) (hk : k < L.length) (hl : f.length = L.length) (v : Int), exc (L.take (k + 1)) (f.take (k + 1)) v = exc (L.take k) (f.take k) v + (if L[k].2.1 = v then f.getD k 0 else 0) - (if L[k].1 = v then f.getD k 0 else 0)
  | e :: l, x :: f, 0, _, _, v => by simp [exc]
  | e :: l, x :: f, k + 1, hk, hl, v => by
    have := exc_take l f k (by simpa using hk) (by simpa using hl) v
    simp only [List.take_succ_cons, exc, List.getElem_cons_succ, List.getD_cons_succ] at this ⊢
    rw [this]; omega
theorem FB.take : ∀ {L : List Ed} {f : List Int}, FB L f → ∀ k, FB (L.take k) (f.take k)
  | [], [], _, k => by simp [FB]
  | e :: l, x :: f, h, 0 => by simp [FB]
  | e :: l, x :: f, h, k + 1 => ⟨h.1, FB.take h.2 k⟩
theorem exc_part {n : Nat} {L : List Ed} {f : List Int} (hG : GOk n L) (hF : FB L f) (k : Nat) (v : Int) : -2251799813685248 ≤ exc (L.take k) (f.take k) v ∧ exc (L.take k) (f.take k) v ≤ 2251799813685248 := by
  have h1 := exc_in (hF.take k) (fun e he => by have := hG.ends e (List.mem_of_mem_take he); omega) v
  have h2 := total_part hG k
  omega
set_option maxRecDepth 100000 in
set_option maxHeartbeats 4000000 in
theorem xexc23 {n : Nat} {L : List Ed} {f : List Int} {a : Option Addr} {c : Nat} {fa : Option Addr} {fc : Nat} {w : World} (h : RX w L f a c fa fc) (hG : GOk n L) (hF : FB L f) (v : Int) :
    Calls Tryz.prog 78 #[restV n a L.length c fa fc, .int .i64 v] w fun e w' => e = .returned (.int .i64 (exc L f v)) ∧ Mod [] w w' := by
  have hmod := Lib.hid ((Mod.refl [] w).alloc (.cells #[.int .i64 n, .slice a L.length c, .slice fa L.length fc] 35))
  have hB := Has.new w [.int .i64 n, .slice a L.length c, .slice fa L.length fc] 35
  have b1 := hB.cell 1 rfl
  have b2 := hB.cell 2 rfl
  have bl := hB.lt
  obtain ⟨m, hm⟩ : ∃ m, L.length = m := ⟨_, rfl⟩
  have hlb : m ≤ 1048576 := by have := hG.len; omega
  have h' := Lib.hid h
  have hG' := Lib.hid hG
  have hF' := Lib.hid hF
  have hend : Hid (exc (L.take m) (f.take m) v = exc L f v) := Lib.hid (by rw [List.take_of_length_le (by omega), List.take_of_length_le (by rw [h.len]; omega)])
  rw [hm] at b1 b2 hmod
  have hm' := Lib.hid hm
  unfold restV
  rw [hm]
  rw [hm] at bl
  clear h hB hG hF hm
  go_enter Tryz.func78, Tryz.ntmps78
  go_wp2_with fail
  generalize w.alloc (.cells #[.int .i64 n, .slice a m c, .slice fa m fc] 35) = w1 at *
  generalize w.heap.size = B at *
  go_loopw [5, 6] (fun s i wr => ∃ (k : Nat) (z : Int), k ≤ m ∧ s = .int .i64 z ∧ i = .int .i64 k ∧ wr = w1 ∧ Hid (z = exc (L.take k) (f.take k) v)) (fun _ i _ => m - (intOf i).toNat)
  case atStart => exact ⟨0, 0, Nat.zero_le _, rfl, rfl, rfl, Lib.hid (by simp [exc])⟩
  case round =>
    obtain ⟨k, z, hk, rfl, rfl, hwr, hz⟩ := hrel
    subst hwr
    by_cases hlt : k < m
    · have hlt1 : (k : Int) < m := by omega
      have hkl : k < L.length := by rw [hm'.out]; exact hlt
      obtain ⟨g, o, rfl, hg, hcell⟩ := ed_cells h'.out.l hkl
      obtain ⟨gf, of, rfl, hgf, hfcell⟩ := h'.out.fcell hkl
      obtain ⟨q0, q1, _⟩ := hcell _ hmod.out
      have q3 := hfcell _ hmod.out
      have hgl : g < wr.heap.size := Nat.lt_of_lt_of_le hg hmod.out.size
      have hgl2 : gf < wr.heap.size := Nat.lt_of_lt_of_le hgf hmod.out.size
      have hst := exc_take L f k hkl h'.out.len v
      have hp := exc_part hG'.out hF'.out k v
      rw [← hz.out] at hst hp
      have hfb := hF'.out.get k hkl
      have hen := hG'.out.ends _ (List.getElem_mem hkl)
      have hcap := capE_le hG'.out (2 * k)
      rw [capE_get (by omega)] at hcap
      simp only [show 2 * k / 2 = k by omega] at hcap
      generalize L[k] = x at *
      obtain ⟨xu, xv, xw⟩ := x
      generalize f.getD k 0 = y at *
      simp only at q0 q1 hst hfb hen hcap
      clear hcell hfcell hz
      by_cases h1 : xv = v
      · have h2 : ¬ xu = v := by omega
        rw [if_pos h1, if_neg h2] at hst
        have hst' := Lib.hid hst
        have t1 : (xv == v) = true := by simpa using h1
        have t2 : (xu == v) = false := by simpa using h2
        clear hst h1 h2 hen
        go_wp2_with fail
        go_roundw
        case rel => exact ⟨k + 1, z + y, by omega, by go_num, by go_num, trivial, Lib.hid (by have := hst'.out; omega)⟩
        case measure => simp [intOf]; omega
      · have t1 : (xv == v) = false := by simpa using h1
        rw [if_neg h1] at hst
        by_cases h2 : xu = v
        · rw [if_pos h2] at hst
          have hst' := Lib.hid hst
          have t2 : (xu == v) = true := by simpa using h2
          clear hst h1 h2 hen
          go_wp2_with fail
          go_roundw
          case rel => exact ⟨k + 1, z - y, by omega, by go_num, by go_num, trivial, Lib.hid (by have := hst'.out; omega)⟩
          case measure => simp [intOf]; omega
        · rw [if_neg h2] at hst
          have hst' := Lib.hid hst
          have t2 : (xu == v) = false := by simpa using h2
          clear hst h1 h2 hen
          go_wp2_with fail
          go_roundw
          case rel => exact ⟨k + 1, z, by omega, rfl, by go_num, trivial, Lib.hid (by have := hst'.out; omega)⟩
          case measure => simp [intOf]; omega
    · have hkm : k = m := by omega
      have hz2 := hz.out
      rw [hkm, hend.out] at hz2
      have hz3 := Lib.hid hz2
      clear hz hkm hz2
      go_wp2_with fail
      go_ret
      exact ⟨by rw [hz3.out]; rfl, hmod.out⟩
end Edge
end Go.Proofs.YtjpfmkfikidgkaaGreat

set_option linter.unusedVariables false
set_option linter.unusedSimpArgs false
namespace Go.Proofs.YtjpfmkfikidgkaaGreat
open Go.RowKit
theorem Sep.rowNew {w0 w : World} {L : List Part} {e size n g : Nat} {v : Value} {xs : List Value} (h : Sep w0 w L) (i : Nat) (hi : L[i]? = some (Row e size n v xs)) (hg : v.ownBlock = some g) : w0.heap.size ≤ g := by
  obtain ⟨F, ⟨_, rfl⟩, h2, _⟩ := (h.get i hi).first
  exact (h2 g (by simp [hg])).2
namespace Edge
theorem overL_step {n : Nat} {L : List Ed} {f : List Int} (hG : GOk n L) (hl : f.length = L.length) {k u v : Nat} (hk : k < L.length) (hu : L[k].1 = (u : Int)) (hv : L[k].2.1 = (v : Int)) :
    ((overL n (L.take k) (f.take k)).set u (exc (L.take k) (f.take k) (u : Int) - f.getD k 0)).set v (exc (L.take k) (f.take k) (v : Int) + f.getD k 0) = overL n (L.take (k + 1)) (f.take (k + 1)) := by
  have he := hG.ends _ (List.getElem_mem hk)
  rw [hu, hv] at he
  apply List.ext_getElem?
  intro i
  have e1 := exc_take L f k hk hl (i : Int)
  rw [hu, hv] at e1
  by_cases hi : i < n
  · rw [overL_get hi, e1, List.getElem?_set, List.getElem?_set]
    have hlen : (overL n (L.take k) (f.take k)).length = n := overL_len _ _ _
    by_cases c1 : v = i
    · subst c1
      rw [if_pos rfl, if_pos (by rw [List.length_set, hlen]; exact hi), if_pos rfl, if_neg (by omega)]
      congr 1; omega
    · rw [if_neg c1]
      by_cases c2 : u = i
      · subst c2
        rw [if_pos rfl, if_pos (by rw [hlen]; exact hi), if_neg (by omega), if_pos rfl]
        congr 1; omega
      · rw [if_neg c2, overL_get hi, if_neg (by omega), if_neg (by omega)]
        congr 1; omega
  · rw [List.getElem?_eq_none (by rw [List.length_set, List.length_set, overL_len]; omega), List.getElem?_eq_none (by rw [overL_len]; omega)]
theorem fb_step {L : List Ed} {f : List Int} {k : Nat} (hl : f.length = L.length) (hk : k < L.length) (h : FB (L.take k) (f.take k)) (h1 : -L[k].2.2 ≤ f.getD k 0 ∧ f.getD k 0 ≤ L[k].2.2) : FB (L.take (k + 1)) (f.take (k + 1)) := by
  refine fb_of (by simp; omega) (fun j hj => ?_)
  rw [List.length_take] at hj
  have e1 : (L.take (k + 1))[j]'(by rw [List.length_take]; omega) = L[j]'(by omega) := by rw [List.getElem_take]
  have e2 : (f.take (k + 1)).getD j 0 = f.getD j 0 := by
    rw [List.getD_eq_getElem?_getD, List.getD_eq_getElem?_getD, List.getElem?_take, if_pos (by omega)]
  rw [e1, e2]
  rcases Nat.lt_or_ge j k with c | c
  · have h2 := h.get j (by rw [List.length_take]; omega)
    have e3 : (L.take k)[j]'(by rw [List.length_take]; omega) = L[j]'(by omega) := by rw [List.getElem_take]
    have e4 : (f.take k).getD j 0 = f.getD j 0 := by
      rw [List.getD_eq_getElem?_getD, List.getD_eq_getElem?_getD, List.getElem?_take, if_pos c]
    rw [e3, e4] at h2
    exact h2
  · have : j = k := by omega
    subst this
    exact h1
theorem exc_tk {n : Nat} {L : List Ed} {f : List Int} (hG : GOk n L) {k : Nat} (h : FB (L.take k) (f.take k)) (v : Int) : -2251799813685248 ≤ exc (L.take k) (f.take k) v ∧ exc (L.take k) (f.take k) v ≤ 2251799813685248 := by
  have h1 := exc_in h (fun e he => by have := hG.ends e (List.mem_of_mem_take he); omega) v
  have h2 := (total_tkF (L := L) (fun e he => by have := hG.pos e he; omega) k).2
  have h3 := hG.tot
  omega
theorem then_wrap {F : Act → World → Prop} {A : Act} {W0 Wx : World} {L : List Part} (h : Sep W0 Wx L) (hp : ∀ Wg, Sep W0 Wg L → F A Wg) : F A Wx := hp Wx h
def FexOut (n : Nat) (L : List Ed) (f : List Int) (w : World) (e : Ending) (w' : World) : Prop := ∃ a c, e = .returned (.tuple #[.slice a (excP n L f).length c, .bool (fbB L f)]) ∧ Made w w' 2 1 a (excP n L f).length c (i64s (excP n L f))
theorem fex_no {n : Nat} {L : List Ed} {f : List Int} {w w' : World} (h : fbB L f = false) (hm : Mod [] w w') : FexOut n L f w (.returned (.tuple #[.slice none 0 0, .bool false])) w' := by
  have e : excP n L f = [] := by unfold excP; rw [h]; rfl
  unfold FexOut
  rw [e, h]
  exact ⟨none, 0, rfl, World.ownsRow_nil _ _ _ _, hm, by simp [Value.ownBlock]⟩
set_option maxRecDepth 100000 in
set_option maxHeartbeats 8000000 in
theorem fexcess_sep {w0 w : World} {b n : Nat} {L : List Ed} {R : List Part} {f : List Int} {v : Value} (hS : Sep w0 w (NetP b n L :: R)) (hG : GOk n L) (h : Rd w 1 v f.length (i64s f)) (hfb : ∀ x ∈ f, -9223372036854775808 ≤ x ∧ x ≤ 9223372036854775807) :
    Calls Tryz.prog 28 #[.pointer (some ⟨b, 0, none⟩), v] w (FexOut n L f w) := by
  obtain ⟨a, c, rfl⟩ := h.val
  have hle := h.le
  have hlen := hG.len
  have hn4 := hG.le
  have cM := Lib.hid (m_sep hS)
  have cN := Lib.hid (n_sep hS)
  have cE := Lib.hid (fun W (m : Mod [] w W) => edges_sep (hS.still m) hG.len)
  have hG' := Lib.hid hG
  have h' := Lib.hid h
  have hfb' := Lib.hid hfb
  clear hS hG h hfb
  by_cases hl : f.length = L.length
  · have t1 : ((f.length : Int) != (L.length : Int)) = false := by simp; omega
    have hl' := Lib.hid hl
    have hmk := make_run (P := Tryz.prog) 33 2 (.int .i64 0) 8 Tryz.underlying33 infoI64b rfl (by omega) n (by omega)
    have hS1 := Lib.hid ((Sep.empty w).made (made_made w 2 (.int .i64 0) n (by omega)))
    clear hl
    go_enter Tryz.func28, Tryz.ntmps28
    go_upto_region 4 with (first
      | (go_at_call 73; refine cM.out.mono ?_; rintro e w1 ⟨rfl, hw1⟩; subst w1)
      | (go_at_call 72; refine cN.out.mono ?_; rintro e w1 ⟨rfl, hw1⟩; subst w1))
    clear hmk cM cN
    have hS2 : Hid (Sep w (w.alloc (.cells (madeCells #[.int .i64 0] n) 2)) [Row 2 1 n (.slice (some ⟨w.heap.size, 0, none⟩) n n) (i64s (overL n (L.take 0) (f.take 0)))]) := Lib.hid (by
      have e : i64s (overL n (L.take 0) (f.take 0)) = List.replicate n (.int .i64 0) := by
        unfold overL i64s
        rw [List.map_map]
        apply List.eq_replicate_iff.2
        simp [exc]
      rw [e]
      exact hS1.out)
    clear hS1
    generalize w.alloc (.cells (madeCells #[.int .i64 0] n) 2) = w1 at *
    generalize w.heap.size = g at *
    go_wp2_with fail
    refine (cE.out _ hS2.out.mod).mono ?_
    rintro e w2 ⟨ax, cx, rfl, hmd⟩
    have hS3 := Lib.hid ((hS2.out.made hmd).swap)
    clear hmd hS2 cE
    try dsimp only
    go_wp2_with fail
    go_loopw [20] (fun s20 wr => ∃ k : Nat, k ≤ L.length ∧ s20 = .int .i64 k ∧ Hid (FB (L.take k) (f.take k)) ∧ Hid (Sep w wr [Row 2 1 n (.slice (some ⟨g, 0, none⟩) n n) (i64s (overL n (L.take k) (f.take k))), Row 146 3 L.length (.slice ax L.length cx) (flat encEd L)])) (fun s20 _ => L.length - (intOf s20).toNat)
    case atStart => exact ⟨0, Nat.zero_le _, rfl, Lib.hid trivial, hS3⟩
    case round =>
      clear hS3
      obtain ⟨k, hk, rfl, hF, hS⟩ := hrel
      by_cases hlt : k < L.length
      · have hlt1 : (k : Int) < L.length := by omega
        obtain ⟨ge, rfl, hge, _, q0, q1, q2⟩ := ed_row (hS.out.rowAt 1 rfl) hlt
        obtain ⟨he0, he1, he2⟩ := hG'.out.ends _ (List.getElem_mem hlt)
        obtain ⟨u, hu⟩ := Int.eq_ofNat_of_zero_le he0
        obtain ⟨x, hx⟩ := Int.eq_ofNat_of_zero_le (show 0 ≤ L[k].2.1 by omega)
        have hp := hG'.out.pos _ (List.getElem_mem hlt)
        have hcap := capE_le hG'.out (2 * k)
        rw [capE_get (show 2 * k < 2 * L.length by omega)] at hcap
        have e2k : 2 * k / 2 = k := by omega
        simp only [e2k] at hcap
        have hst := Lib.hid (overL_step hG'.out hl'.out hlt hu hx)
        have hno := Lib.hid (fbB_no (f := f) hlt)
        have hfs := Lib.hid (fb_step hl'.out hlt hF.out)
        obtain ⟨gf, o, rfl, hgf, hcell⟩ := rd_cell h'.out (show k < f.length by rw [hl'.out]; exact hlt)
        have hkf : k < f.length := by rw [hl'.out]; exact hlt
        have hkf1 : (k : Int) < f.length := by omega
        have cf := hcell wr k (.int .i64 (f.getD k 0)) hS.out.mod (i64s_getD hkf)
        have hfr := hfb'.out (f.getD k 0) (by rw [List.getD_eq_getElem?_getD, List.getElem?_eq_getElem hkf]; exact List.getElem_mem _)
        have hun : u < n := by omega
        have hxn : x < n := by omega
        have hux : u ≠ x := by omega
        have lgf : gf < wr.heap.size := Nat.lt_of_lt_of_le hgf hS.out.mod.size
        have lg : g < wr.heap.size := own_lt (hS.out.rowAt 0 rfl) (g := g) rfl
        have cu := (hS.out.rowAt 0 rfl).cellAt u (by omega)
        rw [i64s_getD (by rw [overL_len]; exact hun), overL_get0 hun] at cu
        have cxx := (hS.out.rowAt 0 rfl).cellAt x (by omega)
        rw [i64s_getD (by rw [overL_len]; exact hxn), overL_get0 hxn] at cxx
        have fu := (hS.out.rowAt 0 rfl).frozenAt u
        have fx := (hS.out.rowAt 0 rfl).frozenAt x
        have hbu := exc_tk hG'.out hF.out (u : Int)
        have hbx := exc_tk hG'.out hF.out (x : Int)
        have hS1 := Lib.hid (hS.out.box [.int .i64 (u : Int), .int .i64 (x : Int), .int .i64 L[k].2.2] 146)
        have hmd := Lib.hid hS1.out.mod
        have ngb : g ≠ wr.heap.size := by omega
        have ngf : gf ≠ wr.heap.size := by omega
        have hga : gf ≠ g := by
          have h9 : w.heap.size ≤ g := hS.out.rowNew 0 rfl rfl
          omega
        simp only [hu, hx] at q0 q1
        have hcell' := Lib.hid (fun W (m : Mod [] w W) => hcell W k (.int .i64 (f.getD k 0)) m (i64s_getD hkf))
        clear hS he0 he1 he2 hu hx hcell
        generalize hW : L[k].2.2 = W at *
        generalize f.getD k 0 = y at *
        clear hW
        by_cases c1 : W < y
        · have t2 : decide (W < y) = true := by simpa using c1
          have hb := Lib.hid (hno.out (by omega))
          go_upto_region 7 with fail
          go_quiet (fail)
          go_wp2_with fail
          exact bodyPost_ret (v := .tuple #[.slice none 0 0, .bool false]) (by simp [results, Tryz.results28, go_sem]) rfl (fex_no hb.out (hmd.out.drewN _))
        · have t2 : decide (W < y) = false := by simpa using c1
          by_cases c2 : y < -W
          · have t3 : decide (y < -W) = true := by simpa using c2
            have hb := Lib.hid (hno.out (by omega))
            go_upto_region 7 with fail
            go_quiet (fail)
            go_wp2_with fail
            exact bodyPost_ret (v := .tuple #[.slice none 0 0, .bool false]) (by simp [results, Tryz.results28, go_sem]) rfl (fex_no hb.out (hmd.out.drewN _))
          · have t3 : decide (y < -W) = false := by simpa using c2
            have hF1 := Lib.hid (hfs.out ⟨by omega, by omega⟩)
            go_upto_region 7 with fail
            go_quiet (fail)
            refine then_wrap (hS1.out.still ((Mod.refl [] _).drewN _)) ?_
            intro W7 hS7
            have hlu : (overL n (L.take k) (f.take k)).length = n := overL_len _ _ _
            have hgu := overL_get0 (L := L.take k) (f := f.take k) hun
            have hgx := overL_get0 (L := L.take k) (f := f.take k) hxn
            generalize overL n (L.take k) (f.take k) = O at *
            generalize exc (L.take k) (f.take k) (u : Int) = eu at *
            generalize exc (L.take k) (f.take k) (x : Int) = ex at *
            have hgx2 : (O.set u (eu - y)).getD x 0 = ex := by rw [getD_set5 O u _ (by rw [hlu]; exact hun), if_neg (by omega)]; exact hgx
            generalize wr.heap.size = B at *
            have e0 := (hS7.blkAt 0 rfl).cell 0 rfl
            have el := (hS7.blkAt 0 rfl).lt
            have cu7 := (hS7.rowAt 1 rfl).cellAt u (by omega)
            rw [i64s_getD (by rw [hlu]; exact hun), hgu] at cu7
            have fu7 := (hS7.rowAt 1 rfl).frozenAt u
            have lg7 : g < W7.heap.size := own_lt (hS7.rowAt 1 rfl) (g := g) rfl
            have cf7 := hcell'.out _ hS7.mod
            have lgf7 : gf < W7.heap.size := Nat.lt_of_lt_of_le hgf hS7.mod.size
            have hSA := Lib.hid (by
              have h5 := hS7.rowsetAt 1 rfl u (.int .i64 (eu - y))
              simp only [List.set_cons_succ, List.set_cons_zero] at h5
              rw [i64s_set] at h5
              exact h5)
            clear hS7
            go_upto_region 9 with fail
            go_still_tail 11, (by kernel_rfl)
            go_upto_region 10 with fail
            clear e0 el cu7 fu7 lg7 cf7 lgf7
            refine then_wrap (hSA.out.still (Mod.refl [] _).drew) ?_
            intro W8 hS8
            have e1 := (hS8.blkAt 0 rfl).cell 1 rfl
            have el := (hS8.blkAt 0 rfl).lt
            have cx8 := (hS8.rowAt 1 rfl).cellAt x (by omega)
            rw [i64s_getD (by rw [List.length_set, hlu]; exact hxn), hgx2] at cx8
            have fx8 := (hS8.rowAt 1 rfl).frozenAt x
            have lg8 : g < W8.heap.size := own_lt (hS8.rowAt 1 rfl) (g := g) rfl
            have cf8 := hcell'.out _ hS8.mod
            have lgf8 : gf < W8.heap.size := Nat.lt_of_lt_of_le hgf hS8.mod.size
            have hSB := Lib.hid (by
              have h5 := hS8.rowsetAt 1 rfl x (.int .i64 (ex + y))
              simp only [List.set_cons_succ, List.set_cons_zero] at h5
              rw [i64s_set, hst.out] at h5
              exact h5.tail)
            clear hS8 hst hcell' hSA hgu hgx hgx2 hlu
            go_still_tail 11, (by kernel_rfl)
            go_wp2_with fail
            go_roundw
            case rel => exact ⟨k + 1, by omega, by go_num, hF1, Lib.hid (hSB.out.still (Mod.refl [] _).drew)⟩
            case measure => simp [intOf]; omega
      · have hkl : k = L.length := by omega
        have hF1 := hF.out
        rw [hkl, List.take_length, ← hl'.out, List.take_length] at hF1
        have hb := fbB_iff.2 hF1
        have hS5 := hS.out.swap.tail
        rw [hkl, List.take_length, ← hl'.out, List.take_length] at hS5
        have hS6 := Lib.hid hS5
        have hb' := Lib.hid hb
        clear hS hF hF1 hb hS5 hkl hk
        go_wp2_with fail
        refine bodyPost_ret (v := .tuple #[.slice (some ⟨g, 0, none⟩) n n, .bool true]) (by simp [results, Tryz.results28, go_sem]) rfl ?_
        have e : excP n L f = overL n L f := by unfold excP; rw [if_pos hb'.out]
        unfold FexOut
        rw [e, hb'.out, overL_len]
        exact ⟨_, _, rfl, hS6.out.toMade⟩
  · have t1 : ((f.length : Int) != (L.length : Int)) = true := by simp; omega
    have hb := Lib.hid (fbB_len hl)
    clear hl
    go_enter Tryz.func28, Tryz.ntmps28
    go_wp2_with (go_at_call 73; refine cM.out.mono ?_; rintro e w1 ⟨rfl, hw1⟩; subst w1)
    exact bodyPost_ret (v := .tuple #[.slice none 0 0, .bool false]) (by simp [results, Tryz.results28, go_sem]) rfl (fex_no hb.out (Mod.refl _ _))
end Edge
end Go.Proofs.YtjpfmkfikidgkaaGreat

set_option linter.unusedVariables false
set_option linter.unusedSimpArgs false
namespace Go.Proofs.YtjpfmkfikidgkaaGreat
open Go.RowKit
namespace Edge
/-- Nothing, or that error. -/
def thatI (b : Bool) (c : Int) : Int := if b = true then 0 else c
theorem that_any (b : Bool) (c : Int) (w : World) : Calls Tryz.prog 117 #[.bool b, .int .i64 c] w fun e w' => e = .returned (.int .i64 (thatI b c)) ∧ w' = w := by
  unfold thatI
  cases b with
  | true =>
    rw [if_pos rfl]
    go_enter Tryz.func117, Tryz.ntmps117
    go_wp2
    go_ret
    exact ⟨rfl, rfl⟩
  | false =>
    rw [if_neg (by simp)]
    go_enter Tryz.func117, Tryz.ntmps117
    go_wp2
    go_ret
    exact ⟨rfl, rfl⟩
set_option maxRecDepth 100000 in
set_option maxHeartbeats 4000000 in
theorem first_two {w : World} {B k0 k1 : Nat} {caps0 caps1 : Array Value} {t : TypeId} {e0 e1 : Int} (hB : Has w B [.func (.func k0) #[] caps0, .func (.func k1) #[] caps1] t)
    (hf0 : ∀ w, (callFunc k0 (#[] ++ caps0)).run Tryz.prog w = .ok (.enter k0 (#[] ++ caps0)) w) (hf1 : ∀ w, (callFunc k1 (#[] ++ caps1)).run Tryz.prog w = .ok (.enter k1 (#[] ++ caps1)) w)
    (c0 : ∀ W, Mod [] w W → Calls Tryz.prog k0 caps0 W fun e w' => e = .returned (.int .i64 e0) ∧ Mod [] W w') (c1 : e0 = 0 → ∀ W, Mod [] w W → Calls Tryz.prog k1 caps1 W fun e w' => e = .returned (.int .i64 e1) ∧ Mod [] W w') :
    Calls Tryz.prog 114 #[.slice (some ⟨B, 0, none⟩) 2 2] w fun e w' => e = .returned (.int .i64 (if e0 = 0 then e1 else e0)) ∧ Mod [] w w' := by
  have hB' := Lib.hid hB
  have c0' := Lib.hid c0
  have c1' := Lib.hid c1
  have b0 := hB.cell 0 rfl
  have b1 := hB.cell 1 rfl
  have bl := hB.lt
  simp only [Array.empty_append] at hf0 hf1
  clear hB c0 c1
  go_enter Tryz.func114, Tryz.ntmps114
  by_cases h0 : e0 = 0
  · rw [if_pos h0]
    have t0 : (e0 != 0) = false := by simpa using h0
    have t0' : (e0 == 0) = true := by simpa using h0
    have c1'' := Lib.hid (c1'.out h0)
    clear c1' h0
    go_wp2_with fail
    refine wp_loop_rounds 3 ?_
    rw [rounds_succ]
    go_wp2_with fail
    refine (c0'.out _ (Mod.refl _ _)).mono ?_
    rintro e w1 ⟨rfl, hm1⟩
    have b1 := (hB'.out.keep hm1 (by simp)).cell 1 rfl
    have bl1 := (hB'.out.keep hm1 (by simp)).lt
    have hm1' := Lib.hid hm1
    clear hm1
    try dsimp only
    go_wp2_with fail
    rw [rounds_succ]
    go_wp2_with fail
    refine (c1''.out _ hm1'.out).mono ?_
    rintro e w2 ⟨rfl, hm2⟩
    have hm2' := Lib.hid (hm1'.out.trans hm2 (by simp))
    clear hm2
    try dsimp only
    by_cases h1 : e1 = 0
    · have t1 : (e1 != 0) = false := by simpa using h1
      have h1' := Lib.hid h1
      clear h1
      go_wp2_with fail
      rw [rounds_succ]
      go_wp2_with fail
      go_ret
      exact ⟨by rw [h1'.out]; rfl, hm2'.out⟩
    · have t1 : (e1 != 0) = true := by simpa using h1
      clear h1
      go_wp2_with fail
      go_ret
      exact ⟨rfl, hm2'.out⟩
  · rw [if_neg h0]
    have t0 : (e0 != 0) = true := by simpa using h0
    have t0' : (e0 == 0) = false := by simpa using h0
    clear c1' h0
    go_wp2_with fail
    refine wp_loop_rounds 3 ?_
    rw [rounds_succ]
    go_wp2_with fail
    refine (c0'.out _ (Mod.refl _ _)).mono ?_
    rintro e w1 ⟨rfl, hm1⟩
    have hm1' := Lib.hid hm1
    clear hm1
    try dsimp only
    go_wp2_with fail
    go_ret
    exact ⟨rfl, hm1'.out⟩
end Edge
end Go.Proofs.YtjpfmkfikidgkaaGreat

set_option linter.unusedVariables false
set_option linter.unusedSimpArgs false
namespace Go.Proofs.YtjpfmkfikidgkaaGreat
open Go.RowKit
namespace Edge
/-- Where a number stands first. -/
def idxI (l : List Int) (x : Int) : Int := if x ∈ l then (l.idxOf x : Nat) else -1
theorem idxI_at {l : List Int} {x : Int} {k : Nat} (hk : k < l.length) (hn : ∀ j, j < k → l.getD j 0 ≠ x) (h : l.getD k 0 = x) : idxI l x = k := by
  have hm : x ∈ l := by
    rw [List.getD_eq_getElem?_getD, List.getElem?_eq_getElem hk] at h
    rw [← h]; exact List.getElem_mem hk
  unfold idxI
  rw [if_pos hm]
  congr 1
  have h1 : l.idxOf x < l.length := List.idxOf_lt_length_of_mem hm
  have h2 : l[l.idxOf x] = x := List.getElem_idxOf h1
  rcases Nat.lt_trichotomy (l.idxOf x) k with c | c | c
  · refine absurd ?_ (hn _ c)
    rw [List.getD_eq_getElem?_getD, List.getElem?_eq_getElem h1]; exact h2
  · exact c
  · have h3 := List.not_of_lt_findIdx (p := (· == x)) (xs := l) (i := k) c
    rw [List.getD_eq_getElem?_getD, List.getElem?_eq_getElem hk] at h
    have h4 : l[k] = x := h
    simp [h4] at h3
theorem idxI_no {l : List Int} {x : Int} (hn : ∀ j, j < l.length → l.getD j 0 ≠ x) : idxI l x = -1 := by
  unfold idxI
  rw [if_neg (fun hm => by
    obtain ⟨j, hj, he⟩ := List.getElem_of_mem hm
    refine hn j hj ?_
    rw [List.getD_eq_getElem?_getD, List.getElem?_eq_getElem hj]; exact he)]
set_option maxHeartbeats 4000000 in
theorem idx_anyF {l : List Int} {v : Value} {w : World} (h : Rd w 1 v l.length (i64s l)) (x : Int) :
    Calls Tryz.prog 186 #[v, .int .i64 x] w fun e w' => e = .returned (.int .i64 (idxI l x)) ∧ w' = w := by
  obtain ⟨a, c, rfl⟩ := h.val
  have hle := h.le
  have h' := Lib.hid h
  have hat := Lib.hid (fun k => idxI_at (l := l) (x := x) (k := k))
  have hno := Lib.hid (idxI_no (l := l) (x := x))
  clear h
  go_enter Tryz.func186, Tryz.ntmps186
  go_wp2_with fail
  go_loopw [8] (fun s8 wr => ∃ k : Nat, k ≤ l.length ∧ s8 = .int .i64 k ∧ wr = w ∧ Hid (∀ j, j < k → l.getD j 0 ≠ x)) (fun s8 _ => l.length - (intOf s8).toNat)
  case atStart => exact ⟨0, Nat.zero_le _, rfl, rfl, Lib.hid (fun j hj => by omega)⟩
  case round =>
    obtain ⟨k, hk, rfl, hw, hall⟩ := hrel
    subst hw
    by_cases hlt : k < l.length
    · have hlt1 : (k : Int) < l.length := by omega
      obtain ⟨g, o, rfl, hg, hcell⟩ := rd_cell h'.out hlt
      have c0 := hcell _ k (.int .i64 (l.getD k 0)) (Mod.refl _ _) (i64s_getD hlt)
      by_cases he : l.getD k 0 = x
      · have hr := Lib.hid (hat.out k hlt hall.out he)
        have t0 : (x == l.getD k 0) = true := by simpa using he.symm
        clear hcell hall he
        generalize l.getD k 0 = y at *
        go_wp2_with fail
        go_ret
        exact ⟨by rw [hr.out]; rfl, rfl⟩
      · have t0 : (x == l.getD k 0) = false := by simpa using fun h => he h.symm
        have hn := Lib.hid (show ∀ j, j < k + 1 → l.getD j 0 ≠ x from fun j hj => by
          rcases Nat.lt_or_ge j k with c | c
          · exact hall.out j c
          · have : j = k := by omega
            subst this
            exact he)
        clear hcell hall he
        generalize l.getD k 0 = y at *
        go_wp2_with fail
        go_roundw
        case rel => exact ⟨k + 1, by omega, by go_num, by first | rfl | trivial, hn⟩
        case measure => simp [intOf]; omega
    · have hr := Lib.hid (hno.out (fun j hj => hall.out j (by omega)))
      clear hall
      go_wp2_with fail
      go_ret
      exact ⟨by rw [hr.out]; rfl, rfl⟩
set_option maxHeartbeats 4000000 in
theorem contains_any {l : List Int} {v : Value} {w : World} (h : Rd w 1 v l.length (i64s l)) (x : Int) :
    Calls Tryz.prog 121 #[v, .int .i64 x] w fun e w' => e = .returned (.bool (decide (x ∈ l))) ∧ w' = w := by
  have hi := Lib.hid (idx_anyF h x)
  obtain ⟨a, c, rfl⟩ := h.val
  have hd : decide (0 ≤ idxI l x) = decide (x ∈ l) := by
    rw [decide_eq_decide]
    unfold idxI
    split
    · rename_i hm; exact ⟨fun _ => hm, fun _ => by omega⟩
    · rename_i hm; exact ⟨fun h => by omega, fun h => absurd h hm⟩
  rw [← hd]
  generalize idxI l x = i at *
  clear h hd
  go_enter Tryz.func121, Tryz.ntmps121
  go_wp2_with fail
  refine hi.out.mono ?_
  rintro e w1 ⟨rfl, hw1⟩
  subst w1
  try dsimp only
  go_wp2_with fail
  go_ret
  exact ⟨rfl, rfl⟩
/-- Where a number that is not 0 stands first. -/
theorem nz_any (x : Int) (w : World) : Calls Tryz.prog 126 #[.int .i64 x] w fun e w' => e = .returned (.bool (x != 0)) ∧ w' = w := by
  go_enter Tryz.func126, Tryz.ntmps126
  go_wp2
  go_ret
  exact ⟨rfl, rfl⟩
set_option maxHeartbeats 4000000 in
theorem indexf_any {l : List Int} {v : Value} {w : World} (h : Rd w 1 v l.length (i64s l)) :
    Calls Tryz.prog 187 #[v, .func (.func 126) #[] #[]] w fun e w' => ∃ i : Int, e = .returned (.int .i64 i) ∧ (decide (0 ≤ i) = l.any (· != 0)) ∧ w' = w := by
  obtain ⟨a, c, rfl⟩ := h.val
  have hle := h.le
  have h' := Lib.hid h
  clear h
  go_enter Tryz.func187, Tryz.ntmps187
  go_wp2_with fail
  go_loopw [8] (fun s8 wr => ∃ k : Nat, k ≤ l.length ∧ s8 = .int .i64 k ∧ wr = w ∧ Hid (∀ j, j < k → l.getD j 0 = 0)) (fun s8 _ => l.length - (intOf s8).toNat)
  case atStart => exact ⟨0, Nat.zero_le _, rfl, rfl, Lib.hid (fun j hj => by omega)⟩
  case round =>
    obtain ⟨k, hk, rfl, hw, hall⟩ := hrel
    subst hw
    by_cases hlt : k < l.length
    · have hlt1 : (k : Int) < l.length := by omega
      obtain ⟨g, o, rfl, hg, hcell⟩ := rd_cell h'.out hlt
      have c0 := hcell _ k (.int .i64 (l.getD k 0)) (Mod.refl _ _) (i64s_getD hlt)
      have cz := Lib.hid (nz_any (l.getD k 0) wr)
      by_cases he : l.getD k 0 = 0
      · have t0 : (l.getD k 0 != 0) = false := by simpa using he
        have hn := Lib.hid (show ∀ j, j < k + 1 → l.getD j 0 = 0 from fun j hj => by
          rcases Nat.lt_or_ge j k with c | c
          · exact hall.out j c
          · have : j = k := by omega
            subst this
            exact he)
        rw [t0] at cz
        clear hcell hall he
        generalize l.getD k 0 = y at *
        go_wp2_with (go_at_call 126; refine cz.out.mono ?_; rintro e w1 ⟨rfl, hw1⟩; subst w1)
        go_roundw
        case rel => exact ⟨k + 1, by omega, by go_num, by first | rfl | trivial, hn⟩
        case measure => simp [intOf]; omega
      · have t0 : (l.getD k 0 != 0) = true := by simpa using he
        have hr := Lib.hid (show decide (0 ≤ (k : Int)) = l.any (· != 0) from by
          have : l.any (· != 0) = true := by
            rw [List.any_eq_true]
            refine ⟨l.getD k 0, ?_, t0⟩
            rw [List.getD_eq_getElem?_getD, List.getElem?_eq_getElem hlt]
            exact List.getElem_mem _
          rw [this]; simp)
        rw [t0] at cz
        clear hcell hall he
        generalize l.getD k 0 = y at *
        go_wp2_with (go_at_call 126; refine cz.out.mono ?_; rintro e w1 ⟨rfl, hw1⟩; subst w1)
        go_ret
        exact ⟨k, rfl, hr.out, rfl⟩
    · have hr := Lib.hid (show decide (0 ≤ (-1 : Int)) = l.any (· != 0) from by
        have : l.any (· != 0) = false := by
          rw [List.any_eq_false]
          intro x hx
          obtain ⟨j, hj, he⟩ := List.getElem_of_mem hx
          have := hall.out j (by omega)
          rw [List.getD_eq_getElem?_getD, List.getElem?_eq_getElem hj] at this
          have h2 : l[j] = 0 := this
          rw [he] at h2
          simp [h2]
        rw [this]; rfl)
      clear hall
      go_wp2_with fail
      go_ret
      exact ⟨-1, rfl, hr.out, rfl⟩
set_option maxHeartbeats 4000000 in
theorem containsf_any {l : List Int} {v : Value} {w : World} (h : Rd w 1 v l.length (i64s l)) :
    Calls Tryz.prog 125 #[v, .func (.func 126) #[] #[]] w fun e w' => e = .returned (.bool (l.any (· != 0))) ∧ w' = w := by
  have hi := Lib.hid (indexf_any h)
  obtain ⟨a, c, rfl⟩ := h.val
  clear h
  go_enter Tryz.func125, Tryz.ntmps125
  go_wp2_with fail
  refine hi.out.mono ?_
  rintro e w1 ⟨i, rfl, hd, hw1⟩
  subst w1
  try dsimp only
  have hd' := Lib.hid hd
  clear hd hi
  go_wp2_with fail
  go_ret
  exact ⟨by rw [← hd'.out]; rfl, rfl⟩
end Edge
end Go.Proofs.YtjpfmkfikidgkaaGreat

set_option linter.unusedVariables false
set_option linter.unusedSimpArgs false
namespace Go.Proofs.YtjpfmkfikidgkaaGreat
open Go.RowKit
namespace Edge
def inV (n : Nat) (v : Int) : Bool := decide (0 ≤ v) && decide (v < n)
theorem inV_iff {n : Nat} {v : Int} : inV n v = true ↔ 0 ≤ v ∧ v < n := by simp [inV]
section
variable {W : World} {b n Bg Bs Bt Bf : Nat} {s t : Int}
theorem car1_any {p : Option Addr} (hg : Has W Bg [.pointer p] 25) (cN : Calls Tryz.prog 72 #[.pointer p] W fun e w' => e = .returned (.int .i64 n) ∧ w' = W) (v : Int) :
    Calls Tryz.prog 122 #[.int .i64 v, .pointer (some ⟨Bg, 0, none⟩)] W fun e w' => e = .returned (.bool (inV n v)) ∧ w' = W := by
  have cN' := Lib.hid cN
  have g0 := hg.cell 0 rfl
  have gl := hg.lt
  clear hg cN
  go_enter Tryz.func122, Tryz.ntmps122
  by_cases h0 : 0 ≤ v
  · have t0 : decide (0 ≤ v) = true := by simpa using h0
    have e : Hid (inV n v = decide (v < n)) := Lib.hid (by unfold inV; rw [t0]; rfl)
    go_wp2_with (go_at_call 72; refine cN'.out.mono ?_; rintro e w1 ⟨rfl, hw1⟩; subst w1)
    go_ret
    exact ⟨by rw [e.out]; rfl, rfl⟩
  · have t0 : decide (0 ≤ v) = false := by simpa using h0
    have e : Hid (inV n v = false) := Lib.hid (by unfold inV; rw [t0]; rfl)
    go_wp2_with fail
    go_ret
    exact ⟨by rw [e.out]; rfl, rfl⟩
set_option maxHeartbeats 4000000 in
theorem car2_any (hf : Has W Bf [.func (.func 122) #[] #[.pointer (some ⟨Bg, 0, none⟩)]] 112) (hs : Has W Bs [.int .i64 s] 3) (ht : Has W Bt [.int .i64 t] 3)
    (c1 : ∀ v, Calls Tryz.prog 122 #[.int .i64 v, .pointer (some ⟨Bg, 0, none⟩)] W fun e w' => e = .returned (.bool (inV n v)) ∧ w' = W) :
    Calls Tryz.prog 123 #[.pointer (some ⟨Bf, 0, none⟩), .pointer (some ⟨Bs, 0, none⟩), .pointer (some ⟨Bt, 0, none⟩)] W fun e w' => e = .returned (.int .i64 (thatI (inV n s && inV n t) 4)) ∧ w' = W := by
  have c1' := Lib.hid c1
  have f0 := hf.cell 0 rfl
  have fl := hf.lt
  have s0 := hs.cell 0 rfl
  have sl := hs.lt
  have t0 := ht.cell 0 rfl
  have tl := ht.lt
  have cth := Lib.hid (fun b => that_any b 4 W)
  clear hf hs ht c1
  go_enter Tryz.func123, Tryz.ntmps123
  go_wp2_with fail
  refine (c1'.out s).mono ?_
  rintro e w1 ⟨rfl, hw1⟩
  subst w1
  try dsimp only
  obtain ⟨x, hx⟩ : ∃ x, inV n s = x := ⟨_, rfl⟩
  have hx' := Lib.hid hx
  rw [hx]
  clear hx
  cases x with
  | true =>
    go_wp2_with fail
    refine (c1'.out t).mono ?_
    rintro e w1 ⟨rfl, hw1⟩
    subst w1
    try dsimp only
    obtain ⟨y, hy⟩ : ∃ y, inV n t = y := ⟨_, rfl⟩
    have hy' := Lib.hid hy
    rw [hy]
    clear hy
    have cy := Lib.hid (cth.out y)
    go_wp2_with fail
    refine cy.out.mono ?_
    rintro e w1 ⟨rfl, hw1⟩
    subst w1
    try dsimp only
    go_wp2_with fail
    go_ret
    exact ⟨by rw [hx'.out, hy'.out]; rfl, rfl⟩
  | false =>
    have cy := Lib.hid (cth.out false)
    go_wp2_with fail
    refine cy.out.mono ?_
    rintro e w1 ⟨rfl, hw1⟩
    subst w1
    try dsimp only
    go_wp2_with fail
    go_ret
    exact ⟨by rw [hx'.out]; rfl, rfl⟩
theorem car3_any (hs : Has W Bs [.int .i64 s] 3) (ht : Has W Bt [.int .i64 t] 3) :
    Calls Tryz.prog 124 #[.pointer (some ⟨Bs, 0, none⟩), .pointer (some ⟨Bt, 0, none⟩)] W fun e w' => e = .returned (.int .i64 (thatI (s != t) 6)) ∧ w' = W := by
  have s0 := hs.cell 0 rfl
  have sl := hs.lt
  have t0 := ht.cell 0 rfl
  have tl := ht.lt
  have cth := Lib.hid (that_any (s != t) 6 W)
  clear hs ht
  go_enter Tryz.func124, Tryz.ntmps124
  go_wp2_with fail
  refine cth.out.mono ?_
  rintro e w1 ⟨rfl, hw1⟩
  subst w1
  try dsimp only
  go_wp2_with fail
  go_ret
  exact ⟨rfl, rfl⟩
end
theorem any_zero {n : Nat} {L : List Ed} {f : List Int} {s t : Nat} (hs : s < n) (ht : t < n) : (((overL n L f).set s 0).set t 0).any (· != 0) = !zeroB n L f s t := by
  have hl : (((overL n L f).set s 0).set t 0).length = n := by simp [overL_len]
  have hg : ∀ v, v < n → (((overL n L f).set s 0).set t 0)[v]? = some (if v = t then 0 else if v = s then 0 else exc L f (v : Int)) := fun v hv => by
    by_cases c1 : v = t
    · subst c1
      rw [if_pos rfl, List.getElem?_set_self (by simp [overL_len]; exact hv)]
    · rw [if_neg c1, List.getElem?_set_ne (fun e => c1 e.symm)]
      by_cases c2 : v = s
      · subst c2
        rw [if_pos rfl, List.getElem?_set_self (by simp [overL_len]; exact hv)]
      · rw [if_neg c2, List.getElem?_set_ne (fun e => c2 e.symm), overL_get hv]
  cases hz : zeroB n L f s t with
  | true =>
    unfold zeroB at hz
    simp only [List.all_eq_true, List.mem_range, Bool.or_eq_true, decide_eq_true_eq] at hz
    simp only [Bool.not_true, List.any_eq_false]
    intro x hx
    obtain ⟨v, hv, he⟩ := List.getElem_of_mem hx
    have h1 := hg v (by omega)
    rw [List.getElem?_eq_getElem hv, he] at h1
    injection h1 with h1
    rw [h1]
    rcases hz v (by omega) with (h2 | h2) | h2
    · rw [if_pos (show v = s by omega)]; simp
    · rw [if_pos (show v = t by omega)]; simp
    · rw [h2]; simp
  | false =>
    have hn : ¬ ∀ v, v < n → ((v : Int) = (s : Int) ∨ (v : Int) = (t : Int)) ∨ exc L f (v : Int) = 0 := fun hc => by
      have : zeroB n L f s t = true := by
        unfold zeroB
        simp only [List.all_eq_true, List.mem_range, Bool.or_eq_true, decide_eq_true_eq]
        exact hc
      rw [this] at hz; cases hz
    simp only [Bool.not_false, List.any_eq_true]
    have : ∃ v, v < n ∧ v ≠ s ∧ v ≠ t ∧ exc L f (v : Int) ≠ 0 := by
      refine Classical.byContradiction fun hc => hn fun v hv => ?_
      by_cases c1 : v = s
      · exact .inl (.inl (by omega))
      · by_cases c2 : v = t
        · exact .inl (.inr (by omega))
        · by_cases c3 : exc L f (v : Int) = 0
          · exact .inr c3
          · exact absurd ⟨v, hv, c1, c2, c3⟩ hc
    obtain ⟨v, hv, c1, c2, c3⟩ := this
    have h1 := hg v hv
    rw [if_neg c2, if_neg c1] at h1
    exact ⟨_, List.mem_of_getElem? h1, by simpa using c3⟩
end Edge
end Go.Proofs.YtjpfmkfikidgkaaGreat

set_option linter.unusedVariables false
set_option linter.unusedSimpArgs false
namespace Go.Proofs.YtjpfmkfikidgkaaGreat
open Go.RowKit
namespace Edge
def u64n (l : List Nat) : List Value := l.map fun (x : Nat) => Value.int .u64 (x : Int)
def bitN (ws : List Nat) (v : Nat) : Bool := (ws.getD (v / 64) 0).testBit (v % 64)
/-- A set of the room n that holds the vertices of X. -/
def SetP (bs n : Nat) (X : Nat → Bool) : Part := fun w F => ∃ (gw : Nat) (ws : List Nat), (ws.length = (n + 63) / 64 ∧ (∀ x ∈ ws, x < 18446744073709551616) ∧ ∀ v, v < n → bitN ws v = X v) ∧
  Parts w [Blk bs [.int .i64 n, .slice (some ⟨gw, 0, none⟩) ((n + 63) / 64) ((n + 63) / 64)] 361, Row 308 1 ((n + 63) / 64) (.slice (some ⟨gw, 0, none⟩) ((n + 63) / 64) ((n + 63) / 64)) (u64n ws)] F
instance (bs n : Nat) (X : Nat → Bool) : Good (SetP bs n X) where
  lt h := by obtain ⟨_, _, _, h⟩ := h; exact h.lt
  keep h m hd := by obtain ⟨gw, ws, h0, h⟩ := h; exact ⟨gw, ws, h0, h.keep m hd⟩
theorem u64n_getD {l : List Nat} {k : Nat} (hk : k < l.length) : (u64n l)[k]? = some (.int .u64 ((l.getD k 0 : Nat) : Int)) := by
  unfold u64n
  rw [List.getElem?_map, List.getD_eq_getElem?_getD, List.getElem?_eq_getElem hk]; rfl
theorem u64n_set (l : List Nat) (k x : Nat) : (u64n l).set k (.int .u64 (x : Int)) = u64n (l.set k x) := by simp [u64n, List.map_set]
theorem setO {w0 w : World} {bs n : Nat} {X : Nat → Bool} {R : List Part} (h : Sep w0 w (SetP bs n X :: R)) : ∃ (gw : Nat) (ws : List Nat), (ws.length = (n + 63) / 64 ∧ (∀ x ∈ ws, x < 18446744073709551616) ∧ ∀ v, v < n → bitN ws v = X v) ∧
    Sep w0 w (Blk bs [.int .i64 n, .slice (some ⟨gw, 0, none⟩) ((n + 63) / 64) ((n + 63) / 64)] 361 :: Row 308 1 ((n + 63) / 64) (.slice (some ⟨gw, 0, none⟩) ((n + 63) / 64) ((n + 63) / 64)) (u64n ws) :: R) := by
  obtain ⟨F, ⟨gw, ws, h0, _⟩, _, hk⟩ := h.first
  obtain ⟨F1, ⟨g, Fa, Fb, rfl, ⟨gw, ws, h0, h1⟩, h2, h3⟩, h4, h5⟩ := h.out
  exact ⟨gw, ws, h0, Fa ++ Fb, h1.app h2 h3, h4, h5⟩
theorem mkSet {w0 w : World} {bs n gw : Nat} {ws : List Nat} {X : Nat → Bool} {R : List Part} (h0 : ws.length = (n + 63) / 64 ∧ (∀ x ∈ ws, x < 18446744073709551616) ∧ ∀ v, v < n → bitN ws v = X v)
    (h : Sep w0 w (Blk bs [.int .i64 n, .slice (some ⟨gw, 0, none⟩) ((n + 63) / 64) ((n + 63) / 64)] 361 :: Row 308 1 ((n + 63) / 64) (.slice (some ⟨gw, 0, none⟩) ((n + 63) / 64) ((n + 63) / 64)) (u64n ws) :: R)) : Sep w0 w (SetP bs n X :: R) :=
  Sep.shut (P := SetP bs n X) (L := [_, _]) h (fun F hF => ⟨gw, ws, h0, hF⟩)
theorem and_bit (x k : Nat) : (x &&& 2 ^ k != 0) = x.testBit k := by
  cases hb : x.testBit k with
  | true =>
    have h1 : (x &&& 2 ^ k).testBit k = true := by rw [Nat.testBit_and, hb, Nat.testBit_two_pow]; simp
    have h2 : x &&& 2 ^ k ≠ 0 := fun e => by rw [e] at h1; simp at h1
    simpa using h2
  | false =>
    have h2 : x &&& 2 ^ k = 0 := by
      refine Nat.eq_of_testBit_eq fun i => ?_
      rw [Nat.testBit_and, Nat.testBit_two_pow, Nat.zero_testBit]
      by_cases h : k = i
      · subst h; rw [hb]; rfl
      · simp [h]
    simp [h2]
theorem or_bit (x k j : Nat) : (x ||| 2 ^ k).testBit j = (decide (k = j) || x.testBit j) := by
  rw [Nat.testBit_or, Nat.testBit_two_pow, Bool.or_comm]
theorem or_lt {x k : Nat} (hx : x < 18446744073709551616) (hk : k < 64) : x ||| 2 ^ k < 18446744073709551616 := by
  have h1 : (2 : Nat) ^ k < 2 ^ 64 := Nat.pow_lt_pow_right (by omega) hk
  exact Nat.or_lt_two_pow (n := 64) (by omega) h1
section
variable {w0 w : World} {bs n : Nat} {X : Nat → Bool} {R : List Part}
theorem sroom_sep (h : Sep w0 w (SetP bs n X :: R)) : Calls Tryz.prog 298 #[.pointer (some ⟨bs, 0, none⟩)] w fun e w' => e = .returned (.int .i64 n) ∧ w' = w := by
  obtain ⟨gw, ws, h0, hS⟩ := setO h
  have b0 := (hS.blkAt 0 rfl).cell 0 rfl
  have bl := (hS.blkAt 0 rfl).lt
  clear h hS h0
  go_enter Tryz.func298, Tryz.ntmps298
  go_wp2
  go_ret
  exact ⟨rfl, rfl⟩
def BitOut (n gw : Nat) (v : Int) (w : World) (e : Ending) (w' : World) : Prop := (e = .returned (if inV n v = true then .tuple #[.pointer (some ⟨gw, v.toNat / 64, none⟩), .int .u64 ((2 ^ (v.toNat % 64) : Nat) : Int), .bool true] else .tuple #[.pointer none, .int .u64 0, .bool false])) ∧ Mod [] w w'
set_option maxRecDepth 100000 in
set_option maxHeartbeats 4000000 in
theorem bit_sep (h : Sep w0 w (SetP bs n X :: R)) (hn : n ≤ 4096) {gw : Nat} {ws : List Nat} (hS : Sep w0 w (Blk bs [.int .i64 n, .slice (some ⟨gw, 0, none⟩) ((n + 63) / 64) ((n + 63) / 64)] 361 :: Row 308 1 ((n + 63) / 64) (.slice (some ⟨gw, 0, none⟩) ((n + 63) / 64) ((n + 63) / 64)) (u64n ws) :: R)) (v : Int) :
    Calls Tryz.prog 282 #[.pointer (some ⟨bs, 0, none⟩), .int .i64 v] w (BitOut n gw v w) := by
  have cR := Lib.hid (sroom_sep h)
  have b1 := (hS.blkAt 0 rfl).cell 1 rfl
  have bl := (hS.blkAt 0 rfl).lt
  have lg : gw < w.heap.size := own_lt (hS.rowAt 1 rfl) (g := gw) rfl
  obtain ⟨M, hM⟩ : ∃ M, (n + 63) / 64 = M := ⟨_, rfl⟩
  rw [hM] at b1
  clear h hS
  go_enter Tryz.func282, Tryz.ntmps282
  by_cases h0 : v < 0
  · have t0 : decide (v < 0) = true := by simpa using h0
    have hno := Lib.hid (show inV n v = false by unfold inV; rw [decide_eq_false (by omega)]; rfl)
    clear h0
    go_wp2_with fail
    exact bodyPost_ret (v := .tuple #[.pointer none, .int .u64 0, .bool false]) (by simp [results, Tryz.results282, go_sem]) rfl ⟨by rw [hno.out]; rfl, Mod.refl _ _⟩
  have t0 : decide (v < 0) = false := by simpa using h0
  by_cases h1 : (n : Int) ≤ v
  · have t1 : decide ((n : Int) ≤ v) = true := by simpa using h1
    have hno := Lib.hid (show inV n v = false by unfold inV; rw [decide_eq_false (show ¬ v < (n : Int) by omega), Bool.and_false])
    clear h0 h1
    go_wp2_with (go_at_call 298; refine cR.out.mono ?_; rintro e w1 ⟨rfl, hw1⟩; subst w1)
    exact bodyPost_ret (v := .tuple #[.pointer none, .int .u64 0, .bool false]) (by simp [results, Tryz.results282, go_sem]) rfl ⟨by rw [hno.out]; rfl, Mod.refl _ _⟩
  · have t1 : decide ((n : Int) ≤ v) = false := by simpa using h1
    obtain ⟨v, rfl⟩ := Int.eq_ofNat_of_zero_le (show 0 ≤ v by omega)
    have t1' : decide (n ≤ v) = false := by simp; omega
    have hyes := Lib.hid (show inV n (v : Int) = true from inV_iff.2 ⟨by omega, by omega⟩)
    have hv4 : v < 4096 := by omega
    obtain ⟨q, hq⟩ : ∃ q, v / 64 = q := ⟨_, rfl⟩
    obtain ⟨r, hr⟩ : ∃ r, v % 64 = r := ⟨_, rfl⟩
    have hqi : (v : Int) / 64 = (q : Int) := by omega
    have hri : (v : Int) % 64 = (r : Int) := by omega
    have hqM : (q : Int) < M := by omega
    have hr64 : r < 64 := by omega
    have hqi' := Lib.hid hqi
    have hq' := Lib.hid hq
    have hr' := Lib.hid hr
    clear h0 h1 hM hq hr
    go_upto_region 3 with (go_at_call 298; refine cR.out.mono ?_; rintro e w1 ⟨rfl, hw1⟩; subst w1)
    go_quiet (fail)
    have hw : IntKind.u64.wrap ((2 : Int) ^ r) = ((2 ^ r : Nat) : Int) := by
      have h1 : (2 : Nat) ^ r < 2 ^ 64 := Nat.pow_lt_pow_right (by omega) hr64
      have h2 : ((2 : Int) ^ r) = ((2 ^ r : Nat) : Int) := by push_cast; rfl
      rw [h2]
      generalize 2 ^ r = y at *
      rw [IntKind.wrap_u64]
      omega
    rw [hw]
    go_wp2_with fail
    refine bodyPost_ret (v := .tuple #[.pointer (some ⟨gw, q, none⟩), .int .u64 ((2 ^ r : Nat) : Int), .bool true]) (by simp [results, Tryz.results282, go_sem]) rfl ⟨?_, (Mod.refl [] w).drewN _⟩
    rw [hyes.out, if_pos rfl, Int.toNat_natCast, hq'.out, hr'.out]
set_option maxRecDepth 100000 in
set_option maxHeartbeats 4000000 in
theorem has_sep (h : Sep w0 w (SetP bs n X :: R)) (hn : n ≤ 4096) (v : Int) :
    Calls Tryz.prog 253 #[.pointer (some ⟨bs, 0, none⟩), .int .i64 v] w fun e w' => e = .returned (.bool (inV n v && X v.toNat)) ∧ Mod [] w w' := by
  obtain ⟨gw, ws, ⟨hl, hb, hx⟩, hS⟩ := setO h
  have cB := Lib.hid (bit_sep h hn hS v)
  have hS' := Lib.hid hS
  go_enter Tryz.func253, Tryz.ntmps253
  cases hi : inV n v with
  | false =>
    have cB2 : Hid (Calls Tryz.prog 282 #[.pointer (some ⟨bs, 0, none⟩), .int .i64 v] w fun e w' => e = .returned (.tuple #[.pointer none, .int .u64 0, .bool false]) ∧ Mod [] w w') := Lib.hid (by
      have h1 := cB.out
      unfold BitOut at h1
      rw [hi] at h1
      exact h1)
    clear h hS cB hl hb hx hi hS'
    go_wp2_with fail
    refine cB2.out.mono ?_
    rintro e w1 ⟨rfl, hm1⟩
    have hm1' := Lib.hid hm1
    clear hm1
    try dsimp only
    go_wp2_with fail
    go_ret
    exact ⟨rfl, hm1'.out⟩
  | true =>
    obtain ⟨h0, h1⟩ := inV_iff.1 hi
    obtain ⟨v, rfl⟩ := Int.eq_ofNat_of_zero_le h0
    have cB2 : Hid (Calls Tryz.prog 282 #[.pointer (some ⟨bs, 0, none⟩), .int .i64 (v : Int)] w fun e w' => e = .returned (.tuple #[.pointer (some ⟨gw, v / 64, none⟩), .int .u64 ((2 ^ (v % 64) : Nat) : Int), .bool true]) ∧ Mod [] w w') := Lib.hid (by
      have h1 := cB.out
      unfold BitOut at h1
      rw [hi, if_pos rfl, Int.toNat_natCast] at h1
      exact h1)
    have hxv := hx v (by omega)
    have hqw : v / 64 < ws.length := by rw [hl]; omega
    have hwl := hb (ws.getD (v / 64) 0) (by rw [List.getD_eq_getElem?_getD, List.getElem?_eq_getElem hqw]; exact List.getElem_mem _)
    have hcell := Lib.hid (fun W (m : Mod [] w W) => show W.cell? ⟨gw, v / 64, none⟩ = some (.int .u64 ((ws.getD (v / 64) 0 : Nat) : Int)) by
      have h5 := ((hS'.out.still m).rowAt 1 rfl).cellAt (v / 64) (by omega)
      rw [u64n_getD hqw] at h5
      exact h5)
    have hlt := Lib.hid (fun W (m : Mod [] w W) => show gw < W.heap.size from own_lt ((hS'.out.still m).rowAt 1 rfl) (g := gw) rfl)
    rw [Int.toNat_natCast, Bool.true_and, ← hxv]
    unfold bitN
    have h264 : (2 : Nat) ^ (v % 64) < 18446744073709551616 := by
      have := Nat.pow_lt_pow_right (a := 2) (by omega) (show v % 64 < 64 by omega)
      omega
    have hand := u64_and_nat (ws.getD (v / 64) 0) (2 ^ (v % 64)) hwl h264
    have hbt := and_bit (ws.getD (v / 64) 0) (v % 64)
    clear h hS cB hl hb hx hi hS' h0 h1 hxv hqw
    generalize v / 64 = q at *
    generalize v % 64 = r at *
    generalize ws.getD q 0 = x at *
    generalize 2 ^ r = y at *
    have t1 : (((x &&& y : Nat) : Int) != 0) = x.testBit r := by
      rw [← hbt]
      cases hc : (x &&& y != 0) <;> simp at hc ⊢ <;> omega
    have t1' := Lib.hid t1
    generalize hz : x.testBit r = z at *
    clear hbt hz t1
    go_wp2_with fail
    refine cB2.out.mono ?_
    rintro e w1 ⟨rfl, hm1⟩
    have hm1' := Lib.hid hm1
    have c0 := hcell.out _ hm1
    have cl := hlt.out _ hm1
    clear hm1
    try dsimp only
    go_wp2_with fail
    go_ret
    exact ⟨by rw [← t1'.out]; rfl, hm1'.out⟩
end
end Edge
end Go.Proofs.YtjpfmkfikidgkaaGreat

set_option linter.unusedVariables false
set_option linter.unusedSimpArgs false
namespace Go.Proofs.YtjpfmkfikidgkaaGreat
open Go.RowKit
namespace Edge
/-- With one more. -/
def updS (n : Nat) (X : Nat → Bool) (v : Int) : Nat → Bool := fun u => if inV n v = true ∧ (u : Int) = v then true else X u
theorem SetP.congr {bs n : Nat} {X Y : Nat → Bool} (h : ∀ v, v < n → X v = Y v) {w : World} {F : List Nat} (hp : SetP bs n X w F) : SetP bs n Y w F := by
  obtain ⟨gw, ws, ⟨h1, h2, h3⟩, h4⟩ := hp
  exact ⟨gw, ws, ⟨h1, h2, fun v hv => (h3 v hv).trans (h v hv)⟩, h4⟩
theorem set_congr {w0 w : World} {bs n : Nat} {X Y : Nat → Bool} {R : List Part} (hS : Sep w0 w (SetP bs n X :: R)) (h : ∀ v, v < n → X v = Y v) : Sep w0 w (SetP bs n Y :: R) := by
  obtain ⟨F, h1, h2, h3⟩ := hS.first
  exact h3 _ w F (SetP.congr h h1) (Mod.refl _ _) (fun b hb => .inl hb)
theorem bits_put {n v : Nat} {ws : List Nat} {X : Nat → Bool} (hv : v < n) (h : ws.length = (n + 63) / 64 ∧ (∀ x ∈ ws, x < 18446744073709551616) ∧ ∀ v, v < n → bitN ws v = X v) :
    (ws.set (v / 64) (ws.getD (v / 64) 0 ||| 2 ^ (v % 64))).length = (n + 63) / 64 ∧ (∀ x ∈ ws.set (v / 64) (ws.getD (v / 64) 0 ||| 2 ^ (v % 64)), x < 18446744073709551616) ∧ ∀ u, u < n → bitN (ws.set (v / 64) (ws.getD (v / 64) 0 ||| 2 ^ (v % 64))) u = updS n X v u := by
  obtain ⟨h1, h2, h3⟩ := h
  have hq : v / 64 < ws.length := by rw [h1]; omega
  have hx : ws.getD (v / 64) 0 < 18446744073709551616 := h2 _ (by rw [List.getD_eq_getElem?_getD, List.getElem?_eq_getElem hq]; exact List.getElem_mem _)
  refine ⟨by rw [List.length_set]; exact h1, fun x hx' => ?_, fun u hu => ?_⟩
  · rcases List.mem_or_eq_of_mem_set hx' with h | h
    · exact h2 x h
    · rw [h]; exact or_lt hx (Nat.mod_lt _ (by omega))
  · have hi : inV n (v : Int) = true := inV_iff.2 ⟨by omega, by omega⟩
    unfold updS
    by_cases he : u = v
    · subst he
      rw [if_pos ⟨hi, rfl⟩]
      unfold bitN
      rw [List.getD_eq_getElem?_getD, List.getElem?_set_self hq]
      show (ws.getD (u / 64) 0 ||| 2 ^ (u % 64)).testBit (u % 64) = true
      rw [or_bit]; simp
    · rw [if_neg (fun h => he (by omega)), ← h3 u hu]
      unfold bitN
      by_cases hqq : u / 64 = v / 64
      · rw [hqq, List.getD_eq_getElem?_getD, List.getElem?_set_self hq]
        show (ws.getD (v / 64) 0 ||| 2 ^ (v % 64)).testBit (u % 64) = _
        rw [or_bit, decide_eq_false (by omega), Bool.false_or]
      · rw [List.getD_eq_getElem?_getD, List.getElem?_set_ne (fun e => hqq e.symm), ← List.getD_eq_getElem?_getD]
section
variable {w0 w : World} {bs n : Nat} {X : Nat → Bool} {R : List Part}
set_option maxRecDepth 100000 in
set_option maxHeartbeats 8000000 in
theorem put_setS (h : Sep w0 w (SetP bs n X :: R)) (hn : n ≤ 4096) (v : Int) :
    Calls Tryz.prog 281 #[.pointer (some ⟨bs, 0, none⟩), .int .i64 v] w fun e w' => ∃ b, e = .returned (.bool b) ∧ Sep w0 w' (SetP bs n (updS n X v) :: R) := by
  obtain ⟨gw, ws, h0, hS⟩ := setO h
  have cB := Lib.hid (bit_sep h hn hS v)
  have hS' := Lib.hid hS
  have hh := Lib.hid h
  go_enter Tryz.func281, Tryz.ntmps281
  cases hi : inV n v with
  | false =>
    have cB2 : Hid (Calls Tryz.prog 282 #[.pointer (some ⟨bs, 0, none⟩), .int .i64 v] w fun e w' => e = .returned (.tuple #[.pointer none, .int .u64 0, .bool false]) ∧ Mod [] w w') := Lib.hid (by
      have h1 := cB.out
      unfold BitOut at h1
      rw [hi] at h1
      exact h1)
    have hup := Lib.hid (show ∀ u, u < n → X u = updS n X v u from fun u _ => by unfold updS; rw [hi, if_neg (by simp)])
    clear h hS cB hi hS' h0
    go_wp2_with fail
    refine cB2.out.mono ?_
    rintro e w1 ⟨rfl, hm1⟩
    have hS1 := Lib.hid (set_congr (hh.out.still hm1) hup.out)
    clear hm1
    try dsimp only
    go_wp2_with fail
    go_ret
    exact ⟨false, rfl, hS1.out⟩
  | true =>
    obtain ⟨hv0, hv1⟩ := inV_iff.1 hi
    obtain ⟨v, rfl⟩ := Int.eq_ofNat_of_zero_le hv0
    have hvn : v < n := by omega
    have cB2 : Hid (Calls Tryz.prog 282 #[.pointer (some ⟨bs, 0, none⟩), .int .i64 (v : Int)] w fun e w' => e = .returned (.tuple #[.pointer (some ⟨gw, v / 64, none⟩), .int .u64 ((2 ^ (v % 64) : Nat) : Int), .bool true]) ∧ Mod [] w w') := Lib.hid (by
      have h1 := cB.out
      unfold BitOut at h1
      rw [hi, if_pos rfl, Int.toNat_natCast] at h1
      exact h1)
    have hqw : v / 64 < ws.length := by rw [h0.1]; omega
    have hwl := h0.2.1 (ws.getD (v / 64) 0) (by rw [List.getD_eq_getElem?_getD, List.getElem?_eq_getElem hqw]; exact List.getElem_mem _)
    have hall := Lib.hid (fun W (m : Mod [] w W) => show W.cell? ⟨gw, v / 64, none⟩ = some (.int .u64 ((ws.getD (v / 64) 0 : Nat) : Int)) ∧ W.frozen? ⟨gw, v / 64, none⟩ = false ∧ gw < W.heap.size by
      have h5 := ((hS'.out.still m).rowAt 1 rfl).cellAt (v / 64) (by omega)
      rw [u64n_getD hqw] at h5
      exact ⟨h5, ((hS'.out.still m).rowAt 1 rfl).frozenAt _, own_lt ((hS'.out.still m).rowAt 1 rfl) (g := gw) rfl⟩)
    have hset := Lib.hid (fun W (m : Mod [] w W) => show Sep w0 (W.setCell ⟨gw, v / 64, none⟩ (.int .u64 ((ws.getD (v / 64) 0 ||| 2 ^ (v % 64) : Nat) : Int))) (SetP bs n (updS n X v) :: R) by
      have h5 := (hS'.out.still m).rowsetAt 1 rfl (v / 64) (.int .u64 ((ws.getD (v / 64) 0 ||| 2 ^ (v % 64) : Nat) : Int))
      rw [u64n_set] at h5
      exact mkSet (bits_put hvn h0) h5)
    have h264 : (2 : Nat) ^ (v % 64) < 18446744073709551616 := by
      have := Nat.pow_lt_pow_right (a := 2) (by omega) (show v % 64 < 64 by omega)
      omega
    have hor := u64_or_nat (ws.getD (v / 64) 0) (2 ^ (v % 64)) hwl h264
    have hand := u64_and_nat (ws.getD (v / 64) 0) (2 ^ (v % 64)) hwl h264
    have hin : (ws.getD (v / 64) 0 &&& 2 ^ (v % 64) != 0) = true → ∀ u, u < n → X u = updS n X v u := by
      intro hb u hu
      rw [and_bit] at hb
      unfold updS
      by_cases he : u = v
      · subst he
        rw [if_pos ⟨hi, rfl⟩, ← h0.2.2 u hu]
        exact hb
      · rw [if_neg (fun h => he (by omega))]
    have hin' := Lib.hid hin
    clear h hS cB h0 hi hS' hv0 hv1 hqw hin
    generalize v / 64 = q at *
    generalize v % 64 = r at *
    generalize ws.getD q 0 = x at *
    generalize 2 ^ r = y at *
    cases hc : (x &&& y != 0) with
    | true =>
      have t1 : (((x &&& y : Nat) : Int) != 0) = true := by simp at hc ⊢; omega
      have hsame := Lib.hid (hin'.out hc)
      clear hc
      go_wp2_with fail
      refine cB2.out.mono ?_
      rintro e w1 ⟨rfl, hm1⟩
      obtain ⟨c0, cf, cl⟩ := hall.out _ hm1
      have hS1 := Lib.hid (set_congr (hh.out.still hm1) hsame.out)
      clear hm1
      try dsimp only
      go_wp2_with fail
      go_ret
      exact ⟨false, rfl, hS1.out⟩
    | false =>
      have t1 : (((x &&& y : Nat) : Int) != 0) = false := by simp at hc ⊢; omega
      clear hc
      go_wp2_with fail
      refine cB2.out.mono ?_
      rintro e w1 ⟨rfl, hm1⟩
      obtain ⟨c0, cf, cl⟩ := hall.out _ hm1
      have hS1 := Lib.hid (hset.out _ hm1)
      clear hm1
      try dsimp only
      go_wp2_with fail
      go_ret
      exact ⟨true, rfl, hS1.out⟩
end
end Edge
end Go.Proofs.YtjpfmkfikidgkaaGreat

set_option linter.unusedVariables false
set_option linter.unusedSimpArgs false
namespace Go.Proofs.YtjpfmkfikidgkaaGreat
open Go.RowKit
namespace Edge
theorem infoU64v : (Tryz.prog.info? 308).map (fun i => (i.zero, i.size, i.bytes)) = some (some (.int .u64 0), 1, 8) := by kernel_rfl
theorem u64n_none (m : Nat) : u64n (List.replicate m 0) = List.replicate m (.int .u64 0) := by simp [u64n]
theorem none_bits (n : Nat) : (List.replicate ((n + 63) / 64) 0).length = (n + 63) / 64 ∧ (∀ x ∈ List.replicate ((n + 63) / 64) 0, x < 18446744073709551616) ∧ ∀ v, v < n → bitN (List.replicate ((n + 63) / 64) 0) v = (fun _ => false) v := by
  refine ⟨by simp, fun x hx => by rw [List.eq_of_mem_replicate hx]; omega, fun v hv => ?_⟩
  unfold bitN
  have : (List.replicate ((n + 63) / 64) 0).getD (v / 64) 0 = 0 := by
    rw [List.getD_eq_getElem?_getD, List.getElem?_replicate]
    split <;> rfl
  rw [this]; simp
set_option maxRecDepth 100000 in
set_option maxHeartbeats 4000000 in
theorem new_setS {w0 w : World} {n : Nat} {R : List Part} (hS : Sep w0 w R) (hn : n ≤ 4096) :
    Calls Tryz.prog 280 #[.int .i64 n] w fun e w' => ∃ bs, e = .returned (.pointer (some ⟨bs, 0, none⟩)) ∧ Sep w0 w' (SetP bs n (fun _ => false) :: R) := by
  obtain ⟨M, hM⟩ : ∃ M, (n + 63) / 64 = M := ⟨_, rfl⟩
  have hmk := make_run (P := Tryz.prog) 359 308 (.int .u64 0) 8 Tryz.underlying359 infoU64v rfl (by omega) M (by omega)
  have hS1 := Lib.hid (by
    have h1 := (hS.made (made_made w 308 (.int .u64 0) M (by omega))).box [.int .i64 n, .slice (some ⟨w.heap.size, 0, none⟩) M M] 361
    rw [← u64n_none, ← hM] at h1
    exact mkSet (none_bits n) h1)
  have hq : ((n : Int) + 64 - 1) / 64 = (M : Int) := by omega
  have hmx : max (n : Int) 0 = n := by omega
  have hmn : min (n : Int) 4096 = n := by omega
  rw [hM] at hS1
  clear hS hM
  go_enter Tryz.func280, Tryz.ntmps280
  go_wp2_with fail
  go_ret
  exact ⟨w.heap.size + 1, rfl, by have := hS1.out; rw [World.size_alloc] at this; exact this⟩
theorem updS_take {n k : Nat} {l : List Int} (hk : k < l.length) : ∀ u, u < n → updS n (fun u => decide ((u : Int) ∈ l.take k)) (l.getD k 0) u = decide ((u : Int) ∈ l.take (k + 1)) := by
  intro u hu
  have e : l.take (k + 1) = l.take k ++ [l.getD k 0] := by
    rw [List.take_succ_eq_append_getElem hk, List.getD_eq_getElem?_getD, List.getElem?_eq_getElem hk]; rfl
  rw [e]
  unfold updS
  by_cases h : (u : Int) = l.getD k 0
  · rw [if_pos ⟨inV_iff.2 ⟨by omega, by omega⟩, h⟩]
    simp [h]
  · rw [if_neg (fun hh => h hh.2), decide_eq_decide, List.mem_append, List.mem_singleton]
    exact ⟨fun c => .inl c, fun c => c.elim id (fun c => absurd c h)⟩
set_option maxRecDepth 100000 in
set_option maxHeartbeats 4000000 in
theorem of_setS {w : World} {n : Nat} (hn : n ≤ 4096) {l : List Int} {v : Value} (h : Rd w 1 v l.length (i64s l)) :
    Calls Tryz.prog 251 #[.int .i64 n, v] w fun e w' => ∃ bs, e = .returned (.pointer (some ⟨bs, 0, none⟩)) ∧ Sep w w' [SetP bs n (fun u => decide ((u : Int) ∈ l))] := by
  obtain ⟨a, c, rfl⟩ := h.val
  have hle := h.le
  have cN := Lib.hid (new_setS (Sep.empty w) hn)
  have h' := Lib.hid h
  clear h
  go_enter Tryz.func251, Tryz.ntmps251
  go_wp2_with fail
  refine cN.out.mono ?_
  rintro e w1 ⟨bs, rfl, hS⟩
  have hS1 := Lib.hid (set_congr (Y := fun u => decide ((u : Int) ∈ l.take 0)) hS (by simp))
  clear hS cN
  try dsimp only
  go_wp2_with fail
  go_loopw [12] (fun s12 wr => ∃ k : Nat, k ≤ l.length ∧ s12 = .int .i64 k ∧ Hid (Sep w wr [SetP bs n (fun u => decide ((u : Int) ∈ l.take k))])) (fun s12 _ => l.length - (intOf s12).toNat)
  case atStart => exact ⟨0, Nat.zero_le _, rfl, hS1⟩
  case round =>
    clear hS1
    obtain ⟨k, hk, rfl, hS⟩ := hrel
    by_cases hlt : k < l.length
    · have hlt1 : (k : Int) < l.length := by omega
      obtain ⟨g, o, rfl, hg, hcell⟩ := rd_cell h'.out hlt
      have c0 := hcell _ k (.int .i64 (l.getD k 0)) hS.out.mod (i64s_getD hlt)
      have lg : g < wr.heap.size := Nat.lt_of_lt_of_le hg hS.out.mod.size
      have cP := Lib.hid (put_setS hS.out hn (l.getD k 0))
      have hup := Lib.hid (updS_take (n := n) hlt)
      clear hcell hS
      generalize l.getD k 0 = y at *
      go_wp2_with fail
      refine cP.out.mono ?_
      rintro e w2 ⟨b, rfl, hS2⟩
      have hS3 := Lib.hid (set_congr hS2 hup.out)
      clear hS2 cP
      try dsimp only
      go_wp2_with fail
      go_roundw
      case rel => exact ⟨k + 1, by omega, by go_num, hS3⟩
      case measure => simp [intOf]; omega
    · have hkl : k = l.length := by omega
      rw [hkl, List.take_length] at hS
      clear hkl hk
      go_wp2_with fail
      go_ret
      exact ⟨bs, rfl, hS.out⟩
end Edge
end Go.Proofs.YtjpfmkfikidgkaaGreat

set_option linter.unusedVariables false
set_option linter.unusedSimpArgs false
namespace Go.Proofs.YtjpfmkfikidgkaaGreat
open Go.RowKit
namespace Edge
/-- Has it just one end in the set? -/
def crosses (n : Nat) (X : Nat → Bool) (e : Ed) : Bool := (inV n e.1 && X e.1.toNat) != (inV n e.2.1 && X e.2.1.toNat)
/-- Those of the first k edges that cross. -/
def crossAt (n : Nat) (X : Nat → Bool) (L : List Ed) : Nat → List (Nat × Ed)
  | 0 => []
  | k + 1 => if crosses n X (L.getD k (0, 0, 0)) then crossAt n X L k ++ [(k, L.getD k (0, 0, 0))] else crossAt n X L k
def encIE (p : Nat × Ed) : Array Value := #[.int .i64 p.1, edV p.2]
theorem Mod.kc {w w' : World} (m : Mod [] w w') (L : List (Addr × Value)) : KC L w w' := fun p hp h => (World.cell?_of_block (m.block _ (World.block_lt_of_cell? _ _ h) (by simp))).trans h
theorem oper_yield {P : Program} {o : Oper} {a : Act} {w : World} {l : Nat} {args : Array Value} {R : Ending → World → Prop} {K : Act → World → Prop} {Q : Exit → Act → World → Prop} (hy : YieldAt Fence.wide 2 P l args w R)
    (he : (execOp a.eval o).run P w = (Instr.yield l args).run P w) (hR : ∀ e w', R e w' → ∃ v, e = .returned v ∧ K (a.put o.dst v) w') : o.wpIn Fence.wide 3 P a w K Q := by
  obtain ⟨fn, tmps, assign, body, hrun, hr⟩ := hy
  refine ⟨fun f _ => trivial, ?_⟩
  show Oper.uponIn _ _ _ _ _ _ _ ((Oper.semAt none _ _).run P w)
  rw [Oper.semAt_none, he, hrun, Oper.uponIn_round]
  refine ⟨fun h => by simp [Fence.wide] at h, hr.mono ?_⟩
  intro e w' h
  obtain ⟨v, rfl, hk⟩ := hR e w' h
  exact hk
set_option maxRecDepth 100000 in
set_option maxHeartbeats 16000000 in
theorem crossing_it {w0 : World} {b bs n B1 B2 : Nat} {L : List Ed} {X : Nat → Bool} {R : List Part} (hG : GOk n L)
    (hEd : ∀ W, Mod [] w0 W → Calls Tryz.prog 92 #[.pointer (some ⟨b, 0, none⟩)] W fun e w' => ∃ a c, e = .returned (.slice a L.length c) ∧ Made W w' 146 3 a L.length c (flat encEd L))
    (hHas : ∀ W, Mod [] w0 W → ∀ v, Calls Tryz.prog 253 #[.pointer (some ⟨bs, 0, none⟩), .int .i64 v] W fun e w' => e = .returned (.bool (inV n v && X v.toNat)) ∧ Mod [] W w') :
    ItSep Tryz.prog 252 #[.pointer (some ⟨B1, 0, none⟩), .pointer (some ⟨B2, 0, none⟩)] encIE w0 (fun _ => [])
      (fun _ => Blk B1 [.pointer (some ⟨b, 0, none⟩)] 25 :: Blk B2 [.pointer (some ⟨bs, 0, none⟩)] 279 :: R)
      (fun p => ∃ k, k < L.length ∧ p = crossAt n X L (k + 1)) (fun p => p = crossAt n X L L.length) (fun _ => True) := by
  intro O Ox l W hO hOx hround hS
  have hlen := hG.len
  have hn4 := hG.le
  have hG' := Lib.hid hG
  clear hG
  have cE := Lib.hid (hEd W hS.mod)
  have hHas' := Lib.hid hHas
  clear hEd hHas
  have g1 := (hS.blkAt 1 rfl).cell 0 rfl
  have gl := (hS.blkAt 1 rfl).lt
  have hS0 := Lib.hid hS
  have hround' := Lib.hid hround
  clear hS hround
  rw [show (#[Value.func (.yield l) #[] #[]] ++ #[.pointer (some ⟨B1, 0, none⟩), .pointer (some ⟨B2, 0, none⟩)] : Array Value) = #[.func (.yield l) #[] #[], .pointer (some ⟨B1, 0, none⟩), .pointer (some ⟨B2, 0, none⟩)] from rfl]
  go_enter Tryz.func252, Tryz.ntmps252
  go_wp2_with fail
  refine cE.out.mono ?_
  rintro e w2 ⟨ax, cx, rfl, hmd⟩
  have hS1 := Lib.hid ((hS0.out.made hmd).swap)
  clear hmd hS0 cE g1 gl
  try dsimp only
  go_wp2_with fail
  go_loopw [9] (fun s9 wr => ∃ k : Nat, k ≤ L.length ∧ s9 = .int .i64 k ∧ Hid (Sep w0 wr (O (crossAt n X L k) :: Row 146 3 L.length (.slice ax L.length cx) (flat encEd L) :: Blk B1 [.pointer (some ⟨b, 0, none⟩)] 25 :: Blk B2 [.pointer (some ⟨bs, 0, none⟩)] 279 :: R))) (fun s9 _ => L.length - (intOf s9).toNat)
  case atStart => exact ⟨0, Nat.zero_le _, rfl, hS1⟩
  case round =>
    clear hS1
    obtain ⟨k, hk, rfl, hS⟩ := hrel
    by_cases hlt : k < L.length
    · have hlt1 : (k : Int) < L.length := by omega
      obtain ⟨ge, rfl, hge, _, q0, q1, q2⟩ := ed_row (hS.out.rowAt 1 rfl) hlt
      have hS1 := Lib.hid (hS.out.box (encEd L[k]) 146)
      have hLk : L.getD k (0, 0, 0) = L[k] := by rw [List.getD_eq_getElem?_getD, List.getElem?_eq_getElem hlt]; rfl
      have hY : crossAt n X L (k + 1) = if crosses n X L[k] then crossAt n X L k ++ [(k, L[k])] else crossAt n X L k := by
        rw [crossAt, hLk]
      have hT := Lib.hid (show ∃ k', k' < L.length ∧ crossAt n X L (k + 1) = crossAt n X L (k' + 1) from ⟨k, hlt, rfl⟩)
      clear hS hLk
      generalize hE : L[k] = E at *
      clear hE
      obtain ⟨u, v, x⟩ := E
      simp only [encEd] at hS1
      go_upto_region 3 with fail
      have hSd := Lib.hid (hS1.out.still (Mod.refl [] _).drew)
      clear hS1
      generalize wr.alloc (.cells #[.int .i64 u, .int .i64 v, .int .i64 x] 146) = W3 at *
      generalize wr.heap.size = Be at *
      obtain ⟨LL, hLL⟩ : ∃ LL : List (Addr × Value), LL = [(⟨B2, 0, none⟩, .pointer (some ⟨bs, 0, none⟩)), (⟨Be, 0, none⟩, .int .i64 u), (⟨Be, 1, none⟩, .int .i64 v), (⟨Be, 2, none⟩, .int .i64 x)] := ⟨_, rfl⟩
      have hLL' := Lib.hid hLL
      have m2 : ((⟨B2, 0, none⟩ : Addr), Value.pointer (some ⟨bs, 0, none⟩)) ∈ LL := by rw [hLL]; simp
      have m3 : ((⟨Be, 0, none⟩ : Addr), Value.int .i64 u) ∈ LL := by rw [hLL]; simp
      have m4 : ((⟨Be, 1, none⟩ : Addr), Value.int .i64 v) ∈ LL := by rw [hLL]; simp
      have m5 : ((⟨Be, 2, none⟩ : Addr), Value.int .i64 x) ∈ LL := by rw [hLL]; simp
      clear hLL
      have k0 := KC.one ((hSd.out.blkAt 4 rfl).cell 0 rfl) m2
      have k1 := KC.one ((hSd.out.blkAt 0 rfl).cell 0 rfl) m3
      have k2 := KC.one ((hSd.out.blkAt 0 rfl).cell 1 rfl) m4
      obtain ⟨p, hp⟩ : ∃ p, (inV n u && X u.toNat) = p := ⟨_, rfl⟩
      obtain ⟨q, hq⟩ : ∃ q, (inV n v && X v.toNat) = q := ⟨_, rfl⟩
      have hc : crosses n X (u, v, x) = (p != q) := by unfold crosses; rw [hp, hq]
      rw [hc] at hY
      have cU := Lib.hid (fun W (m : Mod [] W3.drew W) => hp ▸ hHas'.out W (hSd.out.mod.trans m (by simp)) u)
      have cV := Lib.hid (fun W (m : Mod [] W3.drew W) => hq ▸ hHas'.out W (hSd.out.mod.trans m (by simp)) v)
      clear hp hq hc
      have hY' := Lib.hid hY
      clear hY
      cases p <;> cases q
      case' false.true => have hY2 := Lib.hid (show crossAt n X L (k + 1) = crossAt n X L k ++ [(k, (u, v, x))] by rw [hY'.out]; rfl)
      case' true.false => have hY2 := Lib.hid (show crossAt n X L (k + 1) = crossAt n X L k ++ [(k, (u, v, x))] by rw [hY'.out]; rfl)
      case false.true | true.false =>
        clear hY'
        refine region_schedY (G := KC LL) [([0,1,2,4,5,6],3), ([],7), ([8,9,10,11,12],13)] [14,15] (by kernel_rfl) (by kernel_rfl) (by kernel_rfl) rfl (KC.refl _) (KC.trans _) ?_
        simp only [stages, pickO, nthO, headO, List.append_eq, List.cons_append, List.nil_append]
        refine schedY_step ?_
        repeat (go_big_quiet_step (fail))
        refine wpQuiet_nil ?_
        intro K hK
        rw [if_pos (by rfl)]
        left
        go_simp
        refine (cU.out _ (Mod.refl _ _)).mono ?_
        rintro e w4 ⟨rfl, h4⟩
        dsimp only
        refine hK.out _ _ (Mod.kc h4 _) ?_
        clear hK K k0 k1 k2
        refine schedY_step ?_
        refine wpQuiet_nil ?_
        intro K hK
        rw [if_pos (by rfl)]
        left
        go_simp
        refine (cV.out _ h4).mono ?_
        rintro e w5 ⟨rfl, h5⟩
        dsimp only
        refine hK.out _ _ (Mod.kc h5 _) ?_
        clear hK K cU cV
        have hS5 := Lib.hid (hSd.out.still (h4.trans h5 (by simp)))
        clear h4 h5
        have k1 := KC.one ((hS5.out.blkAt 0 rfl).cell 0 rfl) m3
        have k2 := KC.one ((hS5.out.blkAt 0 rfl).cell 1 rfl) m4
        have k3 := KC.one ((hS5.out.blkAt 0 rfl).cell 2 rfl) m5
        refine schedY_step ?_
        repeat (go_big_quiet_step (fail))
        refine wpQuiet_nil ?_
        intro K hK
        rw [if_pos (by rfl)]
        right
        refine oper_yield (hround'.out (crossAt n X L k) (k, (u, v, x)) _ w5 (by rw [← hY2]; exact hT.out) (hS5.out.pick 1 (by simp))) (by simp [execOp, encIE, edV, go_sem]) ?_
        rintro e w6 hor
        have hkc : ∀ {P' : Part} {L' : List Part}, Sep w0 w6 (P' :: Blk Be [.int .i64 u, .int .i64 v, .int .i64 x] 146 :: Row 146 3 L.length (.slice (some ⟨ge, 0, none⟩) L.length cx) (flat encEd L) :: Blk B1 [.pointer (some ⟨b, 0, none⟩)] 25 :: Blk B2 [.pointer (some ⟨bs, 0, none⟩)] 279 :: L') → KC LL w5 w6 := by
          intro P' L' h6 p hp _
          rw [hLL'.out] at hp
          simp only [List.mem_cons, List.mem_nil_iff, or_false] at hp
          rcases hp with rfl | rfl | rfl | rfl
          · exact (h6.blkAt 4 rfl).cell 0 rfl
          · exact (h6.blkAt 1 rfl).cell 0 rfl
          · exact (h6.blkAt 1 rfl).cell 1 rfl
          · exact (h6.blkAt 1 rfl).cell 2 rfl
        rcases hor with ⟨rfl, h6⟩ | ⟨rfl, h6⟩
        · refine ⟨_, rfl, ?_⟩
          go_simp
          refine hK.out _ _ (hkc h6) ?_
          clear hK K k1 k2 k3 hkc hS5 m2 m3 m4 m5 hLL' hround' hSd
          have h7 := Lib.hid (h6.swap.tail)
          clear h6
          refine schedY_last ?_
          repeat (go_big_quiet_step (fail))
          refine wpQuiet_nil ?_
          go_wp2_with fail
          apply_assumption
          go_wp2_with fail
          go_roundw
          case rel => exact ⟨k + 1, by omega, by go_num, Lib.hid (hY2.out ▸ h7.out)⟩
          case measure => simp [intOf]; omega
        · refine ⟨_, rfl, ?_⟩
          go_simp
          refine hK.out _ _ (hkc h6) ?_
          clear hK K k1 k2 k3 hkc hS5 m2 m3 m4 m5 hLL' hround' hSd
          have h7 := Lib.hid (h6.swap.tail.swap.tail)
          clear h6
          refine schedY_last ?_
          repeat (go_big_quiet_step (fail))
          refine wpQuiet_nil ?_
          go_wp2_with fail
          apply_assumption
          go_wp2_with fail
          (try simp only [Exit.inBlock, Exit.then])
          refine bodyPost_ret (v := .tuple #[]) (by simp [results, Tryz.results252, go_sem]) rfl ?_
          exact ⟨⟨_, rfl⟩, .inr ⟨_, trivial, h7.out⟩⟩
      case false.false | true.true =>
        have hY2 := Lib.hid (show crossAt n X L (k + 1) = crossAt n X L k by rw [hY'.out]; rfl)
        clear hY'
        refine region_schedY (G := KC LL) [([0,1,2,4,5,6],3), ([],7), ([8,9,10,11,12],13)] [14,15] (by kernel_rfl) (by kernel_rfl) (by kernel_rfl) rfl (KC.refl _) (KC.trans _) ?_
        simp only [stages, pickO, nthO, headO, List.append_eq, List.cons_append, List.nil_append]
        refine schedY_step ?_
        repeat (go_big_quiet_step (fail))
        refine wpQuiet_nil ?_
        intro K hK
        rw [if_pos (by rfl)]
        left
        go_simp
        refine (cU.out _ (Mod.refl _ _)).mono ?_
        rintro e w4 ⟨rfl, h4⟩
        dsimp only
        refine hK.out _ _ (Mod.kc h4 _) ?_
        clear hK K k0 k1 k2
        refine schedY_step ?_
        refine wpQuiet_nil ?_
        intro K hK
        rw [if_pos (by rfl)]
        left
        go_simp
        refine (cV.out _ h4).mono ?_
        rintro e w5 ⟨rfl, h5⟩
        dsimp only
        refine hK.out _ _ (Mod.kc h5 _) ?_
        clear hK K cU cV
        have h7 := Lib.hid ((hSd.out.still (h4.trans h5 (by simp))).tail)
        clear h4 h5 hSd hround' hLL' m2 m3 m4 m5
        refine schedY_step ?_
        repeat (go_big_quiet_step (fail))
        refine wpQuiet_nil ?_
        intro K hK
        rw [if_neg (by exact Bool.false_ne_true)]
        go_simp
        refine hK.out _ _ (KC.refl _ _) ?_
        clear hK K
        refine schedY_last ?_
        repeat (go_big_quiet_step (fail))
        refine wpQuiet_nil ?_
        go_wp2_with fail
        apply_assumption
        go_wp2_with fail
        go_roundw
        case rel => exact ⟨k + 1, by omega, by go_num, Lib.hid (hY2.out ▸ h7.out)⟩
        case measure => simp [intOf]; omega
    · have hkl : k = L.length := by omega
      subst hkl
      have h7 := Lib.hid (hS.out.swap.tail)
      clear hS hlt hk hround'
      go_wp2_with fail
      (try simp only [Exit.inBlock, Exit.then])
      refine bodyPost_end (v := .tuple #[]) (by simp [results, Tryz.results252, go_sem]) rfl ?_
      exact ⟨⟨_, rfl⟩, .inl ⟨_, rfl, h7.out⟩⟩
end Edge
end Go.Proofs.YtjpfmkfikidgkaaGreat

set_option linter.unusedVariables false
set_option linter.unusedSimpArgs false
namespace Go.Proofs.YtjpfmkfikidgkaaGreat
open Go.RowKit
namespace Edge
theorem pushW_take {L : List Ed} {f : List Int} {P : List Nat} {x : Int} {k : Nat} (hk : k < P.length) : pushW L f (P.take (k + 1)) x = pushI L (pushW L f (P.take k) x) ((P.getD k 0 : Nat) : Int) x := by
  rw [List.take_succ_eq_append_getElem hk]
  unfold pushW
  rw [List.foldl_append, List.getD_eq_getElem?_getD, List.getElem?_eq_getElem hk]
  rfl
set_option maxRecDepth 100000 in
set_option maxHeartbeats 8000000 in
theorem along_sep {W0 w : World} {r ba n : Nat} {L : List Ed} {f : List Int} {P : List Nat} {a : Option Addr} {m c : Nat} {R : List Part} (hm : P.length = m) (hm2 : m ≤ 4096) (hS : Sep W0 w (RestP r ba n L f :: ArcP ba n L :: Row 3 1 m (.slice a m c) (i64s (ints P)) :: R)) (hG : GOk n L) (hF : FB L f) (x : Int) :
    Calls Tryz.prog 192 #[.pointer (some ⟨r, 0, none⟩), .slice a m c, .int .i64 x] w fun e w' => e = .returned (.tuple #[]) ∧ Sep W0 w' (RestP r ba n L (pushW L f P x) :: ArcP ba n L :: Row 3 1 m (.slice a m c) (i64s (ints P)) :: R) := by
  have hS0 : Hid (Sep W0 w (RestP r ba n L (pushW L f (P.take 0) x) :: ArcP ba n L :: Row 3 1 m (.slice a m c) (i64s (ints P)) :: R)) := Lib.hid hS
  have hG' := Lib.hid hG
  have hF' := Lib.hid hF
  have hm' := Lib.hid hm
  clear hS hG hF hm
  go_enter Tryz.func192, Tryz.ntmps192
  go_wp2_with fail
  go_loopw [10] (fun s10 wr => ∃ k : Nat, k ≤ m ∧ s10 = .int .i64 k ∧ Hid (Sep W0 wr (RestP r ba n L (pushW L f (P.take k) x) :: ArcP ba n L :: Row 3 1 m (.slice a m c) (i64s (ints P)) :: R))) (fun s10 _ => m - (intOf s10).toNat)
  case atStart => exact ⟨0, Nat.zero_le _, rfl, hS0⟩
  case round =>
    clear hS0
    obtain ⟨k, hk, rfl, hS⟩ := hrel
    by_cases hlt : k < m
    · have hlt1 : (k : Int) < m := by omega
      obtain ⟨g, rfl, hgl, _, hcell⟩ := row_form (hS.out.rowAt 2 rfl) (by omega)
      have hkP : k < P.length := by rw [hm'.out]; exact hlt
      have cX := hcell k (.int .i64 ((P.getD k 0 : Nat) : Int)) (by
        have : (ints P)[k]? = some ((P.getD k 0 : Nat) : Int) := by
          unfold ints
          rw [List.getElem?_map, List.getElem?_eq_getElem hkP, List.getD_eq_getElem?_getD, List.getElem?_eq_getElem hkP]; rfl
        exact i64s_got this)
      have hst := Lib.hid (pushW_take (L := L) (f := f) (x := x) hkP)
      have cP := Lib.hid (rpush_sep hS.out hG'.out (hF'.out.pushW (P.take k) x) ((P.getD k 0 : Nat) : Int) x)
      clear hcell hkP hS
      generalize P.getD k 0 = y at *
      go_wp2_with fail
      refine cP.out.mono ?_
      rintro e w2 ⟨rfl, hS2⟩
      have hS3 := Lib.hid hS2
      clear hS2 cP cX hgl
      try dsimp only
      go_wp2_with fail
      go_roundw
      case rel => exact ⟨k + 1, by omega, by go_num, by rw [hst.out]; exact hS3⟩
      case measure => simp [intOf]; omega
    · have hkm : k = P.length := by rw [hm'.out]; omega
      have hend := Lib.hid (by
        have h5 := hS.out
        rw [hkm, List.take_length] at h5
        exact h5)
      have hlt1 : ¬ (k : Int) < m := by omega
      clear hS hkm
      go_wp2_with fail
      (try simp only [Exit.inBlock, Exit.then])
      refine bodyPost_end (v := .tuple #[]) (by simp [results, Tryz.results192, go_sem]) rfl ?_
      exact ⟨rfl, hend.out⟩
end Edge
end Go.Proofs.YtjpfmkfikidgkaaGreat

set_option linter.unusedVariables false
set_option linter.unusedSimpArgs false
namespace Go.Proofs.YtjpfmkfikidgkaaGreat
open Go.RowKit
namespace Edge
/-- What stays at the vertex t, as it stands in memory. -/
def overAt (w : World) (r t : Nat) : Int := match w.cell? ⟨r, 2, none⟩ with
  | some (.slice (some a) _ _) => (match w.cell? ⟨a.block, t, none⟩ with | some v => intOf v | none => 0)
  | _ => 0
theorem overAt_eq {w : World} {r ba n t : Nat} {L : List Ed} {f : List Int} {F : List Nat} (h : RestP r ba n L f w F) (ht : t < n) : overAt w r t = exc L f (t : Int) := by
  obtain ⟨gl, go, hr⟩ := h.rd
  have b2 := hr.hb.cell 2 rfl
  have c0 : w.cell? ⟨go, t, none⟩ = some (.int .i64 (exc L f (t : Int))) := by
    have := hr.over.cellAt t (by have := hr.over.1; omega)
    rw [i64s_got (overL_get ht)] at this
    exact this
  unfold overAt
  rw [b2]
  simp only [c0, intOf]
theorem overAt_sep {w0 w : World} {r ba n t : Nat} {L : List Ed} {f : List Int} {R : List Part} (h : Sep w0 w (RestP r ba n L f :: R)) (ht : t < n) : overAt w r t = exc L f (t : Int) := by
  obtain ⟨F, h1, _⟩ := h.first
  exact overAt_eq h1 ht
/-- A step as it comes: the way, what goes along it, where the way lies. -/
abbrev Stp := (List Nat × Int) × (Option Addr × Nat)
def encSt (p : Stp) : Array Value := #[.slice p.2.1 p.1.1.length p.2.2, .int .i64 p.1.2]
def onlyS (pre : List Stp) : List (List Nat × Int) := pre.map fun p => p.1
theorem onlyS_snoc (pre : List Stp) (p : Stp) : onlyS (pre ++ [p]) = onlyS pre ++ [p.1] := by simp [onlyS]
def stG (p : Stp) : List Part := [Row 3 1 p.1.1.length (.slice p.2.1 p.1.1.length p.2.2) (i64s (ints p.1.1))]
def stR (r ba n B1 B2 B3 : Nat) (L : List Ed) (s t : Int) (f0 : List Int) (R0 : List Part) (pre : List Stp) : List Part :=
  RestP r ba n L (flowW L f0 (onlyS pre)) :: ArcP ba n L :: Blk B1 [.pointer (some ⟨r, 0, none⟩)] 29 :: Blk B2 [.int .i64 s] 3 :: Blk B3 [.int .i64 t] 3 :: R0
def stT (n : Nat) (L : List Ed) (s t : Int) (f0 : List Int) (pre : List Stp) : Prop := PreW n L s t f0 (onlyS pre)
def stS (n : Nat) (L : List Ed) (s t : Int) (f0 : List Int) (pre : List Stp) : Prop := PreW n L s t f0 (onlyS pre) ∧ IsDone n L s t (flowW L f0 (onlyS pre))
theorem wayP_len {n : Nat} {L : List Ed} {f D : List Int} {s t : Int} {l : List Nat} (hG : GOk n L) (hD : LevI n (Arc L f) t D) (h : WayP n L f D s l) : l.length ≤ 4096 := by
  have hn4 := hG.le
  unfold WayP at h
  split at h
  · rename_i hc
    rw [h.len]
    unfold LevI at hD
    split at hD
    · have := (hD.2 s.toNat (by omega)).lt (fun h => arc_lt hG h) (by omega)
      omega
    · rw [hD, List.getD_eq_getElem?_getD, List.getElem?_replicate, if_pos (by omega)] at hc
      have := hc.2.2
      exact absurd this (by decide)
  · rw [h]; simp
set_option maxRecDepth 100000 in
set_option maxHeartbeats 16000000 in
theorem steps_it {w0 : World} {r ba n B1 B2 B3 : Nat} {L : List Ed} {f0 : List Int} {R0 : List Part} (hG : GOk n L) (hF : FB L f0) (s : Int) {t : Nat} (ht : t < n) :
    ItSep Tryz.prog 191 #[.pointer (some ⟨B1, 0, none⟩), .pointer (some ⟨B2, 0, none⟩), .pointer (some ⟨B3, 0, none⟩)] encSt w0 stG (stR r ba n B1 B2 B3 L s (t : Int) f0 R0) (stT n L s (t : Int) f0) (stS n L s (t : Int) f0) (stT n L s (t : Int) f0) := by
  intro O Ox l W hO hOx hround hS
  have hG' := Lib.hid hG
  have hF' := Lib.hid hF
  have hround' := Lib.hid hround
  have hS0 : Hid (Sep w0 W (RestP r ba n L (flowW L f0 (onlyS [])) :: ArcP ba n L :: O [] :: Blk B1 [.pointer (some ⟨r, 0, none⟩)] 29 :: Blk B2 [.int .i64 s] 3 :: Blk B3 [.int .i64 (t : Int)] 3 :: R0)) := Lib.hid (hS.picks [1, 1])
  clear hS hround hG hF
  rw [show (#[Value.func (.yield l) #[] #[]] ++ #[.pointer (some ⟨B1, 0, none⟩), .pointer (some ⟨B2, 0, none⟩), .pointer (some ⟨B3, 0, none⟩)] : Array Value) = #[.func (.yield l) #[] #[], .pointer (some ⟨B1, 0, none⟩), .pointer (some ⟨B2, 0, none⟩), .pointer (some ⟨B3, 0, none⟩)] from rfl]
  go_enter Tryz.func191, Tryz.ntmps191
  go_wp2_with fail
  go_loopw [5, 6] (fun _ _ wr => ∃ pre : List Stp, Hid (stT n L s (t : Int) f0 pre) ∧ Hid (Sep w0 wr (RestP r ba n L (flowW L f0 (onlyS pre)) :: ArcP ba n L :: O pre :: Blk B1 [.pointer (some ⟨r, 0, none⟩)] 29 :: Blk B2 [.int .i64 s] 3 :: Blk B3 [.int .i64 (t : Int)] 3 :: R0))) (fun _ _ wr => (total L - overAt wr r t).toNat)
  case atStart => exact ⟨[], Lib.hid trivial, hS0⟩
  case round =>
    clear hS0
    obtain ⟨pre, hT, hS⟩ := hrel
    have b1 := (hS.out.blkAt 3 rfl).cell 0 rfl
    have l1 := (hS.out.blkAt 3 rfl).lt
    have b2 := (hS.out.blkAt 4 rfl).cell 0 rfl
    have l2 := (hS.out.blkAt 4 rfl).lt
    have b3 := (hS.out.blkAt 5 rfl).cell 0 rfl
    have l3 := (hS.out.blkAt 5 rfl).lt
    have hov := Lib.hid (overAt_sep hS.out ht)
    have cW := Lib.hid (way_sep hS.out hG'.out s (t : Int))
    have hFf := Lib.hid (hF'.out.flowW (onlyS pre))
    clear hS
    go_wp2_with fail
    refine cW.out.mono ?_
    rintro e w2 ⟨D, P, a, c, hD, hDl, hW, rfl, hS⟩
    have hm4 := wayP_len hG'.out hD hW
    obtain ⟨m, hm⟩ : ∃ m, P.length = m := ⟨_, rfl⟩
    rw [hm] at hS hm4
    have hm' := Lib.hid hm
    have hS2 := Lib.hid (hS.picks [1, 1])
    have hst := Lib.hid (show ∃ D, LevI n (Arc L (flowW L f0 (onlyS pre))) (t : Int) D ∧ D.length = n ∧ WayP n L (flowW L f0 (onlyS pre)) D s P from ⟨D, hD, hDl, hW⟩)
    rw [hm]
    clear hm hD hDl hW hS cW b1 l1 b2 l2 b3 l3
    try dsimp only
    have b1 := (hS2.out.blkAt 4 rfl).cell 0 rfl
    have l1 := (hS2.out.blkAt 4 rfl).lt
    have cR := Lib.hid (room_sep hS2.out hG'.out (l := ints P) (v := .slice a m c) (by rw [ints_len, hm'.out]; exact Rd.own (hS2.out.rowAt 2 rfl)))
    obtain ⟨x, hx⟩ : ∃ x, roomL L (flowW L f0 (onlyS pre)) (ints P) = x := ⟨_, rfl⟩
    rw [hx] at cR
    have hx' := Lib.hid hx
    clear hx
    go_wp2_with fail
    refine cR.out.mono ?_
    rintro e w3 ⟨rfl, hw3⟩
    subst w3
    clear cR
    try dsimp only
    by_cases hP0 : P = []
    · have hx0 : x = 0 := by rw [← hx'.out, hP0]; exact roomL_nil
      subst hx0
      have hdn := Lib.hid (show IsDone n L s (t : Int) (flowW L f0 (onlyS pre)) by
        have h5 := hst.out
        rw [hP0] at h5
        exact h5)
      have hS9 := Lib.hid (show Sep w0 w2 (O pre :: stR r ba n B1 B2 B3 L s (t : Int) f0 R0 pre) from ((hS2.out.picks [2]).tail).picks [2])
      clear hP0 hS2 hst hx' b1 l1 hround'
      go_wp2_with fail
      (try simp only [Exit.inBlock, Exit.then])
      refine bodyPost_ret (v := .tuple #[]) (by simp [results, Tryz.results191, go_sem]) rfl ?_
      exact ⟨⟨_, rfl⟩, .inl ⟨pre, ⟨hT.out, hdn.out⟩, hS9.out⟩⟩
    · have hstep := Lib.hid (show IsStep n L s (t : Int) (flowW L f0 (onlyS pre)) P x from ⟨hst.out, hP0, hx'.out.symm⟩)
      have hxp := hstep.out.pos
      have t0 : (x == 0) = false := by simp; omega
      have cA := Lib.hid (along_sep hm'.out hm4 hS2.out hG'.out hFf.out x)
      have hexc := Lib.hid (hstep.out.exc hG'.out hFf.out)
      have hbd := Lib.hid ((exc_in (hFf.out.pushW P x) (fun e he => by have := hG'.out.ends e he; omega) (t : Int)).2)
      clear hP0 hst hx' hS2
      go_wp2_with fail
      refine cA.out.mono ?_
      rintro e w4 ⟨rfl, hS4⟩
      have hS5 := Lib.hid hS4
      clear hS4 cA b1 l1
      try dsimp only
      go_upto_region 4 with fail
      obtain rfl : m = P.length := hm'.out.symm
      have hy := hround'.out pre ((P, x), (a, c)) (RestP r ba n L (pushW L (flowW L f0 (onlyS pre)) P x) :: ArcP ba n L :: Blk B1 [.pointer (some ⟨r, 0, none⟩)] 29 :: Blk B2 [.int .i64 s] 3 :: Blk B3 [.int .i64 (t : Int)] 3 :: R0) w4 (by
        unfold stT
        rw [onlyS_snoc]
        exact PreW.snoc hT.out hstep.out) (hS5.out.picks [3, 2])
      have hy' := Lib.hid hy
      clear hy hS5
      refine (wpIn_wide (n := 3)).1 ?_
      apply wpIn_region_lit
      gi_wp2_with (refine oper_yield hy'.out (by simp [execOp, encSt, go_sem]) ?_)
      rintro e w5 (⟨rfl, hS6⟩ | ⟨rfl, hS6⟩)
      · refine ⟨_, rfl, ?_⟩
        have hfw := Lib.hid (show flowW L f0 (onlyS (pre ++ [((P, x), (a, c))])) = pushW L (flowW L f0 (onlyS pre)) P x by rw [onlyS_snoc, flowW_snoc])
        have hT2 := Lib.hid (show stT n L s (t : Int) f0 (pre ++ [((P, x), (a, c))]) by
          unfold stT
          rw [onlyS_snoc]
          exact PreW.snoc hT.out hstep.out)
        have hS7 : Hid (Sep w0 w5 (RestP r ba n L (flowW L f0 (onlyS (pre ++ [((P, x), (a, c))]))) :: ArcP ba n L :: O (pre ++ [((P, x), (a, c))]) :: Blk B1 [.pointer (some ⟨r, 0, none⟩)] 29 :: Blk B2 [.int .i64 s] 3 :: Blk B3 [.int .i64 (t : Int)] 3 :: R0)) := Lib.hid (by
          rw [hfw.out]
          exact hS6.picks [1, 1])
        have hov2 := Lib.hid (overAt_sep hS7.out ht)
        clear hS6 hy'
        gi_wp2_with fail
        go_wp2_with fail
        go_roundw
        case rel => exact ⟨_, hT2, hS7⟩
        case measure =>
          have e1 := hov.out
          have e2 := hov2.out
          rw [hfw.out] at e2
          have e3 := hexc.out
          have e4 := hbd.out
          rw [e1, e2, e3]
          omega
      · refine ⟨_, rfl, ?_⟩
        have hfw := Lib.hid (show flowW L f0 (onlyS (pre ++ [((P, x), (a, c))])) = pushW L (flowW L f0 (onlyS pre)) P x by rw [onlyS_snoc, flowW_snoc])
        have hT2 := Lib.hid (show stT n L s (t : Int) f0 (pre ++ [((P, x), (a, c))]) by
          unfold stT
          rw [onlyS_snoc]
          exact PreW.snoc hT.out hstep.out)
        have hS7 := Lib.hid (show Sep w0 w5 (Ox (pre ++ [((P, x), (a, c))]) :: stR r ba n B1 B2 B3 L s (t : Int) f0 R0 (pre ++ [((P, x), (a, c))])) by
          unfold stR
          rw [hfw.out]
          exact hS6)
        clear hS6 hy'
        gi_wp2_with fail
        go_wp2_with fail
        (try simp only [Exit.inBlock, Exit.then])
        refine bodyPost_ret (v := .tuple #[]) (by simp [results, Tryz.results191, go_sem]) rfl ?_
        exact ⟨⟨_, rfl⟩, .inr ⟨_, hT2.out, hS7.out⟩⟩
end Edge
end Go.Proofs.YtjpfmkfikidgkaaGreat

set_option linter.unusedVariables false
set_option linter.unusedSimpArgs false
namespace Go.Proofs.YtjpfmkfikidgkaaGreat
open Go.RowKit
namespace Code
def okC (n : Int) (l : List Int) (k : Nat) : Bool := decide (0 ≤ l.getD k 0) && decide (l.getD k 0 < n) && (k == 0 || decide (l.getD (k - 1) 0 < l.getD k 0))
def allC (n : Int) (l : List Int) : Bool := (List.range l.length).all (okC n l)
def checkC (n : Int) (l : List Int) : Int := if allC n l then (if l.length = 0 ∨ (l.length : Int) = n then 16 else 0) else 4
theorem allC_yes {n : Int} {l : List Int} (h : ∀ k, k < l.length → okC n l k = true) : allC n l = true := by
  unfold allC
  simp only [List.all_eq_true, List.mem_range]
  exact h
theorem allC_no {n : Int} {l : List Int} {k : Nat} (hk : k < l.length) (h : okC n l k = false) : checkC n l = 4 := by
  have : allC n l = false := by
    cases ha : allC n l with
    | false => rfl
    | true =>
      unfold allC at ha
      simp only [List.all_eq_true, List.mem_range] at ha
      have := ha k hk
      rw [h] at this; cases this
  unfold checkC
  rw [this]; rfl
def lastC (l : List Int) (k : Nat) : Int := if k = 0 then -1 else l.getD (k - 1) 0
theorem okC_eq {n : Int} {l : List Int} {k : Nat} (hla : -1 ≤ lastC l k) : okC n l k = (decide (lastC l k < l.getD k 0) && decide (l.getD k 0 < n)) ∨ ¬ 0 ≤ lastC l k ∧ k ≠ 0 := by
  by_cases h0 : k = 0
  · left
    subst h0
    have e : lastC l 0 = -1 := rfl
    rw [e]
    unfold okC
    generalize l.getD 0 0 = u
    rw [Bool.eq_iff_iff]
    simp only [Bool.and_eq_true, decide_eq_true_eq, Bool.or_eq_true, beq_iff_eq, true_or, and_true]
    omega
  · have e : lastC l k = l.getD (k - 1) 0 := by unfold lastC; rw [if_neg h0]
    by_cases hp : 0 ≤ lastC l k
    · left
      rw [e] at hp ⊢
      unfold okC
      generalize l.getD k 0 = u
      generalize l.getD (k - 1) 0 = v at *
      rw [Bool.eq_iff_iff]
      simp only [Bool.and_eq_true, decide_eq_true_eq, Bool.or_eq_true, beq_iff_eq]
      omega
    · exact .inr ⟨hp, h0⟩
theorem okC_now {n : Int} {l : List Int} {k : Nat} (hla : -1 ≤ lastC l k) (hall : ∀ j, j < k → okC n l j = true) : okC n l k = (decide (lastC l k < l.getD k 0) && decide (l.getD k 0 < n)) := by
  rcases okC_eq (n := n) hla with h | ⟨h, h0⟩
  · exact h
  · exfalso
    have hp := hall (k - 1) (by omega)
    unfold okC at hp
    simp only [Bool.and_eq_true, decide_eq_true_eq] at hp
    have e : lastC l k = l.getD (k - 1) 0 := by unfold lastC; rw [if_neg h0]
    rw [e] at h
    exact h hp.1.1
set_option maxHeartbeats 2000000 in
theorem check_prog {w : World} {v : Value} (n : Int) (l : List Int) (h : Rd w 1 v l.length (vi64 l)) :
    Calls Tryz.prog 185 #[.int .i64 n, v] w fun e w' => e = .returned (.int .i64 (checkC n l)) ∧ w' = w := by
  obtain ⟨a1, c1, rfl⟩ := h.val
  have hm1 := h.le
  have h' := Lib.hid h
  clear h
  go_enter Tryz.func185, Tryz.ntmps185
  go_wp2
  go_loopw [5, 10] (fun s i wr => ∃ k : Nat, k ≤ l.length ∧ s = .int .i64 (lastC l k) ∧ i = .int .i64 k ∧ wr = w ∧ -1 ≤ lastC l k ∧ ∀ j, j < k → okC n l j = true) (fun _ i _ => l.length - (intOf i).toNat)
  case atStart => exact ⟨0, Nat.zero_le _, rfl, rfl, rfl, by unfold lastC; simp, fun j hj => by omega⟩
  case round =>
    obtain ⟨k, hk, rfl, rfl, rfl, hla, hall⟩ := hrel
    by_cases hlt : k < l.length
    · obtain ⟨g1, o1, rfl, hc1⟩ := rd_cell h'.out hlt
      have hlt1 : (k : Int) < l.length := by omega
      have hok := okC_now hla hall
      have hnext : lastC l (k + 1) = l.getD k 0 := by unfold lastC; simp
      by_cases hg : lastC l k < l.getD k 0 ∧ l.getD k 0 < n
      · have hfin : ∀ j, j < k + 1 → okC n l j = true := fun j hj => by
          rcases Nat.lt_or_ge j k with h | h
          · exact hall j h
          · rw [show j = k by omega, hok, decide_eq_true hg.1, decide_eq_true hg.2]; rfl
        have hfin' := Lib.hid hfin
        obtain ⟨q1, q2⟩ := hg
        have hnext' := Lib.hid hnext
        clear hfin hall hok hnext
        generalize lastC l k = la at *
        generalize hu : l.getD k 0 = u at *
        clear hu
        go_wp2
        go_roundw
        case rel => exact ⟨k + 1, by omega, by rw [hnext'.out], by go_num, by first | rfl | trivial, by rw [hnext'.out]; omega, hfin'.out⟩
        case measure => simp [intOf]; omega
      · have hno : checkC n l = 4 := allC_no hlt (by rw [hok]; simp only [Bool.and_eq_false_iff, decide_eq_false_iff_not]; omega)
        have hno' := Lib.hid hno
        clear hall hok hnext hno
        by_cases q1 : lastC l k < l.getD k 0
        · have q2 : ¬ l.getD k 0 < n := fun q => hg ⟨q1, q⟩
          clear hg
          generalize lastC l k = la at *
          generalize l.getD k 0 = u at *
          go_wp2
          go_ret
          exact ⟨by rw [hno'.out]; rfl, rfl⟩
        · clear hg
          generalize lastC l k = la at *
          generalize l.getD k 0 = u at *
          go_wp2
          go_ret
          exact ⟨by rw [hno'.out]; rfl, rfl⟩
    · have hk' : k = l.length := by omega
      have ha := allC_yes (by rw [← hk']; exact hall)
      have hc : checkC n l = if l.length = 0 ∨ (l.length : Int) = n then 16 else 0 := by unfold checkC; rw [ha]; rfl
      have hc' := Lib.hid hc
      clear hall hc ha hla
      generalize lastC l k = la at *
      by_cases h0 : l.length = 0
      · have q : ((l.length : Int) == 0) = true := by simp [h0]
        rw [if_pos (Or.inl h0)] at hc'
        clear h0
        go_wp2
        go_ret
        exact ⟨by rw [hc'.out]; rfl, rfl⟩
      · have q : ((l.length : Int) == 0) = false := by simpa using h0
        by_cases h1 : (l.length : Int) = n
        · have q2 : ((l.length : Int) == n) = true := by simpa using h1
          rw [if_pos (Or.inr h1)] at hc'
          clear h0 h1
          go_wp2
          go_ret
          exact ⟨by rw [hc'.out]; rfl, rfl⟩
        · have q2 : ((l.length : Int) == n) = false := by simpa using h1
          rw [if_neg (by simp [h0, h1])] at hc'
          clear h0 h1
          go_wp2
          go_ret
          exact ⟨by rw [hc'.out]; rfl, rfl⟩
end Code
end Go.Proofs.YtjpfmkfikidgkaaGreat

set_option linter.unusedVariables false
set_option linter.unusedSimpArgs false
namespace Go.Proofs.YtjpfmkfikidgkaaGreat
open Go.RowKit
namespace Edge
attribute [local go_sem] Oper.semAt_some
def inL (l : List Int) (u : Nat) : Bool := decide ((u : Int) ∈ l)
def SideSet (n : Nat) (l : List Int) (w : World) (e : Ending) (w' : World) : Prop :=
  (Code.checkC n l ≠ 0 ∧ e = .returned (.tuple #[.pointer none, .int .i64 (Code.checkC n l)]) ∧ Mod [] w w') ∨ (Code.checkC n l = 0 ∧ ∃ bs, e = .returned (.tuple #[.pointer (some ⟨bs, 0, none⟩), .int .i64 0]) ∧ Sep w w' [SetP bs n (inL l)])
set_option maxRecDepth 100000 in
set_option maxHeartbeats 16000000 in
theorem sset_any {w0 w : World} {b n : Nat} {L : List Ed} {R : List Part} {l : List Int} {v : Value} (hS : Sep w0 w (NetP b n L :: R)) (hn : n ≤ 4096) (h : Rd w 1 v l.length (i64s l)) :
    Calls Tryz.prog 212 #[.pointer (some ⟨b, 0, none⟩), v] w (SideSet n l w) := by
  obtain ⟨a, c, rfl⟩ := h.val
  have cN := Lib.hid (n_sep hS)
  have cC := Lib.hid (Code.check_prog n l h)
  have cO := Lib.hid (of_setS hn h)
  clear hS h
  by_cases h0 : Code.checkC n l = 0
  · have hX := Lib.hid h0
    rw [h0] at cC
    clear h0
    go_enter Tryz.func212, Tryz.ntmps212
    go_wp2_with (first
      | (go_at_call 72; refine cN.out.mono ?_; rintro e w1 ⟨rfl, hw1⟩; subst w1)
      | (go_at_call 185; refine cC.out.mono ?_; rintro e w1 ⟨rfl, hw1⟩; subst w1)
      | (go_at_call 251; refine cO.out.mono ?_; rintro e w1 ⟨bs, rfl, hO⟩; have hO' := Lib.hid hO; clear hO))
    exact bodyPost_ret (v := .tuple #[.pointer (some ⟨bs, 0, none⟩), .int .i64 0]) (by simp [results, Tryz.results212, go_sem]) rfl (.inr ⟨hX.out, bs, rfl, hO'.out⟩)
  · have hX := Lib.hid h0
    have t0 : (Code.checkC n l != 0) = true := by simpa using h0
    clear h0
    obtain ⟨z, hz⟩ : ∃ z, Code.checkC n l = z := ⟨_, rfl⟩
    rw [hz] at cC hX t0
    have hz' := Lib.hid hz
    clear hz
    go_enter Tryz.func212, Tryz.ntmps212
    go_wp2_with (first
      | (go_at_call 72; refine cN.out.mono ?_; rintro e w1 ⟨rfl, hw1⟩; subst w1)
      | (go_at_call 185; refine cC.out.mono ?_; rintro e w1 ⟨rfl, hw1⟩; subst w1))
    refine bodyPost_ret (v := .tuple #[.pointer none, .int .i64 z]) (by simp [results, Tryz.results212, go_sem]) rfl (.inl ?_)
    rw [hz'.out]
    exact ⟨hX.out, rfl, Mod.refl _ _⟩
/-- What a side weighs. -/
def sumX (p : List (Nat × Ed)) : Int := total (p.map (·.2))
def cutW (n : Nat) (L : List Ed) (l : List Int) : Int := if Code.checkC n l = 0 then sumX (crossAt n (inL l) L L.length) else 0
theorem sumX_snoc (p : List (Nat × Ed)) (x : Nat × Ed) : sumX (p ++ [x]) = sumX p + x.2.2.2 := by
  unfold sumX
  rw [List.map_append, total_append]
  simp [total]
theorem sumX_at {n : Nat} {X : Nat → Bool} {L : List Ed} (h : ∀ e ∈ L, 0 < e.2.2) : ∀ k, k ≤ L.length → 0 ≤ sumX (crossAt n X L k) ∧ sumX (crossAt n X L k) ≤ total (L.take k)
  | 0, _ => by simp [crossAt, sumX, total]
  | k + 1, hk => by
    have ih := sumX_at (n := n) (X := X) h k (by omega)
    have hlt : k < L.length := by omega
    have e1 : L.getD k (0, 0, 0) = L[k] := by rw [List.getD_eq_getElem?_getD, List.getElem?_eq_getElem hlt]; rfl
    have e2 : total (L.take (k + 1)) = total (L.take k) + L[k].2.2 := by
      rw [List.take_add_one, List.getElem?_eq_getElem hlt, total_append]
      simp [total]
    have hp := h _ (List.getElem_mem hlt)
    rw [crossAt, e1, e2]
    split
    · rw [sumX_snoc]; simp only; omega
    · omega
theorem sumX_pre {n : Nat} {X : Nat → Bool} {L : List Ed} (hG : GOk n L) {k : Nat} (hk : k < L.length) : ∀ {pre : List (Nat × Ed)} {x : Nat × Ed}, pre ++ [x] = crossAt n X L (k + 1) → 0 ≤ sumX pre ∧ 0 ≤ x.2.2.2 := by
  induction k with
  | zero =>
    intro pre x h
    rw [crossAt] at h
    split at h
    · have h1 : pre ++ [x] = [] ++ [(0, L.getD 0 (0, 0, 0))] := h
      obtain ⟨rfl, h2⟩ := List.append_inj' h1 rfl
      have h3 : x = (0, L.getD 0 (0, 0, 0)) := by simpa using h2
      subst h3
      have hp := hG.pos _ (List.getElem_mem hk)
      have e1 : L.getD 0 (0, 0, 0) = L[0] := by rw [List.getD_eq_getElem?_getD, List.getElem?_eq_getElem hk]; rfl
      simp only [e1]
      exact ⟨by decide, by omega⟩
    · exact absurd h (by simp [crossAt])
  | succ k ih =>
    intro pre x h
    rw [crossAt] at h
    split at h
    · obtain ⟨rfl, h2⟩ := List.append_inj' h rfl
      have h3 : x = (k + 1, L.getD (k + 1) (0, 0, 0)) := by simpa using h2
      subst h3
      have hp := hG.pos _ (List.getElem_mem hk)
      have e1 : L.getD (k + 1) (0, 0, 0) = L[k + 1] := by rw [List.getD_eq_getElem?_getD, List.getElem?_eq_getElem hk]; rfl
      simp only [e1]
      exact ⟨(sumX_at hG.pos (k + 1) (by omega)).1, by omega⟩
    · exact ih (by omega) h
def WeightOut (n : Nat) (L : List Ed) (l : List Int) (w : World) (e : Ending) (w' : World) : Prop := e = .returned (.tuple #[.int .i64 (cutW n L l), .int .i64 (Code.checkC n l)]) ∧ Mod [] w w'
/-- side.crossing: the iterator. -/
theorem crossing_any (b bs : Nat) (w : World) : Calls Tryz.prog 213 #[.pointer (some ⟨b, 0, none⟩), .pointer (some ⟨bs, 0, none⟩)] w fun e w' =>
    e = .returned (.func (.func 252) #[] #[.pointer (some ⟨w.heap.size, 0, none⟩), .pointer (some ⟨w.heap.size + 1, 0, none⟩)]) ∧
    w' = (w.alloc (.cells #[.pointer (some ⟨b, 0, none⟩)] 25)).alloc (.cells #[.pointer (some ⟨bs, 0, none⟩)] 279) := by
  go_enter Tryz.func213, Tryz.ntmps213
  go_wp2_with fail
  go_ret
  exact ⟨rfl, rfl⟩
theorem bodyPostM_ret {P : Program} {fn : Func} {R : Ending → World → Prop} {a : Act} {w : World} {v : Value} {D : Nat} (hd : a.defers = [{ target := .collected D, args := #[] }]) (hD : w.heap[D]? = some (.deferred (some [])))
    (hr : ∀ w, (results fn a.tmps).run P w = .ok v w) (hR : R (.returned v) (w.putObj D (.deferred none))) : bodyPostM Fence.wide 3 P fn R .ret a w := by
  show LeavesInM Fence.wide 3 P fn a.tmps R a.defers .returning w
  rw [hd]
  exact ⟨by simp, .inl ⟨D, _, rfl, run_takeDeferred hD, ⟨v, hr _, hR⟩⟩⟩
theorem bodyPostM_ret0 {P : Program} {fn : Func} {R : Ending → World → Prop} {a : Act} {w : World} {v : Value} (hd : a.defers = [])
    (hr : ∀ w, (results fn a.tmps).run P w = .ok v w) (hR : R (.returned v) w) : bodyPostM Fence.wide 3 P fn R .ret a w := by
  show LeavesInM Fence.wide 3 P fn a.tmps R a.defers .returning w
  rw [hd]
  exact ⟨v, hr _, hR⟩
theorem zip_two (t : Array Value) (i j : Tmp) (x y : Value) : ((#[i, j] : Array Tmp).zip #[x, y]).foldl (fun t (p : Tmp × Value) => match p with | (p, v) => t.setIfInBounds p v) t = (t.setIfInBounds i x).setIfInBounds j y := by simp
set_option maxRecDepth 100000 in
set_option maxHeartbeats 16000000 in
theorem sweight_any {w0 w : World} {b n : Nat} {L : List Ed} {R : List Part} {l : List Int} {v : Value} (hS : Sep w0 w (NetP b n L :: R)) (hG : GOk n L) (h : Rd w 1 v l.length (i64s l)) :
    Calls Tryz.prog 158 #[.pointer (some ⟨b, 0, none⟩), v] w (WeightOut n L l w) := by
  obtain ⟨a, c, rfl⟩ := h.val
  have cS := Lib.hid (sset_any hS hG.le h)
  have hNet := Lib.hid hS
  have hG' := Lib.hid hG
  clear hS h hG
  refine callsIn_wide.1 (callsIn_of_wp_marks (n := 3) Tryz.func158 rfl trivial (wpIn_wide.2 ?_))
  simp only [Tryz.ntmps158, List.size_toArray, List.length_cons, List.length_nil, Nat.reduceAdd, Nat.reduceSub, Array.replicate_succ, Array.replicate_zero, List.push_toArray, List.append_toArray, List.nil_append, List.cons_append]
  go_wp2_with fail
  refine cS.out.mono ?_
  rintro e w1 (⟨hc, rfl, hm⟩ | ⟨hc, bs, rfl, hX⟩)
  · have hW := Lib.hid (show cutW n L l = 0 by unfold cutW; rw [if_neg hc])
    have t0 : (Code.checkC n l != 0) = true := by simpa using hc
    clear hc
    have hm' := Lib.hid hm
    clear hm
    obtain ⟨z, hz⟩ : ∃ z, Code.checkC n l = z := ⟨_, rfl⟩
    have hz' := Lib.hid hz
    rw [hz] at t0 ⊢
    clear hz
    try dsimp only
    go_wp2_with fail
    exact bodyPostM_ret0 (v := .tuple #[.int .i64 0, .int .i64 z]) rfl (fun w => by simp [results, Tryz.results158, go_sem]) ⟨by rw [hW.out, hz'.out], hm'.out⟩
  · have hc' := Lib.hid hc
    have hS1 := Lib.hid (hNet.out.stack hX)
    have hw1 := Lib.hid hX.mod
    have hEd := Lib.hid (fun W (m : Mod [] w1 W) => edges_sep ((hS1.out.still m).pick 1 (by simp)) hG'.out.len)
    have hHas := Lib.hid (fun W (m : Mod [] w1 W) v => has_sep (hS1.out.still m) hG'.out.le v)
    clear hc hX hS1 hNet
    try dsimp only
    go_wp2_with (go_at_call 213; refine (crossing_any b bs _).mono ?_; rintro e w2 ⟨rfl, rfl⟩)
    have hS2 := Lib.hid ((((Sep.empty w1).box [.int .i64 0] 2).box [.pointer (some ⟨b, 0, none⟩)] 25).box [.pointer (some ⟨bs, 0, none⟩)] 279)
    try simp only [World.size_alloc] at hS2
    try simp only [World.size_alloc]
    generalize ((w1.alloc (.cells #[.int .i64 0] 2)).alloc (.cells #[.pointer (some ⟨b, 0, none⟩)] 25)).alloc (.cells #[.pointer (some ⟨bs, 0, none⟩)] 279) = w2 at *
    generalize w1.heap.size + 1 + 1 = B2 at *
    generalize w1.heap.size + 1 = B1 at *
    generalize w1.heap.size = Bw at *
    have hS3 := Lib.hid (hS2.out.picks [2, 1, 0])
    clear hS2
    obtain ⟨T, hT⟩ : ∃ T : Value → Value → Value → Array Value, T = fun s10 s23 s24 => #[.pointer (some ⟨b, 0, none⟩), .slice a l.length c, undef, undef, .int .i64 0, .int .i64 0, .pointer (some ⟨bs, 0, none⟩), .int .i64 0, .pointer (some ⟨Bw, 0, none⟩), undef, s10,
      .tuple #[.pointer (some ⟨bs, 0, none⟩), .int .i64 0], .pointer (some ⟨b, 0, none⟩), .slice a l.length c, .tuple #[.pointer (some ⟨bs, 0, none⟩), .int .i64 0], .pointer (some ⟨bs, 0, none⟩), .int .i64 0, .int .i64 0, .bool false, undef, .pointer (some ⟨b, 0, none⟩), .pointer (some ⟨bs, 0, none⟩),
      .func (.func 252) #[] #[.pointer (some ⟨B1, 0, none⟩), .pointer (some ⟨B2, 0, none⟩)], s23, s24, undef, undef, undef, undef, undef] := ⟨_, rfl⟩
    refine range_sep (crossing_it (b := b) (bs := bs) (B1 := B1) (B2 := B2) (X := inL l) (R := []) hG'.out hEd.out hHas.out) (by simp [go_sem]) (fun args w => by simp [go_sem]) (fun x => rfl)
      (fun p => Blk Bw [.int .i64 (sumX p)] 2) (fun _ _ => NoP) (fun p x a1 => ExP (fun Be => IfP (a1 = { tmps := T (.pointer (some ⟨Be, 0, none⟩)) (.int .i64 x.1) (edV x.2), defers := [] }) (AllP [Blk Be (encEd x.2) 146, Blk Bw [.int .i64 (sumX p)] 2])))
      (fun _ => inferInstance) (fun _ _ => inferInstance) hS3.out ?_ ?_ ?_ ?_
    · intro l' pre x R' W hpre hS
      have hS' := Lib.hid hS
      clear hS
      rw [encIE, zip_two]
      simp only [List.setIfInBounds_toArray, List.set_cons_succ, List.set_cons_zero]
      obtain ⟨k, u, v, y⟩ := x
      simp only [edV]
      gi_wp2
      exact Sep.toEx W.heap.size (Sep.toIf rfl (Sep.all (L := [_, _]) (hS'.out.box [.int .i64 u, .int .i64 v, .int .i64 y] 146)))
    · intro l' pre x R' a1 W hpre hS
      obtain ⟨Be, hSe⟩ := hS.ex
      obtain ⟨rfl, hSi⟩ := hSe.ifs
      have hS1 : Sep w1 W (Blk Be (encEd x.2) 146 :: Blk Bw [.int .i64 (sumX pre)] 2 :: R') := Sep.unall (L := [_, _]) hSi
      obtain ⟨k, hk, hpre⟩ := hpre
      have b1 := sumX_at (n := n) (X := inL l) hG'.out.pos (k + 1) (by omega)
      have b2 := total_take hG'.out.pos (k + 1)
      have b3 := hG'.out.tot
      rw [← hpre, sumX_snoc] at b1
      have b4 := sumX_pre hG'.out hk hpre
      have c0 := (hS1.blkAt 1 rfl).cell 0 rfl
      have c1 := (hS1.blkAt 0 rfl).cell 2 rfl
      have f0 := (hS1.blkAt 1 rfl).free 0
      have l0 := (hS1.blkAt 1 rfl).lt
      have l1 := (hS1.blkAt 0 rfl).lt
      have hS2 := Lib.hid ((hS1.swap.set 0 (.int .i64 (sumX pre + x.2.2.2))).swap.tail)
      rw [hT]
      obtain ⟨kx, u, v, y⟩ := x
      simp only [edV] at *
      clear hS hS1 hpre hSe hSi
      obtain ⟨z, hz⟩ : ∃ z, sumX pre = z := ⟨_, rfl⟩
      rw [hz] at c0 b1 b4 hS2
      have hz' := Lib.hid hz
      clear hz
      gi_wp2
      show Sep w1 _ (Blk Bw [.int .i64 (sumX (pre ++ [(kx, u, v, y)]))] 2 :: R')
      rw [sumX_snoc, hz'.out]
      exact hS2.out
    · intro D xs W hxs hS
      subst hxs
      have hS' := Lib.hid hS
      have hD := hS.obj
      have c0 := (hS.blkAt 1 rfl).cell 0 rfl
      have l0 := (hS.blkAt 1 rfl).lt
      have hW := Lib.hid (show cutW n L l = sumX (crossAt n (inL l) L L.length) by unfold cutW; rw [if_pos hc'.out])
      clear hS
      generalize sumX (crossAt n (inL l) L L.length) = z at *
      go_wp2_with fail
      exact bodyPostM_ret (v := .tuple #[.int .i64 z, .int .i64 0]) rfl hD (fun w => by simp [results, Tryz.results158, go_sem]) ⟨by rw [hW.out, hc'.out], hw1.out.trans (hS'.out.putObj _).mod (by simp)⟩
    · intro D c pre W _ hS
      exact hS.swap.no.elim
end Edge
end Go.Proofs.YtjpfmkfikidgkaaGreat

set_option linter.unusedVariables false
set_option linter.unusedSimpArgs false
namespace Go.Proofs.YtjpfmkfikidgkaaGreat
namespace Edge
/-! Edges merged, of any weights. -/
theorem merged_gen {k : Int} {l : List Ed} (hc : ∀ e ∈ l, 0 ≤ e.1 ∧ e.1 < k ∧ 0 ≤ e.2.1 ∧ e.2.1 < k ∧ 0 ≤ e.2.2) : (∀ e ∈ merged l, 0 ≤ e.1 ∧ e.1 < e.2.1 ∧ e.2.1 < k ∧ 0 < e.2.2) ∧ total (merged l) ≤ total l ∧ (merged l).length ≤ l.length := by
  have hi : ∀ x ∈ ins l, 0 ≤ x.1 ∧ x.1 < x.2.1 ∧ x.2.1 < k ∧ 0 ≤ x.2.2 := by
    intro x hx
    obtain ⟨e, he, h1, rfl⟩ := mem_ins hx
    have h2 := hc e he
    obtain ⟨h3, h4, h5⟩ := norm_ends h1
    have h6 := norm_w e
    omega
  have hm : ∀ e ∈ merged l, wt (key e) (ins l) = e.2.2 ∧ e.2.2 ≠ 0 := by
    intro e he
    obtain ⟨r1, r2⟩ := foldR (ins l) [] List.Pairwise.nil
    unfold merged allR at he
    rw [mem_heavy r1.apart, r2] at he
    simpa [wt] using he
  refine ⟨fun e he => ?_, ?_, ?_⟩
  · obtain ⟨h1, h2⟩ := hm e he
    obtain ⟨x, hx, e1⟩ := wt_some (k := key e) (l := ins l) (by omega)
    have h3 := hi x hx
    have e2 : (key x).1 = (key e).1 := by rw [e1]
    have e3 : (key x).2 = (key e).2 := by rw [e1]
    have := wt_nonneg (k := key e) (l := ins l) (fun x hx => (hi x hx).2.2.2)
    unfold key at e2 e3
    simp only at e2 e3
    omega
  · unfold merged allR
    rw [total_heavy, foldR_total _ _ List.Pairwise.nil]
    have h1 := tot_ins (l := l) (fun e he => (hc e he).2.2.2.2)
    simp only [total]
    omega
  · have h1 : (merged l).length ≤ (allR l).length := List.length_filter_le _ _
    have h2 := foldR_len (ins l) []
    have h3 := ins_len l
    unfold allR at h1
    simp only [List.length_nil] at h2
    omega
/-- Edges in order, each of which weighs something, are what they weigh. -/
theorem rising_wt {A B : List Ed} (ha : Rising A) (hb : Rising B) (wa : ∀ e ∈ A, e.2.2 ≠ 0) (wb : ∀ e ∈ B, e.2.2 ≠ 0) (h : ∀ k, wt k A = wt k B) : A = B := by
  have hh : ∀ {X : List Ed}, Rising X → (∀ e ∈ X, e.2.2 ≠ 0) → ∀ e, e ∈ X ↔ wt (key e) X = e.2.2 ∧ e.2.2 ≠ 0 := by
    intro X hx hw e
    have e1 : heavy X = X := List.filter_eq_self.2 (fun x hx => by simpa using hw x hx)
    rw [← mem_heavy hx.apart, e1]
  refine rising_eq ha hb (fun e => ?_)
  rw [hh ha wa, hh hb wb, h]
theorem ins_self {P : List Ed} (h : ∀ e ∈ P, e.1 < e.2.1) : ins P = P := by
  unfold ins
  rw [List.filter_eq_self.2 (fun e he => by have := h e he; simp; omega)]
  have : ∀ e ∈ P, norm e = e := fun e he => by have := h e he; unfold norm; rw [if_neg (by omega)]
  exact (List.map_congr_left this).trans (List.map_id P)
theorem merged_self {A P : List Ed} (hA : Rising A) (wA : ∀ e ∈ A, e.2.2 ≠ 0) (hP : ∀ e ∈ P, e.1 < e.2.1) (h : ∀ k, wt k P = wt k A) : merged P = A := by
  refine rising_wt (merged_rising P) hA (fun e he => ?_) wA (fun k => by rw [merged_wt, ins_self hP, h])
  unfold merged heavy at he
  have := (List.mem_filter.1 he).2
  simpa using this
/-! Edges that weigh too much, split. -/
def pcs (w : Int) : Nat := ((w - 1) / 2147483648).toNat
def splitE (e : Ed) : List Ed := List.replicate (pcs e.2.2) (e.1, e.2.1, 2147483648) ++ [(e.1, e.2.1, e.2.2 - 2147483648 * (pcs e.2.2 : Nat))]
def splitL (A : List Ed) : List Ed := A.flatMap splitE
theorem pcs_ok {w : Int} (h : 0 < w) : ((pcs w : Nat) : Int) = (w - 1) / 2147483648 ∧ 1 ≤ w - 2147483648 * (pcs w : Nat) ∧ w - 2147483648 * (pcs w : Nat) ≤ 2147483648 := by
  unfold pcs
  omega
theorem wt_rep (k : Int × Int) (e : Ed) : ∀ n : Nat, wt k (List.replicate n e) = if key e = k then (n : Int) * e.2.2 else 0
  | 0 => by simp [wt]
  | n + 1 => by
    simp only [List.replicate_succ, wt, wt_rep k e n]
    by_cases c : key e = k
    · simp only [c, if_true, Int.natCast_add, Int.natCast_one, Int.add_mul]; omega
    · simp only [c, if_false]; omega
theorem wt_splitE {e : Ed} (k : Int × Int) : wt k (splitE e) = if key e = k then e.2.2 else 0 := by
  unfold splitE
  rw [wt_append, wt_rep]
  simp only [wt]
  have e1 : key (e.1, e.2.1, (2147483648 : Int)) = key e := rfl
  have e2 : key (e.1, e.2.1, e.2.2 - 2147483648 * ((pcs e.2.2 : Nat) : Int)) = key e := rfl
  rw [e1, e2]
  by_cases c : key e = k
  · simp only [c, if_true]; omega
  · simp only [c, if_false]; omega
theorem wt_splitL (k : Int × Int) : ∀ {A : List Ed}, wt k (splitL A) = wt k A
  | [] => rfl
  | e :: l => by
    have := wt_splitL k (A := l)
    unfold splitL at this ⊢
    rw [List.flatMap_cons, wt_append, this, wt_splitE]
    simp only [wt]
theorem mem_splitE {e x : Ed} (h : 0 < e.2.2) (hx : x ∈ splitE e) : x.1 = e.1 ∧ x.2.1 = e.2.1 ∧ 0 < x.2.2 ∧ x.2.2 ≤ 2147483648 := by
  have hp := pcs_ok h
  unfold splitE at hx
  rcases List.mem_append.1 hx with hx | hx
  · have := (List.mem_replicate.1 hx).2
    subst this
    exact ⟨rfl, rfl, by simp only; omega, by simp only; omega⟩
  · rw [List.mem_singleton] at hx
    subst hx
    exact ⟨rfl, rfl, by simp only; omega, by simp only; omega⟩
theorem split_len : ∀ {A : List Ed}, (∀ e ∈ A, 0 < e.2.2) → 2147483648 * ((splitL A).length : Int) ≤ total A + 2147483648 * (A.length : Int)
  | [], _ => by simp [splitL, total]
  | e :: l, h => by
    have h1 := split_len (A := l) (fun x hx => h x (List.mem_cons_of_mem _ hx))
    have h2 := pcs_ok (h e (by simp))
    unfold splitL at h1 ⊢
    rw [List.flatMap_cons, List.length_append]
    have h3 : (splitE e).length = pcs e.2.2 + 1 := by simp [splitE]
    rw [h3]
    simp only [total, List.length_cons]
    omega
theorem split_ok {k : Int} {A : List Ed} (h : ∀ e ∈ A, 0 ≤ e.1 ∧ e.1 < e.2.1 ∧ e.2.1 < k ∧ 0 < e.2.2) : ∀ x ∈ splitL A, checkE k x = 0 ∧ x.1 < x.2.1 := by
  intro x hx
  unfold splitL at hx
  obtain ⟨e, he, hx⟩ := List.mem_flatMap.1 hx
  have h1 := h e he
  obtain ⟨e1, e2, e3, e4⟩ := mem_splitE h1.2.2.2 hx
  rw [checkE_ok]
  omega
theorem split_merged {k : Int} {A : List Ed} (hR : Rising A) (h : ∀ e ∈ A, 0 ≤ e.1 ∧ e.1 < e.2.1 ∧ e.2.1 < k ∧ 0 < e.2.2) : merged (splitL A) = A :=
  merged_self hR (fun e he => by have := h e he; omega) (fun e he => (split_ok h e he).2) (fun q => wt_splitL q)
/-! Namings. -/
def isN (k : Int) (name : List Int) : Prop := (0 ≤ k ∧ k ≤ 4096 ∧ name.length ≤ 4096) ∧ (∀ x ∈ name, 0 ≤ x ∧ x < k) ∧ ∀ v : Nat, (v : Int) < k → (v : Int) ∈ name
/-- Which names have come; how many. -/
def cameN (K : Nat) (name : List Int) (i : Nat) : List Bool := (List.range K).map fun (v : Nat) => decide ((v : Int) ∈ name.take i)
def cntN (K : Nat) (name : List Int) (i : Nat) : Nat := ((List.range K).filter fun (v : Nat) => decide ((v : Int) ∈ name.take i)).length
theorem cameN_len (K : Nat) (name : List Int) (i : Nat) : (cameN K name i).length = K := by simp [cameN]
theorem cameN_get {K : Nat} {name : List Int} {i v : Nat} (h : v < K) : (cameN K name i)[v]? = some (decide ((v : Int) ∈ name.take i)) := by
  unfold cameN
  rw [List.getElem?_map, List.getElem?_range h]; rfl
theorem cameN_zero (K : Nat) (name : List Int) : cameN K name 0 = List.replicate K false := by
  apply List.eq_replicate_iff.2 ⟨cameN_len _ _ _, ?_⟩
  intro x hx
  simp only [cameN, List.mem_map] at hx
  obtain ⟨v, _, rfl⟩ := hx
  simp
theorem cntN_zero (K : Nat) (name : List Int) : cntN K name 0 = 0 := by
  unfold cntN
  rw [List.length_eq_zero_iff, List.filter_eq_nil_iff]
  intro v _
  simp
theorem cntN_le (K : Nat) (name : List Int) (i : Nat) : cntN K name i ≤ K := by
  have := List.length_filter_le (fun (v : Nat) => decide ((v : Int) ∈ name.take i)) (List.range K)
  simpa [cntN] using this
theorem take_mem {name : List Int} {i : Nat} (hi : i < name.length) (y : Int) : y ∈ name.take (i + 1) ↔ y ∈ name.take i ∨ y = name[i] := by
  rw [List.take_succ_eq_append_getElem hi, List.mem_append, List.mem_singleton]
theorem cameN_old {K : Nat} {name : List Int} {i : Nat} (hi : i < name.length) (h : name[i] ∈ name.take i) : cameN K name (i + 1) = cameN K name i ∧ cntN K name (i + 1) = cntN K name i := by
  have e : ∀ y : Int, (y ∈ name.take (i + 1)) = (y ∈ name.take i) := fun y => propext (by rw [take_mem hi]; exact ⟨fun hh => hh.elim id (fun e => e ▸ h), .inl⟩)
  constructor
  · unfold cameN; simp only [e]
  · unfold cntN; simp only [e]
theorem cameN_new {K : Nat} {name : List Int} {i x : Nat} (hi : i < name.length) (hx : name[i] = (x : Int)) (hxK : x < K) (h : name[i] ∉ name.take i) : (cameN K name i).set x true = cameN K name (i + 1) ∧ cntN K name (i + 1) = cntN K name i + 1 := by
  have e : ∀ y : Int, y ∈ name.take (i + 1) ↔ y ∈ name.take i ∨ y = (x : Int) := fun y => by rw [take_mem hi, hx]
  rw [hx] at h
  constructor
  · apply List.ext_getElem
    · simp [cameN]
    intro v g1 g2
    simp only [cameN, List.getElem_set, List.getElem_map, List.getElem_range, e]
    by_cases c : x = v
    · subst c; simp
    · rw [if_neg c]
      have : ((v : Int) ∈ name.take i ∨ (v : Int) = (x : Int)) ↔ (v : Int) ∈ name.take i := ⟨fun hh => hh.elim id (fun hh => by omega), .inl⟩
      simp only [this]
  · unfold cntN
    have hg : ∀ K : Nat, ((List.range K).filter fun (v : Nat) => decide ((v : Int) ∈ name.take (i + 1))).length = ((List.range K).filter fun (v : Nat) => decide ((v : Int) ∈ name.take i)).length + if x < K then 1 else 0 := by
      intro K
      induction K with
      | zero => simp
      | succ K ih =>
        rw [List.range_succ, List.filter_append, List.filter_append, List.length_append, List.length_append, ih]
        by_cases c : x = K
        · subst c
          have e1 : ((x : Int) ∈ name.take (i + 1)) := (e _).2 (.inr rfl)
          simp [e1, h]
        · have e1 : ((K : Int) ∈ name.take (i + 1)) ↔ (K : Int) ∈ name.take i := by rw [e]; exact ⟨fun hh => hh.elim id (fun hh => by omega), .inl⟩
          by_cases d : (K : Int) ∈ name.take i
          · have d1 := e1.2 d
            simp only [List.filter_cons, d, d1, decide_true, if_true, List.filter_nil, List.length_cons, List.length_nil]
            by_cases f : x < K
            · rw [if_pos f, if_pos (by omega)]
            · rw [if_neg f, if_neg (by omega)]
          · have d1 : ¬ (K : Int) ∈ name.take (i + 1) := fun hh => d (e1.1 hh)
            simp only [List.filter_cons, d, d1, decide_false, Bool.false_eq_true, if_false, List.filter_nil, List.length_nil]
            by_cases f : x < K
            · rw [if_pos f, if_pos (by omega)]
            · rw [if_neg f, if_neg (by omega)]
    rw [hg K, if_pos hxK]
theorem cntN_all {K : Nat} {name : List Int} : cntN K name name.length = K ↔ ∀ v : Nat, v < K → (v : Int) ∈ name := by
  unfold cntN
  rw [List.take_length]
  constructor
  · intro h v hv
    have h2 : ((List.range K).filter fun (v : Nat) => decide ((v : Int) ∈ name)) = List.range K := by
      apply List.filter_eq_self.2
      have h3 := List.length_filter_eq_length_iff (p := fun (v : Nat) => decide ((v : Int) ∈ name)) (l := List.range K)
      exact h3.1 (by rw [h, List.length_range])
    have := List.filter_eq_self.1 h2 v (List.mem_range.2 hv)
    simpa using this
  · intro h
    rw [List.filter_eq_self.2 (fun v hv => by simpa using h v (List.mem_range.1 hv)), List.length_range]
/-- An edge's ends by their names. -/
def mapE (name : List Int) (e : Ed) : Ed := (name.getD e.1.toNat 0, name.getD e.2.1.toNat 0, e.2.2)
def mapL (name : List Int) (L : List Ed) : List Ed := L.map (mapE name)
theorem total_map (name : List Int) : ∀ L : List Ed, total (mapL name L) = total L
  | [] => rfl
  | e :: l => by
    have := total_map name l
    unfold mapL at this ⊢
    simp only [List.map_cons, total, this, mapE]
theorem mapL_ok {n : Nat} {L : List Ed} {k : Int} {name : List Int} (hG : GOk n L) (hl : name.length = n) (hr : ∀ x ∈ name, 0 ≤ x ∧ x < k) : ∀ e ∈ mapL name L, 0 ≤ e.1 ∧ e.1 < k ∧ 0 ≤ e.2.1 ∧ e.2.1 < k ∧ 0 ≤ e.2.2 := by
  intro e he
  unfold mapL at he
  obtain ⟨x, hx, rfl⟩ := List.mem_map.1 he
  have h1 := hG.ends x hx
  have h2 := hG.pos x hx
  have hg : ∀ j : Nat, j < name.length → 0 ≤ name.getD j 0 ∧ name.getD j 0 < k := fun j hj => by
    rw [List.getD_eq_getElem?_getD, List.getElem?_eq_getElem hj]
    exact hr _ (List.getElem_mem hj)
  have h3 := hg x.1.toNat (by omega)
  have h4 := hg x.2.1.toNat (by omega)
  unfold mapE
  simp only
  omega
/-- The naming of two vertices put together. -/
def pairN (n : Nat) (u v : Int) : List Int := (List.range n).map fun (x : Nat) => if (x : Int) = max u v then min u v else if max u v < (x : Int) then (x : Int) - 1 else (x : Int)
theorem pairN_len (n : Nat) (u v : Int) : (pairN n u v).length = n := by simp [pairN]
theorem pairN_ok {n : Nat} {u v : Int} (hn : n ≤ 4096) (hu : 0 ≤ u ∧ u < n) (hv : 0 ≤ v ∧ v < n) (huv : u ≠ v) : isN ((n : Int) - 1) (pairN n u v) := by
  refine ⟨⟨by omega, by omega, by rw [pairN_len]; exact hn⟩, ?_, ?_⟩
  · intro y hy
    unfold pairN at hy
    obtain ⟨x, hx, rfl⟩ := List.mem_map.1 hy
    rw [List.mem_range] at hx
    split
    · omega
    · split <;> omega
  · intro w hw
    unfold pairN
    rw [List.mem_map]
    by_cases c : (w : Int) < max u v
    · exact ⟨w, by rw [List.mem_range]; omega, by rw [if_neg (by omega), if_neg (by omega)]⟩
    · exact ⟨w + 1, by rw [List.mem_range]; omega, by rw [if_neg (by omega), if_pos (by omega)]; omega⟩
end Edge
end Go.Proofs.YtjpfmkfikidgkaaGreat

set_option linter.unusedVariables false
set_option linter.unusedSimpArgs false
namespace Go.Proofs.YtjpfmkfikidgkaaGreat
open Go.RowKit
namespace Edge
def bools (l : List Bool) : List Value := l.map Value.bool
theorem bools_got {l : List Bool} {i : Nat} {b : Bool} (h : l[i]? = some b) : (bools l)[i]? = some (.bool b) := by simp [bools, h]
theorem bools_set (l : List Bool) (i : Nat) (b : Bool) : (bools l).set i (.bool b) = bools (l.set i b) := by simp [bools, List.map_set]
theorem infoB : (Tryz.prog.info? 4).map (fun i => (i.zero, i.size, i.bytes)) = some (some (.bool false), 1, 1) := by kernel_rfl
theorem naming_start (w : World) (K : Nat) (name : List Int) (hK : K ≤ 4096) : Sep w ((((w.alloc (.cells #[.int .i64 (K : Int)] 3)).alloc (.cells (madeCells #[.bool false] K) 4)).alloc (.cells #[.slice (some ⟨w.heap.size + 1, 0, none⟩) K K] 211)).alloc (.cells #[.int .i64 (K : Int)] 3))
    [Blk w.heap.size [.int .i64 (K : Int)] 3, Blk (w.heap.size + 1 + 1) [.slice (some ⟨w.heap.size + 1, 0, none⟩) K K] 211, Blk (w.heap.size + 1 + 1 + 1) [.int .i64 ((K : Int) - (cntN K name 0 : Nat))] 3, Row 4 1 K (.slice (some ⟨w.heap.size + 1, 0, none⟩) K K) (bools (cameN K name 0))] := by
  have h1 := (((Sep.empty w).box [.int .i64 (K : Int)] 3).made (made_made _ 4 (.bool false) K (by omega))).box [.slice (some ⟨w.heap.size + 1, 0, none⟩) K K] 211 |>.box [.int .i64 (K : Int)] 3
  simp only [World.size_alloc] at h1
  rw [cntN_zero, cameN_zero]
  have e : bools (List.replicate K false) = List.replicate K (.bool false) := by simp [bools]
  rw [e]
  simp only [Int.natCast_zero, Int.sub_zero, Int.cast_ofNat_Int]
  exact ((h1.pick 3 (by simp)).perm (List.Perm.cons _ (List.Perm.swap _ _ _)))
/-- What naming answers. -/
structure NamOut (k : Int) (name : List Int) (w : World) (e : Ending) (w' : World) : Prop where
  mk ::
  out : ∃ b : Bool, (b = true ↔ isN k name) ∧ e = .returned (.bool b) ∧ Mod [] w w'
end Edge
end Go.Proofs.YtjpfmkfikidgkaaGreat

set_option linter.unusedVariables false
set_option linter.unusedSimpArgs false
namespace Go.Proofs.YtjpfmkfikidgkaaGreat
open Go.RowKit
namespace Edge
theorem pieces_any (u v x : Int) (w : World) (h0 : 0 < x) (h1 : x ≤ 2251799813685248) : Calls Tryz.prog 215 #[.agg #[.int .i64 u, .int .i64 v, .int .i64 x]] w fun e w' => e = .returned (.int .i64 ((pcs x : Nat) + 1)) ∧ Mod [] w w' := by
  have hp := (pcs_ok h0).1
  have hq : 0 ≤ x - 1 := by omega
  have hmod := Lib.hid ((Mod.refl [] w).alloc (.cells #[.int .i64 u, .int .i64 v, .int .i64 x] 146))
  rw [hp]
  have h2 : 0 ≤ (x - 1) / 2147483648 := by omega
  have h3 : (x - 1) / 2147483648 ≤ 1048576 := by omega
  have t1 : ¬ ((x - 1) / 2147483648 + 1 < 1) := by omega
  have t2 : (1 : Int) ≤ (x - 1) / 2147483648 + 1 := by omega
  have t3 : max 1 ((x - 1) / 2147483648 + 1) = (x - 1) / 2147483648 + 1 := by omega
  clear hp
  go_enter Tryz.func215, Tryz.ntmps215
  go_wp2_with fail
  all_goals
    go_ret
    refine ⟨?_, hmod.out⟩
    first
      | rfl
      | exact ret_i64 (by omega)
theorem put_any {w0 w : World} {b : Nat} {s x : Int} {R : List Part} (hS : Sep w0 w (Blk b [.int .i64 s, .bool false] 286 :: R)) (h0 : 0 ≤ s) (h1 : 0 ≤ x) (h2 : s + x ≤ 4611686018427387904) :
    Calls Tryz.prog 214 #[.pointer (some ⟨b, 0, none⟩), .int .i64 x] w fun e w' => e = .returned (.bool true) ∧ Sep w0 w' (Blk b [.int .i64 (s + x), .bool false] 286 :: R) := by
  have b0 := hS.blk.cell 0 rfl
  have b1 := hS.blk.cell 1 rfl
  have bl := hS.blk.lt
  have bf0 := hS.blk.free 0
  have bf1 := hS.blk.free 1
  have had := Lib.hid (fun W => add_any h0 h1 h2 W)
  have hfin := Lib.hid ((hS.set 0 (.int .i64 (s + x))).set 1 (.bool false))
  clear hS
  go_enter Tryz.func214, Tryz.ntmps214
  go_wp2_with (go_at_call 168; refine (had.out _).mono ?_; rintro e w1 ⟨rfl, hw1⟩; subst w1)
  go_ret
  exact ⟨rfl, hfin.out⟩
theorem value_any {w0 w : World} {b : Nat} {s : Int} {R : List Part} (hS : Sep w0 w (Blk b [.int .i64 s, .bool false] 286 :: R)) :
    Calls Tryz.prog 216 #[.pointer (some ⟨b, 0, none⟩)] w fun e w' => e = .returned (.tuple #[.int .i64 s, .bool true]) ∧ w' = w := by
  have b0 := hS.blk.cell 0 rfl
  have b1 := hS.blk.cell 1 rfl
  have bl := hS.blk.lt
  clear hS
  go_enter Tryz.func216, Tryz.ntmps216
  go_wp2_with fail
  exact bodyPost_ret (v := .tuple #[.int .i64 s, .bool true]) (by simp [results, Tryz.results216, go_sem]) rfl ⟨rfl, rfl⟩
theorem splitL_snoc {A : List Ed} {k : Nat} (hk : k < A.length) : splitL (A.take (k + 1)) = splitL (A.take k) ++ splitE A[k] := by
  unfold splitL
  rw [List.take_succ_eq_append_getElem hk, List.flatMap_append]
  simp only [List.flatMap_cons, List.flatMap_nil, List.append_nil]
theorem splitL_take (A : List Ed) (k : Nat) : (splitL (A.take k)).length ≤ (splitL A).length := by
  have e : splitL A = splitL (A.take k) ++ splitL (A.drop k) := by
    unfold splitL
    rw [← List.flatMap_append, List.take_append_drop]
  rw [e, List.length_append]; omega
set_option maxRecDepth 100000 in
set_option maxHeartbeats 8000000 in
theorem split_any {A : List Ed} {v : Value} {w : World} (h : Rd w 3 v A.length (flat encEd A)) (hp : ∀ e ∈ A, 0 < e.2.2) (hT : total A ≤ 2251799813685248) (hm : (splitL A).length ≤ 1048576) :
    Calls Tryz.prog 162 #[v] w fun e w' => ∃ a c, e = .returned (.tuple #[.slice a (splitL A).length c, .bool true]) ∧ Made w w' 146 3 a (splitL A).length c (flat encEd (splitL A)) := by
  obtain ⟨a0, c0, rfl⟩ := h.val
  have hle := h.le
  have h' := Lib.hid h
  have hp' := Lib.hid hp
  have hw' := Lib.hid (fun (k : Nat) (hk : k < A.length) => show 0 < A[k].2.2 ∧ A[k].2.2 ≤ 2251799813685248 from ⟨hp _ (List.getElem_mem hk), Int.le_trans ((tot_in (l := A) (fun e he => by have := hp e he; omega)).2 _ (List.getElem_mem hk)) hT⟩)
  have hsn := Lib.hid (fun (k : Nat) (hk : k < A.length) => splitL_snoc hk)
  have htk := Lib.hid (splitL_take A)
  have hS0 := Lib.hid ((Sep.empty w).box [.int .i64 0, .bool false] 286)
  clear h hp hT
  go_enter Tryz.func162, Tryz.ntmps162
  go_wp2_with fail
  generalize w.alloc (.cells [.int .i64 0, .bool false].toArray 286) = w1 at *
  generalize w.heap.size = bc at *
  go_loopw [14] (fun i wr => ∃ k : Nat, k ≤ A.length ∧ i = .int .i64 k ∧ Hid (Sep w wr [Blk bc [.int .i64 ((splitL (A.take k)).length : Nat), .bool false] 286])) (fun i _ => A.length - (intOf i).toNat)
  case atStart => exact ⟨0, Nat.zero_le _, rfl, hS0⟩
  case round =>
    clear hS0
    obtain ⟨k, hk, rfl, hS⟩ := hrel
    by_cases hlt : k < A.length
    · have hlt1 : (k : Int) < A.length := by omega
      obtain ⟨g, o, rfl, hg, hcell⟩ := ed_cells h'.out hlt
      obtain ⟨q0, q1, q2⟩ := hcell _ hS.out.mod
      have hgl : g < wr.heap.size := Nat.lt_of_lt_of_le hg hS.out.mod.size
      obtain ⟨w0', w1'⟩ := hw'.out k hlt
      have hln := hsn.out k hlt
      have ht1 := htk.out (k + 1)
      rw [hln, List.length_append, show (splitE A[k]).length = pcs A[k].2.2 + 1 by simp [splitE]] at ht1
      have hln2 : Hid (((splitL (A.take (k + 1))).length : Int) = ((splitL (A.take k)).length : Int) + ((pcs A[k].2.2 : Nat) + 1)) := Lib.hid (by rw [hln, List.length_append, show (splitE A[k]).length = pcs A[k].2.2 + 1 by simp [splitE]]; omega)
      generalize A[k] = e at *
      obtain ⟨eu, ev, ew⟩ := e
      simp only at q0 q1 q2 w0' w1' ht1 hln2
      have cp := Lib.hid (fun W => pieces_any eu ev ew W w0' w1')
      have hSb := Lib.hid (hS.out.still ((Mod.refl [] wr).alloc (.cells #[.int .i64 eu, .int .i64 ev, .int .i64 ew] 146)))
      generalize pcs ew = p at *
      generalize (splitL (A.take k)).length = s at *
      clear hS hcell hln
      go_wp2_with fail
      refine (cp.out _).mono ?_
      rintro e w2 ⟨rfl, hm2⟩
      have cpt := Lib.hid (put_any (hSb.out.still hm2) (x := (p : Int) + 1) (by omega) (by omega) (by omega))
      rw [← hln2.out] at cpt
      clear hSb hm2 cp
      try dsimp only
      go_wp2_with fail
      refine cpt.out.mono ?_
      rintro e w3 ⟨rfl, hS3⟩
      have hS3' := Lib.hid hS3
      clear hS3 cpt
      try dsimp only
      go_wp2_with fail
      go_roundw
      case rel => exact ⟨k + 1, by omega, by go_num, hS3'⟩
      case measure => simp [intOf]; omega
    · have hkA : k = A.length := by omega
      have hSA := Lib.hid (show Sep w wr [Blk bc [.int .i64 ((splitL A).length : Nat), .bool false] 286] by
        have h5 := hS.out
        rw [hkA, List.take_length] at h5
        exact h5)
      have cv := Lib.hid (value_any hSA.out)
      have hml : ¬ (1048576 : Int) < ((splitL A).length : Nat) := by omega
      have hSo := Lib.hid (show Sep w wr [Row 146 3 (splitL (A.take 0)).length (.slice none (splitL (A.take 0)).length 0) (flat encEd (splitL (A.take 0)))] from by
        have h5 := (hSA.out.tail).add (P := Row 146 3 0 (.slice none 0 0) []) (Mod.refl _ _) (F := []) ⟨World.ownsRow_nil wr 0 _ 3, by simp [Value.ownBlock]⟩ (by simp)
        exact h5)
      clear hS hSA hk hkA
      go_wp2_with (go_at_call 216; refine cv.out.mono ?_; rintro e w2 ⟨rfl, hw2⟩; subst w2)
      clear hlt
      go_loopw [9, 37] (fun s9 i wr => ∃ (k m : Nat) (a : Option Addr) (c : Nat), k ≤ A.length ∧ i = .int .i64 k ∧ s9 = .slice a m c ∧ m = (splitL (A.take k)).length ∧ Hid (Sep w wr [Row 146 3 m (.slice a m c) (flat encEd (splitL (A.take k)))])) (fun _ i _ => A.length - (intOf i).toNat)
      case atStart => exact ⟨0, 0, none, 0, Nat.zero_le _, rfl, rfl, rfl, hSo⟩
      case round =>
        clear hSo
        obtain ⟨k, m, a, c, hk, rfl, rfl, hmk, hS⟩ := hrel
        by_cases hlt : k < A.length
        · have hlt1 : (k : Int) < A.length := by omega
          obtain ⟨g, o, rfl, hg, hcell⟩ := ed_cells h'.out hlt
          obtain ⟨q0, q1, q2⟩ := hcell _ hS.out.mod
          have hgl : g < wr.heap.size := Nat.lt_of_lt_of_le hg hS.out.mod.size
          obtain ⟨w0', w1'⟩ := hw'.out k hlt
          have hln := Lib.hid (hsn.out k hlt)
          have ht1 := htk.out (k + 1)
          rw [hln.out, List.length_append, show (splitE A[k]).length = pcs A[k].2.2 + 1 by simp [splitE], ← hmk] at ht1
          have hpk := (pcs_ok w0').2
          generalize A[k] = e at *
          obtain ⟨eu, ev, ew⟩ := e
          simp only at q0 q1 q2 w0' w1' ht1 hln hpk
          have cp := Lib.hid (fun W => pieces_any eu ev ew W w0' w1')
          have hSb := Lib.hid (hS.out.box [.int .i64 eu, .int .i64 ev, .int .i64 ew] 146)
          have hpe : splitE (eu, ev, ew) = List.replicate (pcs ew) (eu, ev, 2147483648) ++ [(eu, ev, ew - 2147483648 * ((pcs ew : Nat) : Int))] := rfl
          rw [hpe] at hln
          generalize pcs ew = p at *
          have hmk' := Lib.hid hmk
          clear hmk
          generalize splitL (A.take k) = O at *
          have hbe := hSb.out.blk
          have e0 := hbe.cell 0 rfl
          have e1 := hbe.cell 1 rfl
          have e2 := hbe.cell 2 rfl
          have el := hbe.lt
          clear hS hcell hbe hpe
          go_wp2_with fail
          refine (cp.out _).mono ?_
          rintro e w2 ⟨rfl, hm2⟩
          have hS2 := Lib.hid (show Sep w w2 [Blk wr.heap.size [.int .i64 eu, .int .i64 ev, .int .i64 (ew - 2147483648 * ((0 : Nat) : Int))] 146, Row 146 3 m (.slice a m c) (flat encEd (O ++ List.replicate 0 (eu, ev, 2147483648)))] by
            have h5 := hSb.out.still hm2
            simpa using h5)
          clear hm2 cp hSb e0 e1 e2 el q0 q1 q2 hgl hg
          generalize wr.heap.size = be at *
          try dsimp only
          go_wp2_with fail
          go_loopw [9, 44] (fun s9 i wr => ∃ (q mm : Nat) (a : Option Addr) (c : Nat), q ≤ p ∧ i = .int .i64 q ∧ s9 = .slice a mm c ∧ mm = m + q ∧ Hid (Sep w wr [Blk be [.int .i64 eu, .int .i64 ev, .int .i64 (ew - 2147483648 * ((q : Nat) : Int))] 146, Row 146 3 mm (.slice a mm c) (flat encEd (O ++ List.replicate q (eu, ev, 2147483648)))])) (fun _ i _ => p - (intOf i).toNat)
          case atStart => exact ⟨0, m, a, c, Nat.zero_le _, rfl, rfl, rfl, hS2⟩
          case round =>
            clear hS2
            obtain ⟨q, mm, a, c, hq, rfl, rfl, hmm, hS⟩ := hrel
            have hmb : mm + 1 ≤ 1048576 := by omega
            replace hmm := Lib.hid hmm
            have hbe := hS.out.blkAt 0 rfl
            have e0 := hbe.cell 0 rfl
            have e1 := hbe.cell 1 rfl
            have e2 := hbe.cell 2 rfl
            have el := hbe.lt
            by_cases hlq : q < p
            · have hlq1 : (q : Int) < p := by omega
              clear hbe
              go_upto_region 19 with (at_builtin; refine app_own rfl (.tmp 46) (.tmp 52) 22 146 _ 3 24 rfl Tryz.underlying22 infoEd rfl (by omega) (by omega) (.slice a mm c) mm 1 (flat encEd (O ++ List.replicate q (eu, ev, 2147483648))) (encEd (eu, ev, 2147483648)) rfl rfl rfl rfl (by simp [encEd, Value.oneCell']) (hS.out.rowAt 1 rfl) (by omega) ?_; intro a1 c1 w6 ho6 hm6 hb6; have hS6 := Lib.hid (hS.out.growAt 1 rfl ho6 hm6 hb6); clear ho6 hm6 hb6)
              clear e0 e1 e2 el hS
              have hb6 := hS6.out.blkAt 0 rfl
              have e2 := hb6.cell 2 rfl
              have ef := hb6.free 2
              have el := hb6.lt
              have hq3 : 2147483648 * (q : Int) ≤ 2147483648 * (p : Int) := by omega
              have hS7 := Lib.hid (show Sep w (w6.setCell ⟨be, 2, none⟩ (.int .i64 (ew - 2147483648 * (q : Int) - 2147483648))) [Blk be [.int .i64 eu, .int .i64 ev, .int .i64 (ew - 2147483648 * ((q + 1 : Nat) : Int))] 146, Row 146 3 (mm + 1) (.slice a1 (mm + 1) c1) (flat encEd (O ++ List.replicate (q + 1) (eu, ev, 2147483648)))] by
                have h5 := hS6.out.setAt 0 rfl 2 (.int .i64 (ew - 2147483648 * (q : Int) - 2147483648))
                rw [List.replicate_succ', ← List.append_assoc, flat_append, flat_one, show ew - 2147483648 * ((q + 1 : Nat) : Int) = ew - 2147483648 * (q : Int) - 2147483648 by omega]
                exact h5)
              clear hb6 hS6
              go_wp2_with fail
              go_roundw
              case rel => exact ⟨q + 1, mm + 1, a1, c1, by omega, by go_num, rfl, by have := hmm.out; omega, hS7⟩
              case measure => simp [intOf]; omega
            · obtain rfl : q = p := by omega
              clear hbe
              obtain ⟨z, hz⟩ : ∃ z, ew - 2147483648 * ((q : Nat) : Int) = z := ⟨_, rfl⟩
              rw [hz] at hS e2 hln
              have hz' := Lib.hid hz
              clear hz hpk
              go_wp2_with (at_builtin; refine app_own rfl (.tmp 59) (.tmp 61) 22 146 _ 3 24 rfl Tryz.underlying22 infoEd rfl (by omega) (by omega) (.slice a mm c) mm 1 (flat encEd (O ++ List.replicate q (eu, ev, 2147483648))) (encEd (eu, ev, z)) rfl rfl rfl rfl (by simp [encEd, Value.oneCell']) (hS.out.rowAt 1 rfl) (by omega) ?_; intro a1 c1 w6 ho6 hm6 hb6; have hS6 := Lib.hid (hS.out.growAt 1 rfl ho6 hm6 hb6); clear ho6 hm6 hb6)
              have hfin : Hid (Sep w w6 [Row 146 3 (mm + 1) (.slice a1 (mm + 1) c1) (flat encEd (splitL (A.take (k + 1))))] ∧ mm + 1 = (splitL (A.take (k + 1))).length) := Lib.hid (by
                have h5 := hS6.out.tail
                rw [hln.out, ← List.append_assoc, flat_append, flat_one]
                refine ⟨h5, ?_⟩
                rw [List.length_append, List.length_append, List.length_replicate, ← hmk'.out]
                simp only [List.length_cons, List.length_nil]
                have := hmm.out
                omega)
              clear hS hS6 e0 e1 e2 el
              go_roundw
              case rel => exact ⟨k + 1, mm + 1, a1, c1, by omega, by go_num, rfl, hfin.out.2, Lib.hid hfin.out.1⟩
              case measure => simp [intOf]; omega
        · have hkA : k = A.length := by omega
          have hfin : Hid (Made w wr 146 3 a m c (flat encEd (splitL A)) ∧ m = (splitL A).length) := Lib.hid (by
            have h5 := hS.out
            rw [hkA, List.take_length] at h5
            refine ⟨h5.toMade, ?_⟩
            rw [hmk, hkA, List.take_length])
          clear hS hk hkA hmk
          go_wp2_with fail
          exact bodyPost_ret (v := .tuple #[.slice a m c, .bool true]) (by simp [results, Tryz.results162, go_sem]) rfl ⟨a, c, by rw [hfin.out.2], by have := hfin.out.1; rw [hfin.out.2] at this; exact this⟩
end Edge
end Go.Proofs.YtjpfmkfikidgkaaGreat

set_option linter.unusedVariables false
set_option linter.unusedSimpArgs false
namespace Go.Proofs.YtjpfmkfikidgkaaGreat
open Go.RowKit
namespace Edge
theorem Sep.before {w w1 w2 : World} {L : List Part} (h : Sep w1 w2 L) (m : Mod [] w w1) : Sep w w2 L := by
  obtain ⟨F, h1, h2, h3⟩ := h.out
  exact ⟨F, h1, m.trans h2 (by simp), fun b hb => Nat.le_trans m.size (h3 b hb)⟩
theorem flat_set01 {Y : List Ed} {k : Nat} (hk : k < Y.length) (a b : Int) : ((flat encEd Y).set (k * 3) (.int .i64 a)).set (k * 3 + 1) (.int .i64 b) = flat encEd (Y.set k (a, b, Y[k].2.2)) := by
  rw [flat_split Y k hk, show k * 3 = k * 3 + 0 from rfl, mid_set _ _ _ (k * 3) 0 _ (flat_take_length encEd_len Y k hk) (by simp [encEd]), mid_set _ _ _ (k * 3) 1 _ (flat_take_length encEd_len Y k hk) (by simp [encEd]), ← flat_mid Y k hk]
  rfl
theorem sep_wrap7 {goalP : World → Prop} {W0 Wx : World} {L : List Part} (h : Sep W0 Wx L) (hp : ∀ Wg, Sep W0 Wg L → goalP Wg) : goalP Wx := hp Wx h
/-- The edges of which the first k are named anew. -/
def halfM (name : List Int) (L : List Ed) (k : Nat) : List Ed := mapL name (L.take k) ++ L.drop k
theorem halfM_len (name : List Int) (L : List Ed) (k : Nat) : (halfM name L k).length = L.length := by
  unfold halfM mapL
  simp; omega
theorem halfM_get {name : List Int} {L : List Ed} {k : Nat} (hk : k < L.length) : (halfM name L k)[k]'(by rw [halfM_len]; exact hk) = L[k] := by
  unfold halfM mapL
  rw [List.getElem_append_right (by simp; omega)]
  simp [show min k L.length = k by omega]
theorem halfM_step {name : List Int} {L : List Ed} {k : Nat} (hk : k < L.length) : (halfM name L k).set k (mapE name L[k]) = halfM name L (k + 1) := by
  unfold halfM mapL
  rw [List.set_append_right _ _ (by simp; omega), List.length_map, List.length_take, show k - min k L.length = 0 by omega, List.drop_eq_getElem_cons hk, List.set_cons_zero, List.take_succ_eq_append_getElem hk, List.map_append]
  simp
theorem halfM_zero (name : List Int) (L : List Ed) : halfM name L 0 = L := by simp [halfM, mapL]
theorem halfM_all (name : List Int) (L : List Ed) : halfM name L L.length = mapL name L := by simp [halfM]
/-- What Of answers. -/
structure OfOut (k : Int) (name : List Int) (n : Nat) (L : List Ed) (w : World) (e : Ending) (w' : World) : Prop where
  mk ::
  out : (¬ (name.length = n ∧ isN k name) ∧ e = .returned (.tuple #[.pointer none, .int .i64 1]) ∧ Mod [] w w') ∨
    ((name.length = n ∧ isN k name) ∧ ∃ b2, e = .returned (.tuple #[.pointer (some ⟨b2, 0, none⟩), .int .i64 0]) ∧ Sep w w' [NetP b2 k.toNat (merged (mapL name L))])
end Edge
end Go.Proofs.YtjpfmkfikidgkaaGreat

set_option linter.unusedVariables false
set_option linter.unusedSimpArgs false
namespace Go.Proofs.YtjpfmkfikidgkaaGreat
open Go.RowKit
namespace Edge
theorem infoInt0 : (Tryz.prog.info? 3).map (fun i => (i.zero, i.size, i.bytes)) = some (some (.int .i64 0), 1, 8) := by kernel_rfl
def pairV (u v : Int) (x : Nat) : Int := if (x : Int) = max u v then min u v else if max u v < (x : Int) then (x : Int) - 1 else (x : Int)
def pairK (n : Nat) (u v : Int) (k : Nat) : List Int := (List.range n).map fun (x : Nat) => if x < k then pairV u v x else 0
theorem pairK_len (n : Nat) (u v : Int) (k : Nat) : (pairK n u v k).length = n := by simp [pairK]
theorem pairK_zero (n : Nat) (u v : Int) : pairK n u v 0 = List.replicate n 0 := by
  apply List.eq_replicate_iff.2 ⟨pairK_len _ _ _ _, ?_⟩
  intro x hx
  simp only [pairK, List.mem_map] at hx
  obtain ⟨v, _, rfl⟩ := hx
  rw [if_neg (by omega)]
theorem pairK_step (n : Nat) (u v : Int) (k : Nat) : (pairK n u v k).set k (pairV u v k) = pairK n u v (k + 1) := by
  apply List.ext_getElem
  · simp [pairK]
  intro i g1 g2
  simp only [pairK, List.getElem_set, List.getElem_map, List.getElem_range]
  by_cases c : k = i
  · subst c; rw [if_pos rfl, if_pos (by omega)]
  · rw [if_neg c]
    by_cases h : i < k
    · rw [if_pos h, if_pos (by omega)]
    · rw [if_neg h, if_neg (by omega)]
theorem pairK_all (n : Nat) (u v : Int) : pairK n u v n = pairN n u v := by
  unfold pairK pairN
  apply List.map_congr_left
  intro x hx
  rw [List.mem_range] at hx
  rw [if_pos hx]; rfl
def pairE (n : Nat) (u v : Int) : Int := if u < 0 ∨ v < 0 ∨ (n : Int) ≤ u ∨ (n : Int) ≤ v then 4 else if u = v then 6 else 0
/-- What Pair answers. -/
structure PairOut (n : Nat) (L : List Ed) (u v : Int) (w : World) (e : Ending) (w' : World) : Prop where
  mk ::
  out : (pairE n u v ≠ 0 ∧ e = .returned (.tuple #[.pointer none, .slice none 0 0, .int .i64 (pairE n u v)]) ∧ Mod [] w w') ∨
    (pairE n u v = 0 ∧ isN ((n : Int) - 1) (pairN n u v) ∧ ∃ b2 a c, e = .returned (.tuple #[.pointer (some ⟨b2, 0, none⟩), .slice a n c, .int .i64 0]) ∧ Sep w w' [NetP b2 ((n : Int) - 1).toNat (merged (mapL (pairN n u v) L)), Row 3 1 n (.slice a n c) (i64s (pairN n u v))])
end Edge
end Go.Proofs.YtjpfmkfikidgkaaGreat

set_option linter.unusedVariables false
set_option linter.unusedSimpArgs false
namespace Go.Proofs.YtjpfmkfikidgkaaGreat
open Go.RowKit
namespace Edge
set_option maxHeartbeats 1000000 in
theorem rin_any {name : List Int} {va : Value} {w : World} (h : Rd w 1 va name.length (i64s name)) (v : Int) :
    Calls Tryz.prog 129 #[va, .int .i64 v] w fun e w' => e = .returned (.bool (decide (v ∈ name))) ∧ w' = w := by
  obtain ⟨a, c, rfl⟩ := h.val
  have hle := h.le
  have h' := Lib.hid h
  have hyes := Lib.hid (fun (k : Nat) (hk : k < name.length) (e : name[k] = v) => show decide (v ∈ name) = true by rw [decide_eq_true_eq, ← e]; exact List.getElem_mem hk)
  have hno := Lib.hid (fun (hh : ∀ j (hj : j < name.length), name[j] ≠ v) => show decide (v ∈ name) = false by
    rw [decide_eq_false_iff_not]
    intro hm
    obtain ⟨j, hj, e⟩ := List.mem_iff_getElem.1 hm
    exact hh j hj e)
  obtain ⟨r, hr⟩ : ∃ r, decide (v ∈ name) = r := ⟨_, rfl⟩
  rw [hr] at hyes hno ⊢
  clear h hr
  go_enter Tryz.func129, Tryz.ntmps129
  go_wp2_with fail
  go_loopw [5] (fun i wr => ∃ k : Nat, k ≤ name.length ∧ i = .int .i64 k ∧ wr = w ∧ Hid (∀ j (hj : j < name.length), j < k → name[j] ≠ v)) (fun i _ => name.length - (intOf i).toNat)
  case atStart => exact ⟨0, Nat.zero_le _, rfl, rfl, Lib.hid (fun j _ hj => by omega)⟩
  case round =>
    obtain ⟨k, hk, rfl, hw, hal⟩ := hrel
    subst hw
    by_cases hlt : k < name.length
    · have hlt1 : (k : Int) < name.length := by omega
      obtain ⟨g, o, rfl, hgl, hcell⟩ := rd_cell h'.out hlt
      have q0 := hcell _ k (.int .i64 name[k]) (Mod.refl _ _) (i64s_get hlt)
      by_cases c1 : name[k] = v
      · have d1 : (name[k] == v) = true := by simpa using c1
        have hf := hyes.out k hlt c1
        have hf' := Lib.hid hf
        generalize name[k] = x at *
        clear hf c1 hcell
        go_wp2_with fail
        go_ret
        exact ⟨by rw [hf'.out]; rfl, rfl⟩
      · have d1 : (name[k] == v) = false := by simpa using c1
        have hal2 : Hid (∀ j (hj : j < name.length), j < k + 1 → name[j] ≠ v) := Lib.hid (fun j hj h2 => by
          rcases Nat.lt_or_ge j k with h3 | h3
          · exact hal.out j hj h3
          · have e : j = k := by omega
            subst e; exact c1)
        generalize name[k] = x at *
        clear hcell c1
        go_wp2_with fail
        go_roundw
        case rel => exact ⟨k + 1, by omega, by go_num, trivial, hal2⟩
        case measure => simp [intOf]; omega
    · have hf := hno.out (fun j hj => hal.out j hj (by omega))
      have hf' := Lib.hid hf
      clear hf
      go_wp2_with fail
      go_ret
      exact ⟨by rw [hf'.out]; rfl, rfl⟩
theorem rcheck25_any (n : Nat) (s t : Int) (w : World) : Calls Tryz.prog 127 #[.int .i64 n, .int .i64 s, .int .i64 t] w fun e w' => e = .returned (.int .i64 (pairE n s t)) ∧ w' = w := by
  by_cases h1 : s < 0
  · have he : pairE n s t = 4 := by unfold pairE; rw [if_pos (by omega)]
    rw [he]
    clear he
    go_enter Tryz.func127, Tryz.ntmps127
    go_wp2_with fail
    go_ret
    exact ⟨rfl, rfl⟩
  by_cases h3 : (n : Int) ≤ s
  · have he : pairE n s t = 4 := by unfold pairE; rw [if_pos (by omega)]
    rw [he]
    have d1 : decide ((n : Int) ≤ s) = true := by simpa using h3
    clear he
    go_enter Tryz.func127, Tryz.ntmps127
    go_wp2_with fail
    go_ret
    exact ⟨rfl, rfl⟩
  by_cases h2 : t < 0
  · have he : pairE n s t = 4 := by unfold pairE; rw [if_pos (by omega)]
    rw [he]
    have d1 : decide ((n : Int) ≤ s) = false := by simpa using h3
    clear he
    go_enter Tryz.func127, Tryz.ntmps127
    go_wp2_with fail
    go_ret
    exact ⟨rfl, rfl⟩
  by_cases h4 : (n : Int) ≤ t
  · have he : pairE n s t = 4 := by unfold pairE; rw [if_pos (by omega)]
    rw [he]
    have d1 : decide ((n : Int) ≤ s) = false := by simpa using h3
    have d2 : decide ((n : Int) ≤ t) = true := by simpa using h4
    clear he
    go_enter Tryz.func127, Tryz.ntmps127
    go_wp2_with fail
    go_ret
    exact ⟨rfl, rfl⟩
  have d1 : decide ((n : Int) ≤ s) = false := by simpa using h3
  have d2 : decide ((n : Int) ≤ t) = false := by simpa using h4
  by_cases h5 : s = t
  · have he : pairE n s t = 6 := by unfold pairE; rw [if_neg (by omega), if_pos h5]
    rw [he]
    have d3 : (s == t) = true := by simpa using h5
    clear he
    go_enter Tryz.func127, Tryz.ntmps127
    go_wp2_with fail
    go_ret
    exact ⟨rfl, rfl⟩
  have he : pairE n s t = 0 := by unfold pairE; rw [if_neg (by omega), if_neg h5]
  rw [he]
  have d3 : (s == t) = false := by simpa using h5
  clear he
  go_enter Tryz.func127, Tryz.ntmps127
  go_wp2_with fail
  go_ret
  exact ⟨rfl, rfl⟩
theorem nilRow9 {w0 w : World} {L : List Part} (h : Sep w0 w L) (e size : Nat) : Sep w0 w (Row e size 0 (.slice none 0 0) [] :: L) :=
  h.add (P := Row e size 0 (.slice none 0 0) []) (Mod.refl _ _) (F := []) ⟨World.ownsRow_nil w 0 _ size, by simp [Value.ownBlock]⟩ (by simp)
def pairA (u v : Int) (k : Nat) : List Int := (List.range k).map (pairV u v)
theorem pairA_len (u v : Int) (k : Nat) : (pairA u v k).length = k := by simp [pairA]
theorem pairA_snoc (u v : Int) (k : Nat) : i64s (pairA u v (k + 1)) = i64s (pairA u v k) ++ [.int .i64 (pairV u v k)] := by
  unfold pairA
  rw [List.range_succ, List.map_append, i64s_append]
  rfl
theorem pairA_all (n : Nat) (u v : Int) : pairA u v n = pairN n u v := rfl
end Edge
end Go.Proofs.YtjpfmkfikidgkaaGreat

set_option linter.unusedVariables false
set_option linter.unusedSimpArgs false
namespace Go.Proofs.YtjpfmkfikidgkaaGreat
open Go.RowKit
namespace Edge
theorem pairE_as {n : Nat} {s t : Int} : pairE n s t = if ¬ (0 ≤ s ∧ s < n ∧ 0 ≤ t ∧ t < n) then 4 else if s = t then 6 else 0 := by
  unfold pairE
  split <;> split <;> (try rfl) <;> omega
theorem idx44_0 (s t : Int) (w : World) : (Instr.index 109 (.agg #[.int .i64 s, .int .i64 t]) (.int .i64 0)).run Tryz.prog w = .ok (.int .i64 s) w := by kernel_rfl
theorem idx44_1 (s t : Int) (w : World) : (Instr.index 109 (.agg #[.int .i64 s, .int .i64 t]) (.int .i64 1)).run Tryz.prog w = .ok (.int .i64 t) w := by kernel_rfl
set_option maxRecDepth 100000 in
set_option maxHeartbeats 8000000 in
theorem chk44_any {w : World} {p : Option Addr} {n : Nat} (cN : Calls Tryz.prog 72 #[.pointer p] w fun e w' => e = .returned (.int .i64 n) ∧ w' = w) (s t : Int) :
    Calls Tryz.prog 44 #[.pointer p, .int .i64 s, .int .i64 t] w fun e w' => e = .returned (.int .i64 (pairE n s t)) ∧ w' = w := by
  have cN' := Lib.hid cN
  have hx0 := fun w => idx44_0 s t w
  have hx1 := fun w => idx44_1 s t w
  clear cN
  go_enter Tryz.func44, Tryz.ntmps44
  go_wp2_with fail
  go_loopw [8, 12] (fun s8 s12 wr => ∃ k : Nat, k ≤ 2 ∧ s12 = .int .i64 k ∧ wr = w ∧ (1 ≤ k → 0 ≤ s ∧ s < n) ∧ (2 ≤ k → 0 ≤ t ∧ t < n)) (fun _ s12 _ => 2 - (intOf s12).toNat)
  case atStart => exact ⟨0, by omega, rfl, rfl, by omega, by omega⟩
  case round =>
    obtain ⟨k, hk, rfl, hw, h1, h2⟩ := hrel
    subst hw
    have hcase : k = 0 ∨ k = 1 ∨ k = 2 := by omega
    rcases hcase with rfl | rfl | rfl
    · clear h1 h2
      by_cases c0 : s < 0
      · have t0 : decide (s < 0) = true := by simpa using c0
        have hE := Lib.hid (show pairE n s t = 4 by rw [pairE_as, if_pos (by omega)])
        go_wp2_with fail
        go_ret
        exact ⟨by rw [hE.out]; rfl, rfl⟩
      · have t0 : decide (s < 0) = false := by simpa using c0
        by_cases c1 : (n : Int) ≤ s
        · have t1 : decide ((n : Int) ≤ s) = true := by simpa using c1
          have hE := Lib.hid (show pairE n s t = 4 by rw [pairE_as, if_pos (by omega)])
          go_wp2_with (go_at_call 72; refine cN'.out.mono ?_; rintro e w1 ⟨rfl, hw1⟩; subst w1)
          go_ret
          exact ⟨by rw [hE.out]; rfl, rfl⟩
        · have t1 : decide ((n : Int) ≤ s) = false := by simpa using c1
          go_wp2_with (go_at_call 72; refine cN'.out.mono ?_; rintro e w1 ⟨rfl, hw1⟩; subst w1)
          go_roundw
          case rel => exact ⟨1, by omega, by go_num, trivial, fun _ => ⟨by omega, by omega⟩, by omega⟩
          case measure => simp [intOf]
    · have hs := h1 (by omega)
      clear h1 h2
      by_cases c0 : t < 0
      · have t0 : decide (t < 0) = true := by simpa using c0
        have hE := Lib.hid (show pairE n s t = 4 by rw [pairE_as, if_pos (by omega)])
        go_wp2_with fail
        go_ret
        exact ⟨by rw [hE.out]; rfl, rfl⟩
      · have t0 : decide (t < 0) = false := by simpa using c0
        by_cases c1 : (n : Int) ≤ t
        · have t1 : decide ((n : Int) ≤ t) = true := by simpa using c1
          have hE := Lib.hid (show pairE n s t = 4 by rw [pairE_as, if_pos (by omega)])
          go_wp2_with (go_at_call 72; refine cN'.out.mono ?_; rintro e w1 ⟨rfl, hw1⟩; subst w1)
          go_ret
          exact ⟨by rw [hE.out]; rfl, rfl⟩
        · have t1 : decide ((n : Int) ≤ t) = false := by simpa using c1
          go_wp2_with (go_at_call 72; refine cN'.out.mono ?_; rintro e w1 ⟨rfl, hw1⟩; subst w1)
          go_roundw
          case rel => exact ⟨2, by omega, by go_num, trivial, fun _ => hs, fun _ => ⟨by omega, by omega⟩⟩
          case measure => simp [intOf]
    · have hs := h1 (by omega)
      have ht := h2 (by omega)
      clear h1 h2
      by_cases c0 : s = t
      · have t0 : (s == t) = true := by simpa using c0
        have hE := Lib.hid (show pairE n s t = 6 by rw [pairE_as, if_neg (by omega), if_pos c0])
        clear c0
        go_wp2_with fail
        go_ret
        exact ⟨by rw [hE.out]; rfl, rfl⟩
      · have t0 : (s == t) = false := by simpa using c0
        have hE := Lib.hid (show pairE n s t = 0 by rw [pairE_as, if_neg (by omega), if_neg c0])
        clear c0
        go_wp2_with fail
        go_ret
        exact ⟨by rw [hE.out]; rfl, rfl⟩
theorem steps_any (r : Nat) (s t : Int) (w : World) : Calls Tryz.prog 135 #[.pointer (some ⟨r, 0, none⟩), .int .i64 s, .int .i64 t] w fun e w' =>
    e = .returned (.func (.func 191) #[] #[.pointer (some ⟨w.heap.size, 0, none⟩), .pointer (some ⟨w.heap.size + 1, 0, none⟩), .pointer (some ⟨w.heap.size + 1 + 1, 0, none⟩)]) ∧
    w' = ((w.alloc (.cells #[.pointer (some ⟨r, 0, none⟩)] 29)).alloc (.cells #[.int .i64 s] 3)).alloc (.cells #[.int .i64 t] 3) := by
  go_enter Tryz.func135, Tryz.ntmps135
  go_wp2_with fail
  go_ret
  exact ⟨rfl, rfl⟩
end Edge
end Go.Proofs.YtjpfmkfikidgkaaGreat

set_option linter.unusedVariables false
set_option linter.unusedSimpArgs false
namespace Go.Proofs.YtjpfmkfikidgkaaGreat
open Go.RowKit
namespace Edge
attribute [local go_sem] Oper.semAt_some
theorem bodyPostM_retAt {P : Program} {fn : Func} {R : Ending → World → Prop} {a : Act} {w : World} {v : Value} {D : Nat} (hd : a.defers = [{ target := .collected D, args := #[] }]) (hD : w.heap[D]? = some (.deferred (some [])))
    (hr : (results fn a.tmps).run P (w.putObj D (.deferred none)) = .ok v (w.putObj D (.deferred none))) (hR : R (.returned v) (w.putObj D (.deferred none))) : bodyPostM Fence.wide 3 P fn R .ret a w := by
  show LeavesInM Fence.wide 3 P fn a.tmps R a.defers .returning w
  rw [hd]
  exact ⟨by simp, .inl ⟨D, _, rfl, run_takeDeferred hD, ⟨v, hr, hR⟩⟩⟩
theorem bodyPostM_ret0At {P : Program} {fn : Func} {R : Ending → World → Prop} {a : Act} {w : World} {v : Value} (hd : a.defers = [])
    (hr : (results fn a.tmps).run P w = .ok v w) (hR : R (.returned v) w) : bodyPostM Fence.wide 3 P fn R .ret a w := by
  show LeavesInM Fence.wide 3 P fn a.tmps R a.defers .returning w
  rw [hd]
  exact ⟨v, hr, hR⟩
/-- What Run answers. -/
def Run46 (n : Nat) (L : List Ed) (s t : Int) (w : World) (e : Ending) (w' : World) : Prop :=
  (pairE n s t ≠ 0 ∧ e = .returned (.tuple #[.agg #[.int .i64 0, .int .i64 0, .int .i64 0, .slice none 0 0, .slice none 0 0], .int .i64 0, .int .i64 (pairE n s t)]) ∧ Mod [] w w') ∨
  (pairE n s t = 0 ∧ ∃ (ws : List (List Nat × Int)) (l : List Nat) (af az : Option Addr) (cf cz : Nat), PreW n L s t (noF L) ws ∧ IsDone n L s t (flowW L (noF L) ws) ∧ IsReach L (flowW L (noF L) ws) s.toNat l ∧
    e = .returned (.tuple #[.agg #[.int .i64 s, .int .i64 t, .int .i64 (exc L (flowW L (noF L) ws) t), .slice af L.length cf, .slice az l.length cz], .int .i64 ws.length, .int .i64 0]) ∧
    ∃ R, Sep w w' (Row 2 1 L.length (.slice af L.length cf) (i64s (flowW L (noF L) ws)) :: Row 3 1 l.length (.slice az l.length cz) (i64s (ints l)) :: R))
theorem csr_at {w0 w W : World} {b n : Nat} {L : List Ed} {R R2 : List Part} {w1 : World} (hS : Sep w0 w (NetP b n L :: R)) (hG : GOk n L) (hm : Mod [] w W) (h2 : Sep w1 W R2) :
    Calls Tryz.prog 104 #[.pointer (some ⟨b, 0, none⟩)] W fun e w' => ∃ ba, e = .returned (.pointer (some ⟨ba, 0, none⟩)) ∧ Sep w1 w' (ArcP ba n L :: R2) := by
  refine (acsr_new hG (fun W2 m => n_sep (hS.still (hm.trans m (by simp)))) (fun W2 m => edges_sep (hS.still (hm.trans m (by simp))) hG.len)).mono ?_
  rintro e w' ⟨b2, rfl, hA⟩
  exact ⟨b2, rfl, h2.stack hA⟩
set_option maxRecDepth 100000 in
set_option maxHeartbeats 16000000 in
theorem run46_any {w0 w : World} {b n : Nat} {L : List Ed} {R : List Part} (hS : Sep w0 w (NetP b n L :: R)) (hG : GOk n L) (s t : Int) :
    Calls Tryz.prog 46 #[.pointer (some ⟨b, 0, none⟩), .int .i64 s, .int .i64 t] w (Run46 n L s t w) := by
  have hst := Lib.hid ((Sep.empty w).box [.int .i64 0, .int .i64 0, .int .i64 0, .slice none 0 0, .slice none 0 0] 53)
  have cK := Lib.hid (fun W (m : Mod [] w W) => chk44_any (n_sep (hS.still m)) s t)
  have cN := Lib.hid (fun W (m : Mod [] w W) (R2 : List Part) (h2 : Sep w W R2) => rnew_res hG (csr_at hS hG m h2))
  have hG' := Lib.hid hG
  have hlen := hG.len
  have hn4 := hG.le
  clear hS hG
  refine callsIn_wide.1 (callsIn_of_wp_marks (n := 3) Tryz.func46 rfl trivial (wpIn_wide.2 ?_))
  simp only [Tryz.ntmps46, List.size_toArray, List.length_cons, List.length_nil, Nat.reduceAdd, Nat.reduceSub, Array.replicate_succ, Array.replicate_zero, List.push_toArray, List.append_toArray, List.nil_append, List.cons_append]
  go_upto_region 1 with fail
  generalize w.alloc (.cells #[.int .i64 0, .int .i64 0, .int .i64 0, .slice none 0 0, .slice none 0 0] 53) = w1 at *
  generalize w.heap.size = B6 at *
  go_wp2_with fail
  refine (cK.out _ hst.out.mod).mono ?_
  rintro e w2 ⟨rfl, rfl⟩
  try dsimp only
  by_cases hE : pairE n s t = 0
  · have hE' := Lib.hid hE
    have hin : 0 ≤ s ∧ s < n ∧ 0 ≤ t ∧ t < n ∧ s ≠ t := by
      rw [pairE_as] at hE
      by_cases h1 : 0 ≤ s ∧ s < n ∧ 0 ≤ t ∧ t < n
      · rw [if_neg (by simpa using h1)] at hE
        by_cases h2 : s = t
        · rw [if_pos h2] at hE; omega
        · exact ⟨h1.1, h1.2.1, h1.2.2.1, h1.2.2.2, h2⟩
      · rw [if_pos h1] at hE; omega
    obtain ⟨S, rfl⟩ := Int.eq_ofNat_of_zero_le hin.1
    obtain ⟨T, rfl⟩ := Int.eq_ofNat_of_zero_le hin.2.2.1
    have hSn : S < n := by omega
    have hTn : T < n := by omega
    rw [hE]
    clear hE hin
    go_wp2_with fail
    refine (cN.out _ hst.out.mod _ hst.out).mono ?_
    rintro e w3 ⟨r, ba, rfl, hS3⟩
    have hS4 := Lib.hid (hS3.box [.int .i64 0] 3)
    clear hS3 cN cK hst
    try dsimp only
    go_wp2_with (go_at_call 135; refine (steps_any r S T _).mono ?_; rintro e w2 ⟨rfl, rfl⟩)
    have hS5 := Lib.hid (((hS4.out.box [.pointer (some ⟨r, 0, none⟩)] 29).box [.int .i64 (S : Int)] 3).box [.int .i64 (T : Int)] 3)
    try simp only [World.size_alloc] at hS5
    try simp only [World.size_alloc]
    generalize (((w3.alloc (.cells #[.int .i64 0] 3)).alloc (.cells #[.pointer (some ⟨r, 0, none⟩)] 29)).alloc (.cells #[.int .i64 (S : Int)] 3)).alloc (.cells #[.int .i64 (T : Int)] 3) = w4 at *
    generalize w3.heap.size + 1 + 1 + 1 = B3 at *
    generalize w3.heap.size + 1 + 1 = B2 at *
    generalize w3.heap.size + 1 = B1 at *
    generalize w3.heap.size = Bk at *
    have hS6 := Lib.hid (hS5.out.picks [3, 3, 3, 2, 1, 0])
    clear hS5 hS4
    generalize hA : Act.mk _ _ = A
    have hA' := Lib.hid hA
    refine range_sep (w0 := w) (steps_it (r := r) (ba := ba) (n := n) (B1 := B1) (B2 := B2) (B3 := B3) (f0 := noF L) (R0 := [Blk B6 [.int .i64 0, .int .i64 0, .int .i64 0, .slice none 0 0, .slice none 0 0] 53]) hG'.out (fb_new hG'.out) (S : Int) hTn) (by rw [← hA]; simp [go_sem]) (fun args w => by simp [go_sem]) (fun x => rfl)
      (fun p => Blk Bk [.int .i64 (p.length : Int)] 3) (fun _ _ => NoP) (fun p x a1 => IfP (a1 = { tmps := (A.tmps.setIfInBounds 26 (.slice x.2.1 x.1.1.length x.2.2)).setIfInBounds 27 (.int .i64 x.1.2), defers := [] }) (Blk Bk [.int .i64 (p.length : Int)] 3))
      (fun _ => inferInstance) (fun _ _ => inferInstance) hS6.out ?_ ?_ ?_ ?_
    · intro l' pre x R' W hpre hS
      have hS' := Lib.hid (show Sep w W (Blk Bk [.int .i64 (pre.length : Int)] 3 :: Row 3 1 x.1.1.length (.slice x.2.1 x.1.1.length x.2.2) (i64s (ints x.1.1)) :: R') from hS)
      clear hS
      rw [encSt, zip_two]
      gi_wp2
      exact Sep.toIf (by first | rfl | trivial) hS'.out.swap.tail
    · intro l' pre x R' a1 W hpre hS
      obtain ⟨rfl, hSi⟩ := hS.ifs
      have hlen2 : (pre.length : Int) ≤ 2251799813685248 := by
        have h1 := (PreW.exc hG'.out (fb_new hG'.out) hpre)
        have h2 := (exc_in ((fb_new hG'.out).flowW (onlyS (pre ++ [x]))) (fun e he => by have := hG'.out.ends e he; omega) (T : Int)).2
        have h3 := exc_noF (L := L) (T : Int)
        have h4 := hG'.out.tot
        have h5 : (onlyS (pre ++ [x])).length = pre.length + 1 := by simp [onlyS]
        unfold noF at h1 h2
        rw [h3, h5] at h1
        omega
      have c0 := hSi.blk.cell 0 rfl
      have f0 := hSi.blk.free 0
      have l0 := hSi.blk.lt
      have hS2 := Lib.hid (hSi.set 0 (.int .i64 ((pre.length : Int) + 1)))
      have hl2 : ((pre ++ [x]).length : Int) = (pre.length : Int) + 1 := by simp
      have hl2' := Lib.hid hl2
      clear hS hSi hpre hl2
      obtain ⟨k, hk⟩ : ∃ k : Nat, pre.length = k := ⟨_, rfl⟩
      rw [hk] at c0 hS2 hlen2 hl2'
      clear hk
      rw [← hA'.out]
      simp only [List.setIfInBounds_toArray, List.set_cons_succ, List.set_cons_zero]
      gi_wp2
      show Sep w _ (Blk Bk [.int .i64 ((pre ++ [x]).length : Int)] 3 :: R')
      rw [hl2'.out]
      exact hS2.out
    · intro D xs W hxs hS
      rw [← hA]
      obtain ⟨hpre, hdn⟩ := hxs
      obtain ⟨ws, hws⟩ : ∃ ws, onlyS xs = ws := ⟨_, rfl⟩
      have hwl : xs.length = ws.length := by rw [← hws]; simp [onlyS]
      unfold stR at hS
      rw [hws] at hpre hdn hS
      rw [hwl] at hS
      have hFB := Lib.hid ((fb_new hG'.out).flowW ws)
      have hfl := hFB.out.len
      have hkb : (ws.length : Int) ≤ 9223372036854775807 := by
        have h1 := (PreW.exc hG'.out (fb_new hG'.out) hpre)
        have h2 := (exc_in ((fb_new hG'.out).flowW ws) (fun e he => by have := hG'.out.ends e he; omega) (T : Int)).2
        have h3 := exc_noF (L := L) (T : Int)
        have h4 := hG'.out.tot
        unfold noF at h1 h2
        rw [h3] at h1
        omega
      have hpd := Lib.hid (show PreW n L (S : Int) (T : Int) (noF L) ws ∧ IsDone n L (S : Int) (T : Int) (flowW L (noF L) ws) from ⟨hpre, hdn⟩)
      have hS7 := Lib.hid hS
      clear hS hpre hdn hws hwl hA hA' hS6
      obtain ⟨f, hf⟩ : ∃ f, flowW L (noF L) ws = f := ⟨_, rfl⟩
      rw [hf] at hFB hfl hpd hS7
      have hf' := Lib.hid hf
      clear hf
      try dsimp only
      go_upto_region 7 with fail
      have d0 := Lib.hid (show Mod [] W W.drew from (Mod.refl [] W).drew)
      have cE := Lib.hid (rexc_sep ((hS7.out.still d0.out).picks [2, 2]) hG'.out (T : Int))
      have cFl := Lib.hid (fun W2 (m : Mod [] W W2) => rflows_sep ((hS7.out.still m).picks [2, 2]) hG'.out hFB.out)
      have cRe := Lib.hid (fun W2 (m : Mod [] W W2) => show Calls Tryz.prog 110 #[.pointer (some ⟨r, 0, none⟩), .int .i64 (S : Int)] W2 fun e w' => ∃ l a c, IsReach L f S l ∧ e = .returned (.slice a l.length c) ∧ Made W2 w' 3 1 a l.length c (i64s (ints l)) by
        obtain ⟨F1, h1⟩ := (hS7.out.still m).partAt 2 rfl
        obtain ⟨F2, h2⟩ := (hS7.out.still m).partAt 3 rfl
        exact rreach_p h1 h2 hG'.out hSn)
      obtain ⟨LL, hLL⟩ : ∃ LL : List (Addr × Value), LL = [(⟨Bk, 0, none⟩, .int .i64 (ws.length : Int))] := ⟨_, rfl⟩
      have m0 : ((⟨Bk, 0, none⟩ : Addr), Value.int .i64 (ws.length : Int)) ∈ LL := by rw [hLL]; simp
      have hkc := Lib.hid (fun W0 W (h : W.cell? ⟨Bk, 0, none⟩ = some (.int .i64 (ws.length : Int))) => show KC LL W0 W from fun p hp _ => by
        rw [hLL] at hp
        simp only [List.mem_cons, List.mem_nil_iff, or_false] at hp
        subst hp
        exact h)
      clear hLL
      have k0 := KC.one (w := W.drew) (((hS7.out.still d0.out).blkAt 1 rfl).cell 0 rfl) m0
      obtain ⟨x, hx⟩ : ∃ x, exc L f (T : Int) = x := ⟨_, rfl⟩
      rw [hx] at cE
      have hx' := Lib.hid hx
      clear hx
      refine region_sched (G := KC LL) [([0,1,2,3,5,7,8,11],4), ([],6), ([],9), ([10],12)] [13,14] (by kernel_rfl) (by kernel_rfl) (by kernel_rfl) rfl (KC.refl _) (KC.trans _) ?_
      simp only [stages, pickO, nthO, headO, List.append_eq, List.cons_append, List.nil_append]
      refine sched_step ?_
      repeat (go_big_quiet_step (fail))
      refine wpQuiet_nil ?_
      intro K hK
      rw [if_pos (by rfl)]
      go_simp
      refine cE.out.mono ?_
      rintro e w5 ⟨rfl, hw5⟩
      subst w5
      dsimp only
      refine hK.out _ _ (KC.refl _ _) ?_
      clear hK K k0 cE
      have cF0 := Lib.hid (cFl.out _ d0.out)
      clear cFl
      refine sched_step ?_
      refine wpQuiet_nil ?_
      intro K hK
      rw [if_pos (by rfl)]
      go_simp
      refine cF0.out.mono ?_
      rintro e w5 ⟨af, cf, rfl, hmd⟩
      dsimp only
      have hS8 := Lib.hid ((hS7.out.still d0.out).made hmd)
      have d1 := Lib.hid (d0.out.trans hmd.mod (by simp))
      refine hK.out _ _ (hkc.out _ _ ((hS8.out.blkAt 2 rfl).cell 0 rfl)) ?_
      clear hK K cF0 hmd hS7
      have cR0 := Lib.hid (cRe.out _ d1.out)
      clear cRe
      refine sched_step ?_
      refine wpQuiet_nil ?_
      intro K hK
      rw [if_pos (by rfl)]
      go_simp
      refine cR0.out.mono ?_
      rintro e w6 ⟨l, az, cz, hl, rfl, hmd⟩
      dsimp only
      have hS9 := Lib.hid (hS8.out.made hmd)
      have hl' := Lib.hid hl
      refine hK.out _ _ (hkc.out _ _ ((hS9.out.blkAt 3 rfl).cell 0 rfl)) ?_
      clear hK K cR0 hmd hS8 hl d0 d1
      obtain ⟨ln, hln⟩ : ∃ ln, l.length = ln := ⟨_, rfl⟩
      have hln' := Lib.hid hln
      rw [hln] at hS9
      rw [hln]
      rw [hfl] at hS9
      try rw [hfl]
      clear hln
      have b0 := (hS9.out.blkAt 9 rfl).cell 0 rfl
      have b1 := (hS9.out.blkAt 9 rfl).cell 1 rfl
      have b2 := (hS9.out.blkAt 9 rfl).cell 2 rfl
      have b3 := (hS9.out.blkAt 9 rfl).cell 3 rfl
      have b4 := (hS9.out.blkAt 9 rfl).cell 4 rfl
      have bf := (hS9.out.blkAt 9 rfl).free
      have bl := (hS9.out.blkAt 9 rfl).lt
      have hS10 := Lib.hid ((((((hS9.out.pick 9 (by simp)).set 0 (.int .i64 (S : Int))).set 1 (.int .i64 (T : Int))).set 2 (.int .i64 x)).set 3 (.slice af L.length cf)).set 4 (.slice az ln cz))
      clear hS9
      refine sched_step ?_
      repeat (go_big_quiet_step (fail))
      refine wpQuiet_nil ?_
      intro K hK
      rw [if_pos (by rfl)]
      go_simp
      refine hK.out _ _ (hkc.out _ _ ((hS10.out.blkAt 4 rfl).cell 0 rfl)) ?_
      clear hK K b0 b1 b2 b3 b4 bf bl hkc
      refine sched_last ?_
      repeat (go_big_quiet_step (fail))
      refine wpQuiet_nil ?_
      generalize World.setCell _ ⟨B6, 4, none⟩ (.slice az ln cz) = w9 at *
      have hD := Lib.hid ((hS10.out.picks [3]).obj)
      have hS11 := Lib.hid ((hS10.out.picks [3]).putObj (.deferred none))
      clear hS10
      go_wp2_with fail
      have z0 := (hS11.out.blkAt 1 rfl).cell 0 rfl
      have z1 := (hS11.out.blkAt 1 rfl).cell 1 rfl
      have z2 := (hS11.out.blkAt 1 rfl).cell 2 rfl
      have z3 := (hS11.out.blkAt 1 rfl).cell 3 rfl
      have z4 := (hS11.out.blkAt 1 rfl).cell 4 rfl
      refine bodyPostM_retAt (v := .tuple #[.agg #[.int .i64 (S : Int), .int .i64 (T : Int), .int .i64 x, .slice af L.length cf, .slice az ln cz], .int .i64 (ws.length : Int), .int .i64 0]) rfl hD.out ?_ ?_
      · simp [results, Tryz.results46, go_sem, z0, z1, z2, z3, z4]
      · have hln2 := hln'.out
        subst hln2
        have hf2 := hf'.out
        subst hf2
        refine .inr ⟨hE'.out, ws, l, af, az, cf, cz, hpd.out.1, hpd.out.2, ?_, ?_, _, hS11.out.picks [3, 2]⟩
        · rw [Int.toNat_natCast]; exact hl'.out
        · rw [hx'.out]
    · intro D c pre W _ hS
      exact hS.swap.no.elim
  · have hE' := Lib.hid hE
    have t0 : (pairE n s t != 0) = true := by simpa using hE
    clear hE cN cK
    obtain ⟨E, hEE⟩ : ∃ E, pairE n s t = E := ⟨_, rfl⟩
    rw [hEE] at t0 ⊢
    have hE2 := Lib.hid (show pairE n s t = E from hEE)
    clear hEE
    have b0 := (hst.out.blkAt 0 rfl).cell 0 rfl
    have b1 := (hst.out.blkAt 0 rfl).cell 1 rfl
    have b2 := (hst.out.blkAt 0 rfl).cell 2 rfl
    have b3 := (hst.out.blkAt 0 rfl).cell 3 rfl
    have b4 := (hst.out.blkAt 0 rfl).cell 4 rfl
    have bf := (hst.out.blkAt 0 rfl).free
    have bl := (hst.out.blkAt 0 rfl).lt
    have hS3 := Lib.hid (((((hst.out.set 0 (.int .i64 0)).set 1 (.int .i64 0)).set 2 (.int .i64 0)).set 3 (.slice none 0 0)).set 4 (.slice none 0 0))
    clear hst
    go_wp2_with fail
    generalize World.setCell _ ⟨B6, 4, none⟩ (.slice none 0 0) = w9 at *
    have z0 := (hS3.out.blkAt 0 rfl).cell 0 rfl
    have z1 := (hS3.out.blkAt 0 rfl).cell 1 rfl
    have z2 := (hS3.out.blkAt 0 rfl).cell 2 rfl
    have z3 := (hS3.out.blkAt 0 rfl).cell 3 rfl
    have z4 := (hS3.out.blkAt 0 rfl).cell 4 rfl
    refine bodyPostM_ret0At (v := .tuple #[.agg #[.int .i64 0, .int .i64 0, .int .i64 0, .slice none 0 0, .slice none 0 0], .int .i64 0, .int .i64 E]) rfl ?_ ?_
    · simp [results, Tryz.results46, go_sem, z0, z1, z2, z3, z4]
    · exact .inl ⟨hE'.out, by rw [hE2.out], hS3.out.mod⟩
end Edge
end Go.Proofs.YtjpfmkfikidgkaaGreat
