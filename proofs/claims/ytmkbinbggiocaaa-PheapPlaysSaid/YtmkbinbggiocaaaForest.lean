/- The heap as a tree: A pairing heap as a binary tree: left the first child, right the next sibling. A pairing heap as a binary tree: pair. A pairing heap as a binary tree: the first pass of pair, and pair. A pairing heap as a binary tree: cut. A pairing heap as a binary tree: what cut does to the table, and to the tree. A pairing heap as a binary tree: cut, whole. A pairing heap as a binary tree: the order; cut, told of the tree. A pairing heap and what it is a heap of: push, raise. A pairing heap and what it is a heap of: push, raise. A pairing heap and what it is a heap of: drop, top, pop. A pairing heap and what it is a heap of: top, pop, new. -/
import Derived.Test.YtmkbinbggiocaaaHp9
import Derived.Test.YtmkbinbggiocaaaHp10
set_option linter.unusedVariables false
set_option linter.unusedSimpArgs false
namespace Go.Proofs.Ytmkbinbggiocaaa
open Arena
namespace Hp
inductive Bt where
  | nil
  | node (i : Nat) (c s : Bt)
def Bt.ids : Bt → List Nat
  | .nil => []
  | .node i c s => i :: (c.ids ++ s.ids)
/-- A vertex and its key, of each node. -/
abbrev Kv := Nat → Int × Int
/-- Behind p, whose prev is q, lies the tree. -/
def Rep (A : Ar Nd) (K : Kv) : Int → Int → Bt → Prop
  | _, p, .nil => p = -1
  | q, p, .node i c s => p = (i : Int) ∧ ∃ x, A.get (i : Int) = some x ∧ x.v = (K i).1 ∧ x.key = (K i).2 ∧ x.prev = q ∧ Rep A K i x.child c ∧ Rep A K i x.next s
theorem Rep.congr {A A' : Ar Nd} {K : Kv} : ∀ {t : Bt} {q p : Int}, Rep A K q p t → (∀ i ∈ t.ids, A'.get (i : Int) = A.get (i : Int)) → Rep A' K q p t
  | .nil, _, _, h, _ => h
  | .node i c s, q, p, h, he => by
    obtain ⟨rfl, x, hx, h1, h2, h3, h4, h5⟩ := h
    refine ⟨rfl, x, by rw [he i (by simp [Bt.ids]), hx], h1, h2, h3, h4.congr (fun j hj => he j (by simp [Bt.ids, hj])), h5.congr (fun j hj => he j (by simp [Bt.ids, hj]))⟩
theorem Rep.key {A : Ar Nd} {K K' : Kv} : ∀ {t : Bt} {q p : Int}, Rep A K q p t → (∀ i ∈ t.ids, K' i = K i) → Rep A K' q p t
  | .nil, _, _, h, _ => h
  | .node i c s, q, p, h, he => by
    obtain ⟨rfl, x, hx, h1, h2, h3, h4, h5⟩ := h
    refine ⟨rfl, x, hx, by rw [he i (by simp [Bt.ids])]; exact h1, by rw [he i (by simp [Bt.ids])]; exact h2, h3, h4.key (fun j hj => he j (by simp [Bt.ids, hj])), h5.key (fun j hj => he j (by simp [Bt.ids, hj]))⟩
theorem get_nat {A : Ar Nd} (i : Nat) : A.get (i : Int) = (A.cells[i]?).join := by
  unfold Ar.get
  rw [if_pos (by omega), Int.toNat_natCast]
theorem get_put {A : Ar Nd} {n : Nat} {x : Nd} (h : A.get (n : Int) = some x) (y : Nd) (m : Nat) : (A.put n y).get (m : Int) = if m = n then some y else A.get (m : Int) := by
  rw [get_nat] at h ⊢
  have hlt : n < A.cells.length := by
    rcases Nat.lt_or_ge n A.cells.length with h' | h'
    · exact h'
    · rw [List.getElem?_eq_none h'] at h; cases h
  unfold Ar.put
  simp only
  by_cases e : m = n
  · subst e
    rw [if_pos rfl, List.getElem?_set_self hlt]
    rfl
  · rw [if_neg e, List.getElem?_set_ne (Ne.symm e), get_nat]
/-- What does not change where nodes are only laid anew. -/
structure Fr (A A' : Ar Nd) (F : List Nat) : Prop where
  room : A'.room = A.room
  free : A'.free = A.free
  len : A'.cells.length = A.cells.length
  live : ∀ i : Nat, (A'.get (i : Int)).isSome = (A.get (i : Int)).isSome
  same : ∀ i : Nat, i ∉ F → A'.get (i : Int) = A.get (i : Int)
theorem Fr.refl (A : Ar Nd) (F : List Nat) : Fr A A F := ⟨rfl, rfl, rfl, fun _ => rfl, fun _ _ => rfl⟩
theorem Fr.trans {A A1 A2 : Ar Nd} {F : List Nat} (h : Fr A A1 F) (k : Fr A1 A2 F) : Fr A A2 F :=
  ⟨k.room.trans h.room, k.free.trans h.free, k.len.trans h.len, fun i => (k.live i).trans (h.live i), fun i hi => (k.same i hi).trans (h.same i hi)⟩
theorem Fr.mono {A A' : Ar Nd} {F G : List Nat} (h : Fr A A' F) (hs : ∀ i ∈ F, i ∈ G) : Fr A A' G := ⟨h.room, h.free, h.len, h.live, fun i hi => h.same i (fun hf => hi (hs i hf))⟩
theorem Fr.put {A : Ar Nd} {n : Nat} {x : Nd} (h : A.get (n : Int) = some x) (y : Nd) {F : List Nat} (hn : n ∈ F) : Fr A (A.put n y) F where
  room := rfl
  free := rfl
  len := by simp [Ar.put]
  live := fun i => by
    rw [get_put h]
    split
    · rename_i e; subst e; rw [h]; rfl
    · rfl
  same := fun i hi => by
    rw [get_put h, if_neg]
    rintro rfl
    exact hi hn
theorem put_int (A : Ar Nd) (n : Nat) (y : Nd) : A.put ((n : Int)).toNat y = A.put n y := by rw [Int.toNat_natCast]
/-- q becomes the first child of p. -/
theorem join_law {H : Hp} {K : Kv} {i j : Nat} {ci cj : Bt} {xi : Nd} (hi : Rep H.A K (-1) i (.node i ci .nil)) (hj : Rep H.A K (-1) j (.node j cj .nil)) (hx : H.A.get (i : Int) = some xi) (nd : ((i :: ci.ids) ++ (j :: cj.ids)).Nodup) :
    ∃ H' : Hp, joinT H i j xi = some (H', (i : Int)) ∧ Rep H'.A K (-1) i (.node i (.node j cj ci) .nil) ∧ Fr H.A H'.A ((i :: ci.ids) ++ (j :: cj.ids)) := by
  obtain ⟨_, x, hx2, v1, k1, p1, c1, n1⟩ := hi
  rw [hx] at hx2
  injection hx2 with e
  subst e
  obtain ⟨_, y, hy, v2, k2, p2, c2, n2⟩ := hj
  simp only [List.cons_append, List.nodup_cons, List.mem_append, List.mem_cons, not_or, List.nodup_append] at nd
  obtain ⟨⟨ni1, ni2, ni3⟩, nci, ⟨nj1, ncj⟩, ndis⟩ := nd
  have hji : j ≠ i := Ne.symm ni2
  have hjc : j ∉ ci.ids := fun h => ndis j h j (.inl rfl) rfl
  -- j laid anew
  have g1 : ∀ m : Nat, (link1 H i j xi y).A.get (m : Int) = if m = j then some { y with prev := i, next := xi.child } else H.A.get (m : Int) := fun m => by
    show (H.A.put ((j : Int)).toNat _).get (m : Int) = _
    rw [put_int, get_put hy]
  have f1 : Fr H.A (link1 H i j xi y).A ((i :: ci.ids) ++ (j :: cj.ids)) := by
    show Fr H.A (H.A.put ((j : Int)).toNat _) _
    rw [put_int]
    exact Fr.put hy _ (by simp)
  have gi1 : (link1 H i j xi y).A.get (i : Int) = some xi := by rw [g1, if_neg ni2, hx]
  cases ci with
  | nil =>
    have hc : xi.child = -1 := c1
    refine ⟨(link1 H i j xi y).put i { xi with child := j }, ?_, ?_, ?_⟩
    · unfold joinT
      rw [hy, Option.bind_some, if_pos hc, Option.bind_some, gi1]
      rfl
    · have g2 : ∀ m : Nat, ((link1 H i j xi y).put i { xi with child := j }).A.get (m : Int) = if m = i then some { xi with child := j } else (link1 H i j xi y).A.get (m : Int) := fun m => by
        show ((link1 H i j xi y).A.put ((i : Int)).toNat _).get (m : Int) = _
        rw [put_int, get_put gi1]
      refine ⟨rfl, { xi with child := (j : Int) }, by rw [g2, if_pos rfl], v1, k1, p1, ⟨rfl, { y with prev := (i : Int), next := xi.child }, by rw [g2, if_neg hji, g1, if_pos rfl], v2, k2, rfl, ?_, hc⟩, n1⟩
      exact c2.congr (fun m hm => by
        have a : m ≠ i := fun e => ni3 (e ▸ hm)
        have b : m ≠ j := fun e => nj1 (e ▸ hm)
        rw [g2, if_neg a, g1, if_neg b])
    · refine f1.trans ?_
      show Fr _ ((link1 H i j xi y).A.put ((i : Int)).toNat _) _
      rw [put_int]
      exact Fr.put gi1 _ (by simp)
  | node c cc cs =>
    obtain ⟨hc, z, hz, v3, k3, p3, c3, n3⟩ := c1
    have hci : c ≠ i := fun e => ni1 (by simp [Bt.ids, e])
    have hcj : c ≠ j := fun e => hjc (by simp [Bt.ids, e])
    have hne : xi.child ≠ -1 := by rw [hc]; omega
    have hcn : c ∉ cc.ids ∧ c ∉ cs.ids := by
      simp only [Bt.ids, List.nodup_cons, List.mem_append, not_or] at nci
      exact nci.1
    have gc1 : (link1 H i j xi y).A.get (c : Int) = some z := by rw [g1, if_neg hcj, hz]
    have g2 : ∀ m : Nat, ((link1 H i j xi y).put xi.child { z with prev := j }).A.get (m : Int) = if m = c then some { z with prev := j } else (link1 H i j xi y).A.get (m : Int) := fun m => by
      show ((link1 H i j xi y).A.put (xi.child).toNat _).get (m : Int) = _
      rw [hc, put_int, get_put gc1]
    have gi2 : ((link1 H i j xi y).put xi.child { z with prev := j }).A.get (i : Int) = some xi := by rw [g2, if_neg (Ne.symm hci), gi1]
    have f2 : Fr H.A ((link1 H i j xi y).put xi.child { z with prev := j }).A ((i :: (Bt.node c cc cs).ids) ++ (j :: cj.ids)) := by
      refine f1.trans ?_
      show Fr _ ((link1 H i j xi y).A.put (xi.child).toNat _) _
      rw [hc, put_int]
      exact Fr.put gc1 _ (by simp [Bt.ids])
    refine ⟨((link1 H i j xi y).put xi.child { z with prev := j }).put i { xi with child := j }, ?_, ?_, ?_⟩
    · unfold joinT
      rw [hy, Option.bind_some, if_neg hne, show (link1 H i j xi y).A.get xi.child = some z by rw [hc]; exact gc1, Option.map_some, Option.bind_some, gi2]
      rfl
    · have g3 : ∀ m : Nat, (((link1 H i j xi y).put xi.child { z with prev := j }).put i { xi with child := j }).A.get (m : Int) = if m = i then some { xi with child := j } else ((link1 H i j xi y).put xi.child { z with prev := j }).A.get (m : Int) := fun m => by
        show (((link1 H i j xi y).put xi.child { z with prev := j }).A.put ((i : Int)).toNat _).get (m : Int) = _
        rw [put_int, get_put gi2]
      have far : ∀ m : Nat, m ≠ i → m ≠ j → m ≠ c → (((link1 H i j xi y).put xi.child { z with prev := j }).put i { xi with child := j }).A.get (m : Int) = H.A.get (m : Int) := fun m a b d => by
        rw [g3, if_neg a, g2, if_neg d, g1, if_neg b]
      refine ⟨rfl, { xi with child := (j : Int) }, by rw [g3, if_pos rfl], v1, k1, p1, ⟨rfl, { y with prev := (i : Int), next := xi.child }, by rw [g3, if_neg hji, g2, if_neg (Ne.symm hcj), g1, if_pos rfl], v2, k2, rfl, ?_, ⟨hc, { z with prev := (j : Int) }, by rw [g3, if_neg hci, g2, if_pos rfl], v3, k3, rfl, ?_, ?_⟩⟩, n1⟩
      · exact c2.congr (fun m hm => far m (fun e => ni3 (e ▸ hm)) (fun e => nj1 (e ▸ hm)) (fun e => ndis c (by simp [Bt.ids]) m (.inr hm) e.symm))
      · exact c3.congr (fun m hm => far m (fun e => ni1 (by rw [← e]; simp [Bt.ids, hm])) (fun e => hjc (by rw [← e]; simp [Bt.ids, hm])) (fun e => hcn.1 (e ▸ hm)))
      · exact n3.congr (fun m hm => far m (fun e => ni1 (by rw [← e]; simp [Bt.ids, hm])) (fun e => hjc (by rw [← e]; simp [Bt.ids, hm])) (fun e => hcn.2 (e ▸ hm)))
    · refine f2.trans ?_
      show Fr _ (((link1 H i j xi y).put xi.child { z with prev := j }).A.put ((i : Int)).toNat _) _
      rw [put_int]
      exact Fr.put gi2 _ (by simp)
def aheadK (a b : Int × Int) : Bool := decide (b.2 < a.2) || (decide (a.2 = b.2) && decide (a.1 < b.1))
inductive Root : Bt → Prop
  | nil : Root .nil
  | one (i : Nat) (c : Bt) : Root (.node i c .nil)
/-- Two heaps as one. -/
def melt (K : Kv) : Bt → Bt → Bt
  | .nil, t => t
  | .node i ci si, .nil => .node i ci si
  | .node i ci _, .node j cj _ => if aheadK (K j) (K i) then .node j (.node i ci cj) .nil else .node i (.node j cj ci) .nil
theorem melt_two (K : Kv) (i j : Nat) (ci cj : Bt) : melt K (.node i ci .nil) (.node j cj .nil) = if aheadK (K j) (K i) then .node j (.node i ci cj) .nil else .node i (.node j cj ci) .nil := rfl
theorem melt_root {K : Kv} {t1 t2 : Bt} (h1 : Root t1) (h2 : Root t2) : Root (melt K t1 t2) := by
  cases h1 with
  | nil => exact h2
  | one i ci =>
    cases h2 with
    | nil => exact .one i ci
    | one j cj =>
      rw [melt_two]
      split
      · exact .one _ _
      · exact .one _ _
theorem melt_ids {K : Kv} {t1 t2 : Bt} (h1 : Root t1) (h2 : Root t2) : (melt K t1 t2).ids.Perm (t1.ids ++ t2.ids) := by
  cases h1 with
  | nil => simp [melt, Bt.ids]
  | one i ci =>
    cases h2 with
    | nil => simp [melt, Bt.ids]
    | one j cj =>
      rw [melt_two]
      split
      · simp only [Bt.ids, List.append_nil, List.cons_append]
        exact (List.perm_middle (a := j) (l₁ := i :: ci.ids) (l₂ := cj.ids)).symm
      · simp only [Bt.ids, List.append_nil, List.cons_append]
        refine List.Perm.cons i ?_
        exact (List.perm_append_comm (l₁ := j :: cj.ids) (l₂ := ci.ids))
theorem link_law {H : Hp} {K : Kv} {a b : Int} {t1 t2 : Bt} (r1 : Root t1) (r2 : Root t2) (h1 : Rep H.A K (-1) a t1) (h2 : Rep H.A K (-1) b t2) (nd : (t1.ids ++ t2.ids).Nodup) :
    ∃ (H' : Hp) (r : Int), linkT H a b = some (H', r) ∧ Rep H'.A K (-1) r (melt K t1 t2) ∧ Fr H.A H'.A (t1.ids ++ t2.ids) := by
  cases r1 with
  | nil =>
    have ha : a = -1 := h1
    exact ⟨H, b, by unfold linkT; rw [if_pos ha], h2, Fr.refl _ _⟩
  | one i ci =>
    have hi := h1
    obtain ⟨rfl, x, hx, v1, k1, p1, c1, n1⟩ := h1
    cases r2 with
    | nil =>
      have hb : b = -1 := h2
      exact ⟨H, i, by unfold linkT; rw [if_neg (by omega), if_pos hb], hi, Fr.refl _ _⟩
    | one j cj =>
      have hj := h2
      obtain ⟨rfl, y, hy, v2, k2, p2, c2, n2⟩ := h2
      simp only [Bt.ids, List.append_nil] at nd
      have hah : aheadT y x = aheadK (K j) (K i) := by unfold aheadT aheadK; rw [v1, k1, v2, k2]
      unfold linkT
      rw [if_neg (by omega), if_neg (by omega), hx, hy, Option.bind_some, Option.bind_some, hah]
      rw [melt_two]
      simp only [Bt.ids, List.append_nil]
      by_cases hc : aheadK (K j) (K i) = true
      · rw [if_pos hc, if_pos hc]
        obtain ⟨H', e1, e2, e3⟩ := join_law hj hi hy ((List.perm_append_comm).nodup_iff.1 nd)
        exact ⟨H', j, e1, e2, e3.mono (fun m hm => by simp only [List.mem_append] at hm ⊢; exact hm.symm)⟩
      · rw [if_neg hc, if_neg hc]
        obtain ⟨H', e1, e2, e3⟩ := join_law hi hj hx nd
        exact ⟨H', i, e1, e2, e3⟩
/-- A node that is the first of its line, alone. -/
theorem lone_law {H : Hp} {K : Kv} {i : Nat} {c s : Bt} {q : Int} (h : Rep H.A K q i (.node i c s)) (nd : (Bt.node i c s).ids.Nodup) :
    ∃ (H' : Hp) (x : Nd), H.A.get (i : Int) = some x ∧ loneT H i = some H' ∧ Rep H'.A K (-1) i (.node i c .nil) ∧ Rep H'.A K i x.next s ∧ Fr H.A H'.A [i] ∧ Rep H.A K i x.next s := by
  obtain ⟨_, x, hx, v1, k1, p1, c1, n1⟩ := h
  simp only [Bt.ids, List.nodup_cons, List.mem_append, not_or] at nd
  have g : ∀ m : Nat, (H.put i { x with prev := -1, next := -1 }).A.get (m : Int) = if m = i then some { x with prev := -1, next := -1 } else H.A.get (m : Int) := fun m => by
    show (H.A.put ((i : Int)).toNat _).get (m : Int) = _
    rw [put_int, get_put hx]
  refine ⟨H.put i { x with prev := -1, next := -1 }, x, hx, by unfold loneT; rw [hx]; rfl, ⟨rfl, { x with prev := -1, next := -1 }, by rw [g, if_pos rfl], v1, k1, rfl, c1.congr (fun m hm => by rw [g, if_neg]; rintro rfl; exact nd.1.1 hm), rfl⟩, n1.congr (fun m hm => by rw [g, if_neg]; rintro rfl; exact nd.1.2 hm), ?_, n1⟩
  show Fr _ (H.A.put ((i : Int)).toNat _) _
  rw [put_int]
  exact Fr.put hx _ (by simp)
end Hp
end Go.Proofs.Ytmkbinbggiocaaa

set_option linter.unusedVariables false
set_option linter.unusedSimpArgs false
namespace Go.Proofs.Ytmkbinbggiocaaa
open Arena
namespace Hp
def RepL (A : Ar Nd) (K : Kv) : List Int → List Bt → Prop
  | [], [] => True
  | p :: ps, t :: ts => (Root t ∧ Rep A K (-1) p t) ∧ RepL A K ps ts
  | _, _ => False
def idsL (ts : List Bt) : List Nat := ts.flatMap Bt.ids
theorem idsL_cons (t : Bt) (ts : List Bt) : idsL (t :: ts) = t.ids ++ idsL ts := by simp [idsL]
theorem idsL_append (ts us : List Bt) : idsL (ts ++ us) = idsL ts ++ idsL us := by simp [idsL]
theorem RepL.congr {A A' : Ar Nd} {K : Kv} : ∀ {ps : List Int} {ts : List Bt}, RepL A K ps ts → (∀ i ∈ idsL ts, A'.get (i : Int) = A.get (i : Int)) → RepL A' K ps ts
  | [], [], _, _ => trivial
  | p :: ps, t :: ts, h, he => ⟨⟨h.1.1, h.1.2.congr (fun i hi => he i (by rw [idsL_cons]; simp [hi]))⟩, RepL.congr h.2 (fun i hi => he i (by rw [idsL_cons]; simp [hi]))⟩
  | [], _ :: _, h, _ => h.elim
  | _ :: _, [], h, _ => h.elim
theorem RepL.append {A : Ar Nd} {K : Kv} : ∀ {ps qs : List Int} {ts us : List Bt}, RepL A K ps ts → RepL A K qs us → RepL A K (ps ++ qs) (ts ++ us)
  | [], _, [], _, _, k => k
  | p :: ps, _, t :: ts, _, h, k => ⟨h.1, RepL.append h.2 k⟩
  | [], _, _ :: _, _, h, _ => h.elim
  | _ :: _, _, [], _, h, _ => h.elim
theorem RepL.reverse {A : Ar Nd} {K : Kv} : ∀ {ps : List Int} {ts : List Bt}, RepL A K ps ts → RepL A K ps.reverse ts.reverse
  | [], [], _ => trivial
  | p :: ps, t :: ts, h => by
    rw [List.reverse_cons, List.reverse_cons]
    exact RepL.append (RepL.reverse h.2) ⟨h.1, trivial⟩
  | [], _ :: _, h => h.elim
  | _ :: _, [], h => h.elim
/-- One by one. -/
def meltL (K : Kv) : Bt → List Bt → Bt
  | acc, [] => acc
  | acc, t :: ts => meltL K (melt K t acc) ts
theorem ones_law {K : Kv} : ∀ (ts : List Bt) (T : List Int) (H : Hp) (root : Int) (acc : Bt), RepL H.A K T ts → Root acc → Rep H.A K (-1) root acc → (acc.ids ++ idsL ts).Nodup →
    ∃ (H' : Hp) (r : Int), onesT H root T = some (H', r) ∧ Rep H'.A K (-1) r (meltL K acc ts) ∧ Root (meltL K acc ts) ∧ (meltL K acc ts).ids.Perm (acc.ids ++ idsL ts) ∧ Fr H.A H'.A (acc.ids ++ idsL ts)
  | [], [], H, root, acc, _, ra, h, nd => ⟨H, root, rfl, h, ra, by simp [meltL, idsL], Fr.refl _ _⟩
  | t :: ts, p :: T, H, root, acc, hl, ra, h, nd => by
    obtain ⟨⟨rt, ht⟩, hl⟩ := hl
    rw [idsL_cons] at nd
    have nd1 : (t.ids ++ acc.ids).Nodup := by
      have : (acc.ids ++ t.ids).Nodup := by
        rw [← List.append_assoc] at nd
        exact (List.nodup_append.1 nd).1
      exact (List.perm_append_comm).nodup_iff.1 this
    obtain ⟨H1, r1, e1, h1, f1⟩ := link_law rt ra ht h nd1
    have pm := melt_ids (K := K) rt ra
    have dis : ∀ i ∈ idsL ts, i ∉ t.ids ++ acc.ids := by
      intro i hi hm
      simp only [List.nodup_append, List.mem_append] at nd hm
      obtain ⟨_, ⟨_, _, d1⟩, d2⟩ := nd
      rcases hm with hm | hm
      · exact d1 i hm i hi rfl
      · exact d2 i hm i (.inr hi) rfl
    have hl1 : RepL H1.A K T ts := hl.congr (fun i hi => f1.same i (dis i hi))
    have nd2 : ((melt K t acc).ids ++ idsL ts).Nodup := by
      have p1 : ((melt K t acc).ids ++ idsL ts).Perm (acc.ids ++ (t.ids ++ idsL ts)) := by
        rw [← List.append_assoc]
        exact ((pm.trans List.perm_append_comm).append_right _)
      exact p1.nodup_iff.2 nd
    obtain ⟨H2, r, e2, h2, r2, p2, f2⟩ := ones_law ts T H1 r1 (melt K t acc) hl1 (melt_root rt ra) h1 nd2
    refine ⟨H2, r, ?_, h2, r2, ?_, ?_⟩
    · unfold onesT
      rw [e1, Option.bind_some]
      exact e2
    · refine p2.trans ?_
      rw [idsL_cons, ← List.append_assoc]
      exact ((pm.trans List.perm_append_comm).append_right _)
    · refine (f1.mono (fun i hi => ?_)).trans (f2.mono (fun i hi => ?_))
      · simp only [idsL_cons, List.mem_append] at hi ⊢
        rcases hi with hi | hi
        · exact .inr (.inl hi)
        · exact .inl hi
      · simp only [idsL_cons, List.mem_append] at hi ⊢
        rcases hi with hi | hi
        · have := pm.mem_iff.1 hi
          simp only [List.mem_append] at this
          rcases this with h | h
          · exact .inr (.inl h)
          · exact .inl h
        · exact .inr (.inr hi)
  | [], _ :: _, _, _, _, h, _, _, _ => h.elim
  | _ :: _, [], _, _, _, h, _, _, _ => h.elim
end Hp
end Go.Proofs.Ytmkbinbggiocaaa

set_option linter.unusedVariables false
set_option linter.unusedSimpArgs false
namespace Go.Proofs.Ytmkbinbggiocaaa
open Arena
namespace Hp
def pairB (K : Kv) : Bt → List Bt
  | .nil => []
  | .node a ca .nil => [.node a ca .nil]
  | .node a ca (.node b cb s) => melt K (.node a ca .nil) (.node b cb .nil) :: pairB K s
theorem pairB_ids (K : Kv) : ∀ t : Bt, (idsL (pairB K t)).Perm t.ids
  | .nil => by simp [pairB, idsL, Bt.ids]
  | .node a ca .nil => by simp [pairB, idsL, Bt.ids]
  | .node a ca (.node b cb s) => by
    unfold pairB
    rw [idsL_cons]
    refine ((melt_ids (.one a ca) (.one b cb)).append (pairB_ids K s)).trans ?_
    simp [Bt.ids]
theorem twos_law {K : Kv} : ∀ (fuel : Nat) (t : Bt) (H : Hp) (p q : Int) (trees : List Int) (ts : List Bt), Rep H.A K q p t → RepL H.A K trees ts → (t.ids ++ idsL ts).Nodup → t.ids.length ≤ fuel →
    ∃ (H' : Hp) (T : List Int), twosT fuel H p trees = some (H', T) ∧ RepL H'.A K T (ts ++ pairB K t) ∧ Fr H.A H'.A t.ids
  | fuel, .nil, H, p, q, trees, ts, h, hl, nd, hf => by
    have hp : p = -1 := h
    subst hp
    exact ⟨H, trees, twos_end, by simpa [pairB] using hl, Fr.refl _ _⟩
  | 0, .node a ca s, H, p, q, trees, ts, h, hl, nd, hf => by simp [Bt.ids] at hf
  | k + 1, .node a ca .nil, H, p, q, trees, ts, h, hl, nd, hf => by
    have hp : p = (a : Int) := h.1
    subst hp
    obtain ⟨H1, x, hx, e1, h1, h2, f1, n1⟩ := lone_law h (List.nodup_append.1 nd).1
    have hn : x.next = -1 := n1
    refine ⟨H1, trees ++ [(a : Int)], ?_, ?_, f1.mono (fun i hi => by simp [Bt.ids] at hi ⊢; exact .inl hi)⟩
    · unfold twosT
      rw [if_neg (by omega), hx]
      simp only [Option.bind_some]
      rw [if_pos hn, e1]
      rfl
    · unfold pairB
      refine RepL.append (hl.congr (fun i hi => f1.same i (fun hm => ?_))) ⟨⟨.one a ca, h1⟩, trivial⟩
      simp only [List.mem_singleton] at hm
      subst hm
      exact (List.nodup_append.1 nd).2.2 i (by simp [Bt.ids]) i hi rfl
  | k + 1, .node a ca (.node b cb s), H, p, q, trees, ts, h, hl, nd, hf => by
    have hp : p = (a : Int) := h.1
    subst hp
    have nd0 := (List.nodup_append.1 nd).1
    have ndx := (List.nodup_append.1 nd).2.2
    obtain ⟨H1, x, hx, e1, h1, h2, f1, n1⟩ := lone_law h nd0
    have hn : x.next = (b : Int) := n1.1
    rw [hn] at h2 n1
    have ndb : (Bt.node b cb s).ids.Nodup := by
      simp only [Bt.ids, List.nodup_cons, List.nodup_append] at nd0 ⊢
      exact nd0.2.2.1
    obtain ⟨H2, y, hy, e2, k1, k2, f2, n2⟩ := lone_law h2 ndb
    have hab : a ≠ b := by
      rintro rfl
      simp only [Bt.ids, List.nodup_cons, List.mem_append, List.mem_cons, true_or, or_true, not_true] at nd0
      exact nd0.1
    have hyH : H.A.get (b : Int) = some y := by rw [← f1.same b (by simpa using fun e => hab e.symm), hy]
    have hall : ((a :: ca.ids) ++ (b :: cb.ids) ++ s.ids).Nodup := by simpa [Bt.ids] using nd0
    have h12 := (List.nodup_append.1 hall).1
    have h3s := (List.nodup_append.1 hall).2.2
    have ha2 : Rep H2.A K (-1) a (.node a ca .nil) := h1.congr (fun i hi => f2.same i (fun hm => by
      simp only [List.mem_singleton] at hm
      subst hm
      exact (List.nodup_append.1 h12).2.2 i (by simpa [Bt.ids] using hi) i (by simp) rfl))
    obtain ⟨H3, r, e3, h3, f3⟩ := link_law (.one a ca) (.one b cb) ha2 k1 (by simpa [Bt.ids] using h12)
    have f3' : Fr H2.A H3.A ((a :: ca.ids) ++ (b :: cb.ids)) := by simpa [Bt.ids] using f3
    have hs3 : Rep H3.A K b y.next s := k2.congr (fun i hi => f3'.same i (fun hm => h3s i hm i hi rfl))
    have far : ∀ i ∈ idsL ts, i ∉ (Bt.node a ca (Bt.node b cb s)).ids := fun i hi hm => ndx i hm i hi rfl
    have hl3 : RepL H3.A K (trees ++ [r]) (ts ++ [melt K (.node a ca .nil) (.node b cb .nil)]) := by
      refine RepL.append (hl.congr (fun i hi => ?_)) ⟨⟨melt_root (.one a ca) (.one b cb), h3⟩, trivial⟩
      have hf := far i hi
      simp only [Bt.ids, List.mem_cons, List.mem_append, not_or] at hf
      rw [f3'.same i (by simp only [List.cons_append, List.mem_cons, List.mem_append, not_or]; exact ⟨hf.1, hf.2.1, hf.2.2.1, hf.2.2.2.1⟩), f2.same i (by simpa using hf.2.2.1), f1.same i (by simpa using hf.1)]
    have nd3 : (s.ids ++ idsL (ts ++ [melt K (.node a ca .nil) (.node b cb .nil)])).Nodup := by
      have pm := melt_ids (K := K) (.one a ca) (.one b cb)
      have pp : (s.ids ++ idsL (ts ++ [melt K (.node a ca .nil) (.node b cb .nil)])).Perm ((Bt.node a ca (Bt.node b cb s)).ids ++ idsL ts) := by
        rw [idsL_append, show idsL [melt K (.node a ca .nil) (.node b cb .nil)] = (melt K (.node a ca .nil) (.node b cb .nil)).ids by simp [idsL]]
        have e : (Bt.node a ca (Bt.node b cb s)).ids = ((Bt.node a ca .nil).ids ++ (Bt.node b cb .nil).ids) ++ s.ids := by simp [Bt.ids]
        rw [e]
        refine (List.Perm.append_left s.ids ((List.Perm.append_left (idsL ts) pm))).trans ?_
        rw [← List.append_assoc]
        refine (List.perm_append_comm).trans ?_
        simp only [List.append_assoc]
        exact List.Perm.refl _
      exact pp.nodup_iff.2 nd
    have hlen : s.ids.length ≤ k := by simp [Bt.ids] at hf; omega
    obtain ⟨H4, T, e4, h4, f4⟩ := twos_law k s H3 y.next b (trees ++ [r]) (ts ++ [melt K (.node a ca .nil) (.node b cb .nil)]) hs3 hl3 nd3 hlen
    refine ⟨H4, T, ?_, ?_, ?_⟩
    · unfold twosT
      rw [if_neg (by omega), hx]
      simp only [Option.bind_some]
      rw [hn, if_neg (by omega), hyH]
      simp only [Option.bind_some]
      rw [e1, Option.bind_some, e2, Option.bind_some, e3, Option.bind_some]
      exact e4
    · unfold pairB
      simpa using h4
    · refine (((f1.mono ?_).trans (f2.mono ?_)).trans (f3'.mono ?_)).trans (f4.mono ?_)
      · intro i hi; simp [Bt.ids] at hi ⊢; exact .inl hi
      · intro i hi; simp [Bt.ids] at hi ⊢; exact .inr (.inr (.inl hi))
      · intro i hi
        simp only [Bt.ids, List.cons_append, List.mem_cons, List.mem_append] at hi ⊢
        rcases hi with hi | hi | hi | hi
        · exact .inl hi
        · exact .inr (.inl hi)
        · exact .inr (.inr (.inl hi))
        · exact .inr (.inr (.inr (.inl hi)))
      · intro i hi
        simp only [Bt.ids, List.mem_cons, List.mem_append]
        exact .inr (.inr (.inr (.inr hi)))
/-- What pair makes of the children of a node. -/
def pairM (K : Kv) (t : Bt) : Bt := meltL K .nil (pairB K t).reverse
theorem pair_law {K : Kv} {fuel : Nat} {t : Bt} {H : Hp} {p q : Int} (h : Rep H.A K q p t) (nd : t.ids.Nodup) (hf : t.ids.length ≤ fuel) :
    ∃ (H' : Hp) (r : Int), pairT fuel H p = some (H', r) ∧ Rep H'.A K (-1) r (pairM K t) ∧ Root (pairM K t) ∧ (pairM K t).ids.Perm t.ids ∧ Fr H.A H'.A t.ids := by
  obtain ⟨H1, T, e1, h1, f1⟩ := twos_law fuel t H p q [] [] h trivial (by simpa [idsL] using nd) hf
  have h1' : RepL H1.A K T (pairB K t) := by simpa using h1
  have pr : (idsL (pairB K t).reverse).Perm t.ids := by
    refine List.Perm.trans ?_ (pairB_ids K t)
    unfold idsL
    exact List.Perm.flatMap_right _ (List.reverse_perm _)
  obtain ⟨H2, r, e2, h2, r2, p2, f2⟩ := ones_law (pairB K t).reverse T.reverse H1 (-1) .nil h1'.reverse .nil rfl (by simpa [Bt.ids] using pr.nodup_iff.2 nd)
  refine ⟨H2, r, ?_, h2, r2, ?_, f1.trans (f2.mono (fun i hi => ?_))⟩
  · unfold pairT
    rw [e1, Option.bind_some]
    exact e2
  · exact p2.trans (by simpa [Bt.ids] using pr)
  · simp only [Bt.ids, List.nil_append] at hi
    exact pr.mem_iff.1 hi
end Hp
end Go.Proofs.Ytmkbinbggiocaaa

set_option linter.unusedVariables false
set_option linter.unusedSimpArgs false
namespace Go.Proofs.Ytmkbinbggiocaaa
open Arena
namespace Hp
/-- The tree without n and what hangs below it: its place takes what stands beside it. -/
def cutN (n : Nat) : Bt → Bt
  | .nil => .nil
  | .node i c s => if i = n then s else .node i (cutN n c) (cutN n s)
def kidsN (n : Nat) : Bt → Bt
  | .nil => .nil
  | .node i c s => if i = n then c else if n ∈ c.ids then kidsN n c else kidsN n s
theorem cutN_no {n : Nat} : ∀ {t : Bt}, n ∉ t.ids → cutN n t = t
  | .nil, _ => rfl
  | .node i c s, h => by
    simp only [Bt.ids, List.mem_cons, List.mem_append, not_or] at h
    unfold cutN
    rw [if_neg (fun e => h.1 e.symm), cutN_no h.2.1, cutN_no h.2.2]
/-- Where the pointers of a tree lead. -/
theorem Rep.head {A : Ar Nd} {K : Kv} {q p : Int} {t : Bt} (h : Rep A K q p t) : p = -1 ∨ ∃ m : Nat, p = m ∧ m ∈ t.ids := by
  cases t with
  | nil => exact .inl h
  | node i c s => exact .inr ⟨i, h.1, by simp [Bt.ids]⟩
theorem Rep.mem {A : Ar Nd} {K : Kv} {n : Nat} : ∀ {t : Bt} {q p : Int}, Rep A K q p t → n ∈ t.ids →
    ∃ x, A.get (n : Int) = some x ∧ x.v = (K n).1 ∧ x.key = (K n).2 ∧ Rep A K n x.child (kidsN n t) ∧ (x.next = -1 ∨ ∃ m : Nat, x.next = m ∧ m ∈ t.ids ∧ ∃ z, A.get (m : Int) = some z) ∧ ((p = n ∧ x.prev = q) ∨ ∃ m : Nat, x.prev = m ∧ m ∈ t.ids ∧ ∃ z, A.get (m : Int) = some z)
  | .nil, _, _, _, hn => by simp [Bt.ids] at hn
  | .node i c s, q, p, h, hn => by
    obtain ⟨rfl, y, hy, v1, k1, p1, c1, n1⟩ := h
    unfold kidsN
    by_cases e : i = n
    · subst e
      rw [if_pos rfl]
      refine ⟨y, hy, v1, k1, c1, ?_, .inl ⟨rfl, p1⟩⟩
      cases s with
      | nil => exact .inl n1
      | node j cj sj =>
        obtain ⟨e1, z, hz, _⟩ := n1
        exact .inr ⟨j, e1, by simp [Bt.ids], z, hz⟩
    · rw [if_neg e]
      have hn' : n ∈ c.ids ∨ n ∈ s.ids := by
        simp only [Bt.ids, List.mem_cons, List.mem_append] at hn
        rcases hn with h | h
        · exact absurd h.symm e
        · exact h
      by_cases hc : n ∈ c.ids
      · rw [if_pos hc]
        obtain ⟨x, hx, a1, a2, a3, a4, a5⟩ := Rep.mem c1 hc
        refine ⟨x, hx, a1, a2, a3, ?_, .inr ?_⟩
        · rcases a4 with h | ⟨m, h1, h2, h3⟩
          · exact .inl h
          · exact .inr ⟨m, h1, by simp [Bt.ids, h2], h3⟩
        · rcases a5 with ⟨_, h⟩ | ⟨m, h1, h2, h3⟩
          · exact ⟨i, h, by simp [Bt.ids], y, hy⟩
          · exact ⟨m, h1, by simp [Bt.ids, h2], h3⟩
      · rw [if_neg hc]
        have hs : n ∈ s.ids := hn'.resolve_left hc
        obtain ⟨x, hx, a1, a2, a3, a4, a5⟩ := Rep.mem n1 hs
        refine ⟨x, hx, a1, a2, a3, ?_, .inr ?_⟩
        · rcases a4 with h | ⟨m, h1, h2, h3⟩
          · exact .inl h
          · exact .inr ⟨m, h1, by simp [Bt.ids, h2], h3⟩
        · rcases a5 with ⟨_, h⟩ | ⟨m, h1, h2, h3⟩
          · exact ⟨i, h, by simp [Bt.ids], y, hy⟩
          · exact ⟨m, h1, by simp [Bt.ids, h2], h3⟩
end Hp
end Go.Proofs.Ytmkbinbggiocaaa

set_option linter.unusedVariables false
set_option linter.unusedSimpArgs false
namespace Go.Proofs.Ytmkbinbggiocaaa
open Arena
namespace Hp
structure CutEff (A A' : Ar Nd) (n : Nat) (x : Nd) : Prop where
  self : A'.get (n : Int) = some { x with prev := -1, next := -1 }
  nxt : ∀ m : Nat, x.next = m → ∃ z, A.get (m : Int) = some z ∧ A'.get (m : Int) = some { z with prev := x.prev }
  prv : ∀ m : Nat, x.prev = m → ∃ z, A.get (m : Int) = some z ∧ A'.get (m : Int) = some (unlink n x z)
  far : ∀ m : Nat, m ≠ n → x.next ≠ m → x.prev ≠ m → A'.get (m : Int) = A.get (m : Int)
theorem cut_top {A A' : Ar Nd} {K : Kv} {n : Nat} {x : Nd} {c s : Bt} {q p : Int} (h : Rep A K q p (.node n c s)) (nd : (Bt.node n c s).ids.Nodup) (hq : ∀ m ∈ (Bt.node n c s).ids, q ≠ (m : Int)) (hx : A.get (n : Int) = some x) (he : CutEff A A' n x) :
    x.prev = q ∧ Rep A' K q x.next s := by
  obtain ⟨_, x2, hx2, v1, k1, p1, c1, n1⟩ := h
  rw [hx] at hx2
  injection hx2 with e
  subst e
  refine ⟨p1, ?_⟩
  cases s with
  | nil => exact n1
  | node j cj sj =>
    obtain ⟨e1, z, hz, v2, k2, p2, c2, n2⟩ := n1
    obtain ⟨z2, hz2, hz3⟩ := he.nxt j e1
    rw [hz] at hz2
    injection hz2 with e
    subst e
    simp only [Bt.ids, List.nodup_cons, List.nodup_append, List.mem_append, List.mem_cons, not_or] at nd
    have keep : ∀ m : Nat, m ∈ cj.ids ∨ m ∈ sj.ids → A'.get (m : Int) = A.get (m : Int) := fun m hm => by
      refine he.far m ?_ ?_ ?_
      · rintro rfl
        rcases hm with hm | hm
        · exact nd.1.2.2.1 hm
        · exact nd.1.2.2.2 hm
      · rw [e1]
        intro e
        have : j = m := by omega
        subst this
        rcases hm with hm | hm
        · exact nd.2.2.1.1.1 hm
        · exact nd.2.2.1.1.2 hm
      · rw [p1]
        exact hq m (by
          simp only [Bt.ids, List.mem_cons, List.mem_append]
          rcases hm with hm | hm
          · exact .inr (.inr (.inr (.inl hm)))
          · exact .inr (.inr (.inr (.inr hm))))
    exact ⟨e1, { z with prev := x.prev }, hz3, v2, k2, p1, c2.congr (fun m hm => keep m (.inl hm)), n2.congr (fun m hm => keep m (.inr hm))⟩
theorem cut_in {A A' : Ar Nd} {K : Kv} {n : Nat} {x : Nd} (hx : A.get (n : Int) = some x) (he : CutEff A A' n x) : ∀ {t : Bt} {q p : Int}, Rep A K q p t → t.ids.Nodup → n ∈ t.ids → p ≠ (n : Int) → Rep A' K q p (cutN n t)
  | .nil, _, _, _, _, hn, _ => by simp [Bt.ids] at hn
  | .node i c s, q, p, h, nd, hn, hp => by
    obtain ⟨rfl, y, hy, v1, k1, p1, c1, n1⟩ := h
    have hin : i ≠ n := fun e => hp (by rw [e])
    simp only [Bt.ids, List.nodup_cons, List.nodup_append, List.mem_append, not_or] at nd
    obtain ⟨⟨ni1, ni2⟩, ndc, nds, dis⟩ := nd
    unfold cutN
    rw [if_neg hin]
    have hn' : n ∈ c.ids ∨ n ∈ s.ids := by
      simp only [Bt.ids, List.mem_cons, List.mem_append] at hn
      rcases hn with h | h
      · exact absurd h.symm hin
      · exact h
    rcases hn' with hc | hs
    · have hns : n ∉ s.ids := fun hh => dis n hc n hh rfl
      rw [cutN_no hns]
      obtain ⟨x2, hx2, _, _, _, a4, a5⟩ := c1.mem hc
      rw [hx] at hx2
      injection hx2 with e
      subst e
      have sfar : ∀ m ∈ s.ids, A'.get (m : Int) = A.get (m : Int) := fun m hm => by
        refine he.far m (fun e => hns (e ▸ hm)) ?_ ?_
        · intro e
          rcases a4 with h | ⟨m', h, h2, _⟩
          · omega
          · have : m' = m := by omega
            subst this
            exact dis m' h2 m' hm rfl
        · intro e
          rcases a5 with ⟨_, h⟩ | ⟨m', h, h2, _⟩
          · have : i = m := by omega
            subst this
            exact ni2 hm
          · have : m' = m := by omega
            subst this
            exact dis m' h2 m' hm rfl
      by_cases hr : y.child = (n : Int)
      · cases c with
        | nil => simp [Bt.ids] at hc
        | node j cj sj =>
          have hj : j = n := by have := c1.1; omega
          subst hj
          obtain ⟨hpr, hR⟩ := cut_top c1 ndc (fun m hm e => by have : i = m := by omega
                                                               subst this; exact ni1 hm) hx he
          obtain ⟨z, hz, hz2⟩ := he.prv i hpr
          rw [hy] at hz
          injection hz with e
          subst e
          have hu : unlink j x y = { y with child := x.next } := by unfold unlink; rw [if_pos hr]
          rw [hu] at hz2
          have ec : cutN j (Bt.node j cj sj) = sj := by unfold cutN; rw [if_pos rfl]
          rw [ec]
          exact ⟨rfl, { y with child := x.next }, hz2, v1, k1, p1, hR, n1.congr sfar⟩
      · have hI := cut_in hx he c1 ndc hc hr
        have hi : A'.get (i : Int) = A.get (i : Int) := by
          refine he.far i hin ?_ ?_
          · intro e
            rcases a4 with h | ⟨m', h, h2, _⟩
            · omega
            · have : m' = i := by omega
              subst this
              exact ni1 h2
          · intro e
            rcases a5 with ⟨h, _⟩ | ⟨m', h, h2, _⟩
            · exact hr h
            · have : m' = i := by omega
              subst this
              exact ni1 h2
        exact ⟨rfl, y, by rw [hi, hy], v1, k1, p1, hI, n1.congr sfar⟩
    · have hnc : n ∉ c.ids := fun hh => dis n hh n hs rfl
      rw [cutN_no hnc]
      obtain ⟨x2, hx2, _, _, _, a4, a5⟩ := n1.mem hs
      rw [hx] at hx2
      injection hx2 with e
      subst e
      have cfar : ∀ m ∈ c.ids, A'.get (m : Int) = A.get (m : Int) := fun m hm => by
        refine he.far m (fun e => hnc (e ▸ hm)) ?_ ?_
        · intro e
          rcases a4 with h | ⟨m', h, h2, _⟩
          · omega
          · have : m' = m := by omega
            subst this
            exact dis m' hm m' h2 rfl
        · intro e
          rcases a5 with ⟨_, h⟩ | ⟨m', h, h2, _⟩
          · have : i = m := by omega
            subst this
            exact ni1 hm
          · have : m' = m := by omega
            subst this
            exact dis m' hm m' h2 rfl
      have hch : y.child ≠ (n : Int) := by
        intro e
        rcases c1.head with h | ⟨m, h, h2⟩
        · omega
        · have : m = n := by omega
          subst this
          exact hnc h2
      by_cases hr : y.next = (n : Int)
      · cases s with
        | nil => simp [Bt.ids] at hs
        | node j cj sj =>
          have hj : j = n := by have := n1.1; omega
          subst hj
          obtain ⟨hpr, hR⟩ := cut_top n1 nds (fun m hm e => by have : i = m := by omega
                                                               subst this; exact ni2 hm) hx he
          obtain ⟨z, hz, hz2⟩ := he.prv i hpr
          rw [hy] at hz
          injection hz with e
          subst e
          have hu : unlink j x y = { y with next := x.next } := by unfold unlink; rw [if_neg hch]
          rw [hu] at hz2
          have ec : cutN j (Bt.node j cj sj) = sj := by unfold cutN; rw [if_pos rfl]
          rw [ec]
          exact ⟨rfl, { y with next := x.next }, hz2, v1, k1, p1, c1.congr cfar, hR⟩
      · have hI := cut_in hx he n1 nds hs hr
        have hi : A'.get (i : Int) = A.get (i : Int) := by
          refine he.far i hin ?_ ?_
          · intro e
            rcases a4 with h | ⟨m', h, h2, _⟩
            · omega
            · have : m' = i := by omega
              subst this
              exact ni2 h2
          · intro e
            rcases a5 with ⟨h, _⟩ | ⟨m', h, h2, _⟩
            · exact hr h
            · have : m' = i := by omega
              subst this
              exact ni2 h2
        exact ⟨rfl, y, by rw [hi, hy], v1, k1, p1, c1.congr cfar, hI⟩
end Hp
end Go.Proofs.Ytmkbinbggiocaaa

set_option linter.unusedVariables false
set_option linter.unusedSimpArgs false
namespace Go.Proofs.Ytmkbinbggiocaaa
open Arena
namespace Hp
theorem Rep.dist {A : Ar Nd} {K : Kv} {n : Nat} {x : Nd} (hx : A.get (n : Int) = some x) : ∀ {t : Bt} {q p : Int}, Rep A K q p t → t.ids.Nodup → (∀ m ∈ t.ids, q ≠ (m : Int)) → n ∈ t.ids →
    x.next ≠ (n : Int) ∧ x.prev ≠ (n : Int) ∧ (x.next ≠ -1 → x.next ≠ x.prev)
  | .nil, _, _, _, _, _, hn => by simp [Bt.ids] at hn
  | .node i c s, q, p, h, nd, hq, hn => by
    obtain ⟨rfl, y, hy, v1, k1, p1, c1, n1⟩ := h
    simp only [Bt.ids, List.nodup_cons, List.nodup_append, List.mem_append, not_or] at nd
    obtain ⟨⟨ni1, ni2⟩, ndc, nds, dis⟩ := nd
    by_cases e : i = n
    · subst e
      rw [hx] at hy
      injection hy with e
      subst e
      refine ⟨fun e => ?_, fun e => hq i (by simp [Bt.ids]) (by omega), fun h1 e => ?_⟩
      · rcases n1.head with h | ⟨m, h, h2⟩
        · omega
        · have : m = i := by omega
          subst this
          exact ni2 h2
      · rcases n1.head with h | ⟨m, h, h2⟩
        · exact h1 h
        · exact hq m (by simp [Bt.ids, h2]) (by omega)
    · have hn' : n ∈ c.ids ∨ n ∈ s.ids := by
        simp only [Bt.ids, List.mem_cons, List.mem_append] at hn
        rcases hn with h | h
        · exact absurd h.symm e
        · exact h
      rcases hn' with hc | hs
      · exact Rep.dist hx c1 ndc (fun m hm e => by have : i = m := by omega
                                                   subst this; exact ni1 hm) hc
      · exact Rep.dist hx n1 nds (fun m hm e => by have : i = m := by omega
                                                   subst this; exact ni2 hm) hs
theorem put_i (H : Hp) (n : Nat) (x : Nd) {y : Nd} (h : H.A.get (n : Int) = some y) (m : Nat) : (H.put n x).A.get (m : Int) = if m = n then some x else H.A.get (m : Int) := by
  show (H.A.put ((n : Int)).toNat _).get (m : Int) = _
  rw [put_int, get_put h]
theorem put_fr (H : Hp) (n : Nat) (x : Nd) {y : Nd} (h : H.A.get (n : Int) = some y) {F : List Nat} (hn : n ∈ F) : Fr H.A (H.put n x).A F := by
  show Fr _ (H.A.put ((n : Int)).toNat _) _
  rw [put_int]
  exact Fr.put h _ hn
theorem cutB_at {H : Hp} {n pm : Nat} {x pz : Nd} (xp : x.prev = pm) (g : H.A.get (pm : Int) = some pz) : cutB H n x = some (H.put pm (unlink n x pz)) := by
  unfold cutB
  rw [if_neg (by omega), xp, g]
  rfl
theorem cut_eff {H : Hp} {n : Nat} {x : Nd} (hx : H.A.get (n : Int) = some x) (xn : x.next = -1 ∨ ∃ (m : Nat) (z : Nd), x.next = m ∧ H.A.get (m : Int) = some z) {pm : Nat} {pz : Nd} (xp : x.prev = pm) (xz : H.A.get (pm : Int) = some pz)
    (d1 : x.next ≠ (n : Int)) (d2 : x.prev ≠ (n : Int)) (d3 : x.next ≠ -1 → x.next ≠ x.prev) {F : List Nat} (f1 : n ∈ F) (f2 : pm ∈ F) (f3 : ∀ m : Nat, x.next = m → m ∈ F) :
    ∃ H' : Hp, cutT H n = some H' ∧ CutEff H.A H'.A n x ∧ Fr H.A H'.A F := by
  have hpn : pm ≠ n := fun e => d2 (by rw [xp, e])
  have hpne : x.prev ≠ -1 := by omega
  rcases xn with h | ⟨m, z, h, hz⟩
  · have hA : cutA H x = some H := by unfold cutA; rw [if_pos h]
    have hB : cutB H n x = some (H.put pm (unlink n x pz)) := cutB_at xp xz
    have g1 := put_i H pm (unlink n x pz) xz
    have gn : (H.put pm (unlink n x pz)).A.get (n : Int) = some x := by rw [g1, if_neg (Ne.symm hpn), hx]
    have g2 := put_i (H.put pm (unlink n x pz)) n { x with prev := -1, next := -1 } gn
    refine ⟨_, by unfold cutT; rw [hx, Option.bind_some, hA, Option.bind_some, hB, Option.bind_some, gn]; rfl, ⟨by rw [g2, if_pos rfl], fun m hm => by omega, fun m hm => ?_, fun m a b c => ?_⟩, (put_fr H pm _ xz f2).trans (put_fr _ n _ gn f1)⟩
    · have : m = pm := by omega
      subst this
      exact ⟨pz, xz, by rw [g2, if_neg hpn, g1, if_pos rfl]⟩
    · have hm : m ≠ pm := fun e => c (by rw [xp, e])
      rw [g2, if_neg a, g1, if_neg hm]
  · have hne : x.next ≠ -1 := by omega
    have hmn : m ≠ n := fun e => d1 (by rw [h, e])
    have hmp : m ≠ pm := fun e => d3 hne (by rw [h, xp, e])
    have hA : cutA H x = some (H.put m { z with prev := x.prev }) := by unfold cutA; rw [if_neg hne, h, hz]; rfl
    have g0 := put_i H m { z with prev := x.prev } hz
    have gp : (H.put m { z with prev := x.prev }).A.get (pm : Int) = some pz := by rw [g0, if_neg (Ne.symm hmp), xz]
    have hB : cutB (H.put m { z with prev := x.prev }) n x = some ((H.put m { z with prev := x.prev }).put pm (unlink n x pz)) := cutB_at xp gp
    have g1 := put_i (H.put m { z with prev := x.prev }) pm (unlink n x pz) gp
    have gn : ((H.put m { z with prev := x.prev }).put pm (unlink n x pz)).A.get (n : Int) = some x := by rw [g1, if_neg (Ne.symm hpn), g0, if_neg (Ne.symm hmn), hx]
    have g2 := put_i ((H.put m { z with prev := x.prev }).put pm (unlink n x pz)) n { x with prev := -1, next := -1 } gn
    refine ⟨_, by unfold cutT; rw [hx, Option.bind_some, hA, Option.bind_some, hB, Option.bind_some, gn]; rfl, ⟨by rw [g2, if_pos rfl], fun k hk => ?_, fun k hk => ?_, fun k a b c => ?_⟩, ((put_fr H m _ hz (f3 m h)).trans (put_fr _ pm _ gp f2)).trans (put_fr _ n _ gn f1)⟩
    · have : k = m := by omega
      subst this
      exact ⟨z, hz, by rw [g2, if_neg hmn, g1, if_neg hmp, g0, if_pos rfl]⟩
    · have : k = pm := by omega
      subst this
      exact ⟨pz, xz, by rw [g2, if_neg hpn, g1, if_pos rfl]⟩
    · have hm1 : k ≠ pm := fun e => c (by rw [xp, e])
      have hm2 : k ≠ m := fun e => b (by rw [h, e])
      rw [g2, if_neg a, g1, if_neg hm1, g0, if_neg hm2]
end Hp
end Go.Proofs.Ytmkbinbggiocaaa

set_option linter.unusedVariables false
set_option linter.unusedSimpArgs false
namespace Go.Proofs.Ytmkbinbggiocaaa
open Arena
namespace Hp
theorem Rep.kin {A : Ar Nd} {K : Kv} {n : Nat} {x : Nd} (hx : A.get (n : Int) = some x) : ∀ {t : Bt} {q p : Int}, Rep A K q p t → t.ids.Nodup → (∀ m ∈ t.ids, q ≠ (m : Int)) → n ∈ t.ids →
    ∀ j ∈ (kidsN n t).ids, x.next ≠ (j : Int) ∧ x.prev ≠ (j : Int) ∧ j ≠ n
  | .nil, _, _, _, _, _, hn => by simp [Bt.ids] at hn
  | .node i c s, q, p, h, nd, hq, hn => by
    obtain ⟨rfl, y, hy, v1, k1, p1, c1, n1⟩ := h
    simp only [Bt.ids, List.nodup_cons, List.nodup_append, List.mem_append, not_or] at nd
    obtain ⟨⟨ni1, ni2⟩, ndc, nds, dis⟩ := nd
    unfold kidsN
    by_cases e : i = n
    · subst e
      rw [if_pos rfl]
      rw [hx] at hy
      injection hy with e
      subst e
      intro j hj
      refine ⟨fun e => ?_, fun e => hq j (by simp [Bt.ids, hj]) (by omega), fun e => ni1 (e ▸ hj)⟩
      rcases n1.head with h | ⟨m, h, h2⟩
      · omega
      · have : m = j := by omega
        subst this
        exact dis m hj m h2 rfl
    · rw [if_neg e]
      have hn' : n ∈ c.ids ∨ n ∈ s.ids := by
        simp only [Bt.ids, List.mem_cons, List.mem_append] at hn
        rcases hn with h | h
        · exact absurd h.symm e
        · exact h
      by_cases hc : n ∈ c.ids
      · rw [if_pos hc]
        exact Rep.kin hx c1 ndc (fun m hm e => by have : i = m := by omega
                                                  subst this; exact ni1 hm) hc
      · rw [if_neg hc]
        exact Rep.kin hx n1 nds (fun m hm e => by have : i = m := by omega
                                                  subst this; exact ni2 hm) (hn'.resolve_left hc)
theorem cut_ids {n : Nat} : ∀ {t : Bt}, t.ids.Nodup → n ∈ t.ids → ((cutN n t).ids ++ n :: (kidsN n t).ids).Perm t.ids
  | .nil, _, hn => by simp [Bt.ids] at hn
  | .node i c s, nd, hn => by
    simp only [Bt.ids, List.nodup_cons, List.nodup_append, List.mem_append, not_or] at nd
    obtain ⟨⟨ni1, ni2⟩, ndc, nds, dis⟩ := nd
    unfold cutN kidsN
    by_cases e : i = n
    · subst e
      rw [if_pos rfl, if_pos rfl]
      exact List.perm_middle.trans (List.Perm.cons i List.perm_append_comm)
    · rw [if_neg e, if_neg e]
      have hn' : n ∈ c.ids ∨ n ∈ s.ids := by
        simp only [Bt.ids, List.mem_cons, List.mem_append] at hn
        rcases hn with h | h
        · exact absurd h.symm e
        · exact h
      by_cases hc : n ∈ c.ids
      · have hns : n ∉ s.ids := fun hh => dis n hc n hh rfl
        rw [if_pos hc, cutN_no hns]
        simp only [Bt.ids, List.cons_append]
        refine List.Perm.cons i ?_
        have h := cut_ids ndc hc
        refine List.Perm.trans ?_ (h.append_right s.ids)
        rw [List.append_assoc, List.append_assoc]
        exact List.Perm.append_left _ List.perm_append_comm
      · have hs := hn'.resolve_left hc
        rw [if_neg hc, cutN_no hc]
        simp only [Bt.ids, List.cons_append]
        refine List.Perm.cons i ?_
        rw [List.append_assoc]
        exact List.Perm.append_left _ (cut_ids nds hs)
theorem cut_law {H : Hp} {K : Kv} {r n : Nat} {c : Bt} (h : Rep H.A K (-1) r (.node r c .nil)) (nd : (Bt.node r c .nil).ids.Nodup) (hn : n ∈ c.ids) :
    ∃ H' : Hp, cutT H n = some H' ∧ Rep H'.A K (-1) r (.node r (cutN n c) .nil) ∧ Rep H'.A K (-1) n (.node n (kidsN n c) .nil) ∧ Fr H.A H'.A (Bt.node r c .nil).ids := by
  have hrc : r ∉ c.ids := by simp only [Bt.ids, List.append_nil, List.nodup_cons] at nd; exact nd.1
  have hrn : r ≠ n := fun e => hrc (e ▸ hn)
  have hn' : n ∈ (Bt.node r c .nil).ids := by simp [Bt.ids, hn]
  have hk : kidsN n (.node r c .nil) = kidsN n c := by
    rw [kidsN, if_neg hrn, if_pos hn]
  have hcut : cutN n (.node r c .nil) = .node r (cutN n c) .nil := by
    rw [cutN, if_neg hrn]
    rfl
  have hq : ∀ m ∈ (Bt.node r c .nil).ids, (-1 : Int) ≠ (m : Int) := fun m _ => by omega
  obtain ⟨x, hx, a1, a2, a3, a4, a5⟩ := h.mem hn'
  obtain ⟨d1, d2, d3⟩ := h.dist hx nd hq hn'
  have kin := h.kin hx nd hq hn'
  rw [hk] at a3 kin
  have a5' : ∃ m : Nat, x.prev = m ∧ m ∈ (Bt.node r c .nil).ids ∧ ∃ z, H.A.get (m : Int) = some z := by
    rcases a5 with ⟨e, _⟩ | h
    · exact absurd (Int.ofNat_inj.1 e) hrn
    · exact h
  obtain ⟨pm, xp, pmF, pz, xz⟩ := a5'
  obtain ⟨H', e1, e2, e3⟩ := cut_eff (F := (Bt.node r c .nil).ids) hx (by
    rcases a4 with h | ⟨m, h1, _, z, h3⟩
    · exact .inl h
    · exact .inr ⟨m, z, h1, h3⟩) xp xz d1 d2 d3 hn' pmF (fun m hm => by
      rcases a4 with h | ⟨m', h1, h2, _⟩
      · omega
      · have : m = m' := by omega
        subst this
        exact h2)
  have hI := cut_in hx e2 h nd hn' (fun e => hrn (Int.ofNat_inj.1 e))
  rw [hcut] at hI
  refine ⟨H', e1, hI, ⟨rfl, { x with prev := -1, next := -1 }, e2.self, a1, a2, rfl, a3.congr (fun i hi => ?_), rfl⟩, e3⟩
  obtain ⟨k1, k2, k3⟩ := kin i hi
  exact e2.far i k3 k1 k2
/-! ### the order -/
/-- j is not ahead of i. -/
def Le (K : Kv) (i j : Nat) : Prop := aheadK (K j) (K i) = false
theorem aheadK_false {a b : Int × Int} : aheadK a b = false ↔ a.2 < b.2 ∨ (a.2 = b.2 ∧ b.1 ≤ a.1) := by
  unfold aheadK
  rw [Bool.or_eq_false_iff, Bool.and_eq_false_iff, decide_eq_false_iff_not, decide_eq_false_iff_not, decide_eq_false_iff_not]
  omega
theorem aheadK_true {a b : Int × Int} : aheadK a b = true ↔ b.2 < a.2 ∨ (a.2 = b.2 ∧ a.1 < b.1) := by
  unfold aheadK
  rw [Bool.or_eq_true, Bool.and_eq_true, decide_eq_true_eq, decide_eq_true_eq, decide_eq_true_eq]
theorem Le.trans {K : Kv} {i j k : Nat} (h : Le K i j) (h2 : Le K j k) : Le K i k := by
  unfold Le at *
  rw [aheadK_false] at *
  omega
theorem le_of {K : Kv} {i j : Nat} (h : aheadK (K i) (K j) = true) : Le K i j := by
  unfold Le
  rw [aheadK_false]
  rw [aheadK_true] at h
  omega
def Ord (K : Kv) : Bt → Prop
  | .nil => True
  | .node i c s => (∀ j ∈ c.ids, Le K i j) ∧ Ord K c ∧ Ord K s
theorem Ord.congr {K K' : Kv} : ∀ {t : Bt}, Ord K t → (∀ i ∈ t.ids, K' i = K i) → Ord K' t
  | .nil, _, _ => trivial
  | .node i c s, h, he => by
    refine ⟨fun j hj => ?_, h.2.1.congr (fun j hj => he j (by simp [Bt.ids, hj])), h.2.2.congr (fun j hj => he j (by simp [Bt.ids, hj]))⟩
    unfold Le
    rw [he i (by simp [Bt.ids]), he j (by simp [Bt.ids, hj])]
    exact h.1 j hj
theorem melt_ord {K : Kv} {t1 t2 : Bt} (r1 : Root t1) (r2 : Root t2) (h1 : Ord K t1) (h2 : Ord K t2) : Ord K (melt K t1 t2) := by
  cases r1 with
  | nil => exact h2
  | one i ci =>
    cases r2 with
    | nil => exact h1
    | one j cj =>
      rw [melt_two]
      obtain ⟨a1, a2, _⟩ := h1
      obtain ⟨b1, b2, _⟩ := h2
      by_cases hc : aheadK (K j) (K i) = true
      · rw [if_pos hc]
        refine ⟨fun m hm => ?_, ⟨a1, a2, b2⟩, trivial⟩
        simp only [Bt.ids, List.mem_cons, List.mem_append] at hm
        rcases hm with rfl | hm | hm
        · exact le_of hc
        · exact (le_of hc).trans (a1 m hm)
        · exact b1 m hm
      · rw [if_neg hc]
        have hle : Le K i j := by unfold Le; simpa using hc
        refine ⟨fun m hm => ?_, ⟨b1, b2, a2⟩, trivial⟩
        simp only [Bt.ids, List.mem_cons, List.mem_append] at hm
        rcases hm with rfl | hm | hm
        · exact hle
        · exact hle.trans (b1 m hm)
        · exact a1 m hm
theorem pairB_ord {K : Kv} : ∀ {t : Bt}, Ord K t → ∀ u ∈ pairB K t, Root u ∧ Ord K u
  | .nil, _, u, hu => by simp [pairB] at hu
  | .node a ca .nil, h, u, hu => by
    simp only [pairB, List.mem_singleton] at hu
    subst hu
    exact ⟨.one a ca, h⟩
  | .node a ca (.node b cb s), h, u, hu => by
    rw [pairB, List.mem_cons] at hu
    rcases hu with rfl | hu
    · exact ⟨melt_root (.one a ca) (.one b cb), melt_ord (.one a ca) (.one b cb) ⟨h.1, h.2.1, trivial⟩ ⟨h.2.2.1, h.2.2.2.1, trivial⟩⟩
    · exact pairB_ord h.2.2.2.2 u hu
theorem meltL_ord {K : Kv} : ∀ {ts : List Bt} {acc : Bt}, (∀ u ∈ ts, Root u ∧ Ord K u) → Root acc → Ord K acc → Ord K (meltL K acc ts)
  | [], acc, _, _, h => h
  | t :: ts, acc, hu, ra, h => by
    unfold meltL
    obtain ⟨r1, o1⟩ := hu t (by simp)
    exact meltL_ord (fun u h => hu u (by simp [h])) (melt_root r1 ra) (melt_ord r1 ra o1 h)
theorem pairM_ord {K : Kv} {t : Bt} (h : Ord K t) : Ord K (pairM K t) := by
  unfold pairM
  exact meltL_ord (fun u hu => pairB_ord h u (by simpa using hu)) .nil trivial
theorem cutN_sub {n : Nat} : ∀ {t : Bt}, ∀ j ∈ (cutN n t).ids, j ∈ t.ids
  | .nil, j, hj => by simpa [cutN] using hj
  | .node i c s, j, hj => by
    unfold cutN at hj
    split at hj
    · simp [Bt.ids, hj]
    · simp only [Bt.ids, List.mem_cons, List.mem_append] at hj ⊢
      rcases hj with h | h | h
      · exact .inl h
      · exact .inr (.inl (cutN_sub j h))
      · exact .inr (.inr (cutN_sub j h))
theorem cutN_ord {K : Kv} {n : Nat} : ∀ {t : Bt}, Ord K t → Ord K (cutN n t)
  | .nil, _ => by unfold cutN; trivial
  | .node i c s, h => by
    unfold cutN
    split
    · exact h.2.2
    · exact ⟨fun j hj => h.1 j (cutN_sub j hj), cutN_ord h.2.1, cutN_ord h.2.2⟩
theorem kidsN_ord {K : Kv} {n : Nat} : ∀ {t : Bt}, Ord K t → n ∈ t.ids → Ord K (kidsN n t) ∧ ∀ j ∈ (kidsN n t).ids, Le K n j
  | .nil, _, hn => by simp [Bt.ids] at hn
  | .node i c s, h, hn => by
    unfold kidsN
    by_cases e : i = n
    · subst e
      rw [if_pos rfl]
      exact ⟨h.2.1, h.1⟩
    · rw [if_neg e]
      by_cases hc : n ∈ c.ids
      · rw [if_pos hc]
        exact kidsN_ord h.2.1 hc
      · rw [if_neg hc]
        refine kidsN_ord h.2.2 ?_
        simp only [Bt.ids, List.mem_cons, List.mem_append] at hn
        rcases hn with h | h | h
        · exact absurd h.symm e
        · exact absurd h hc
        · exact h
end Hp
end Go.Proofs.Ytmkbinbggiocaaa

set_option linter.unusedVariables false
set_option linter.unusedSimpArgs false
namespace Go.Proofs.Ytmkbinbggiocaaa
open Arena
namespace Hp
theorem getD_set {α : Type} (l : List α) (v u : Nat) (x d : α) : (l.set v x).getD u d = if u = v ∧ v < l.length then x else l.getD u d := by
  simp only [List.getD_eq_getElem?_getD, List.getElem?_set]
  by_cases e : v = u
  · subst e
    by_cases h : v < l.length
    · simp [h]
    · simp [h]
  · rw [if_neg e, if_neg (fun h => e h.1.symm)]
theorem countP_set {l : List Bool} {v : Nat} (h : v < l.length) (b : Bool) : (l.set v b).countP id + (if l.getD v false then 1 else 0) = l.countP id + (if b then 1 else 0) := by
  induction l generalizing v with
  | nil => simp at h
  | cons a l ih =>
    cases v with
    | zero =>
      simp only [List.set_cons_zero, List.countP_cons, List.getD_cons_zero, id]
      omega
    | succ v =>
      simp only [List.length_cons] at h
      have := ih (v := v) (by omega)
      simp only [List.set_cons_succ, List.countP_cons, List.getD_cons_succ, id] at this ⊢
      omega
theorem countP_lt {l : List Bool} {v : Nat} (h : v < l.length) (hf : l.getD v false = false) : l.countP id < l.length := by
  have h1 := countP_set h true
  rw [hf] at h1
  simp only [Bool.false_eq_true, if_false, if_true] at h1
  have h2 := List.countP_le_length (p := id) (l := l.set v true)
  rw [List.length_set] at h2
  omega
/-- The nodes that live in the table are L; each is a vertex that is in, with its key. -/
structure Own (H : Hp) (K : Kv) (L : List Nat) (I : List Bool) (X : List Int) : Prop where
  most : H.room ≤ 4096
  room : H.A.room = H.room
  fit : H.A.cells.length ≤ H.room
  free : H.A.free.Nodup
  dead : ∀ i : Nat, i ∈ H.A.free ↔ i < H.A.cells.length ∧ (H.A.get (i : Int)).isSome = false
  li : I.length = H.room
  lx : X.length = H.room
  la : H.at_.length = H.room
  nodup : L.Nodup
  live : ∀ i : Nat, (H.A.get (i : Int)).isSome = true ↔ i ∈ L
  back : ∀ i ∈ L, ∃ v : Nat, (K i).1 = v ∧ v < H.room ∧ I.getD v false = true ∧ H.at_.getD v (-1) = (i : Int)
  yes : ∀ v < H.room, I.getD v false = true → ∃ i ∈ L, H.at_.getD v (-1) = (i : Int) ∧ (K i).1 = v ∧ (K i).2 = X.getD v 0
  no : ∀ v < H.room, I.getD v false = false → H.at_.getD v (-1) = -1
  count : H.A.cells.length = H.A.free.length + I.countP id
theorem Own.fr {H H' : Hp} {K : Kv} {L L' F : List Nat} {I : List Bool} {X : List Int} (h : Own H K L I X) (f : Fr H.A H'.A F) (e1 : H'.room = H.room) (e2 : H'.at_ = H.at_) (p : L.Perm L') : Own H' K L' I X where
  most := by rw [e1]; exact h.most
  room := by rw [f.room, e1]; exact h.room
  fit := by rw [f.len, e1]; exact h.fit
  free := by rw [f.free]; exact h.free
  dead := fun i => by rw [f.free, f.len, f.live]; exact h.dead i
  li := by rw [e1]; exact h.li
  lx := by rw [e1]; exact h.lx
  la := by rw [e1, e2]; exact h.la
  nodup := p.nodup_iff.1 h.nodup
  live := fun i => by rw [f.live, h.live, p.mem_iff]
  back := fun i hi => by rw [e1, e2]; exact h.back i (p.mem_iff.2 hi)
  yes := fun v hv hI => by
    rw [e1] at hv
    rw [e2]
    obtain ⟨i, hi, h2⟩ := h.yes v hv hI
    exact ⟨i, p.mem_iff.1 hi, h2⟩
  no := fun v hv hI => by rw [e1] at hv; rw [e2]; exact h.no v hv hI
  count := by rw [f.len, f.free]; exact h.count
theorem Own.le {H : Hp} {K : Kv} {L : List Nat} {I : List Bool} {X : List Int} (h : Own H K L I X) : L.length ≤ 4096 := by
  have h1 := nodup_le H.A.cells.length L h.nodup (fun i hi => by
    have h2 := (h.live i).2 hi
    rw [get_nat] at h2
    rcases Nat.lt_or_ge i H.A.cells.length with h3 | h3
    · exact h3
    · rw [List.getElem?_eq_none h3] at h2; cases h2)
  have := h.fit
  have := h.most
  omega
/-- The heap is right: it holds the vertices of I, each with its key of X. -/
structure Ok (H : Hp) (I : List Bool) (X : List Int) : Prop where
  mk ::
  out : ∃ (t : Bt) (K : Kv), Root t ∧ Rep H.A K (-1) H.root t ∧ Ord K t ∧ Own H K t.ids I X
def inR (I : List Bool) (v : Int) : Bool := decide (0 ≤ v ∧ v < I.length) && I.getD v.toNat false
theorem Own.place {H : Hp} {K : Kv} {L : List Nat} {I : List Bool} {X : List Int} (h : Own H K L I X) (v : Int) :
    (inR I v = false ∧ placeT H v = -1) ∨ (inR I v = true ∧ 0 ≤ v ∧ v < H.room ∧ I.getD v.toNat false = true ∧ ∃ i ∈ L, placeT H v = (i : Int) ∧ (K i).1 = v ∧ (K i).2 = X.getD v.toNat 0) := by
  unfold inR placeT
  rw [h.li]
  by_cases hv : 0 ≤ v ∧ v < H.room
  · rw [if_pos hv, decide_eq_true hv, Bool.true_and]
    have hv2 : v.toNat < H.room := by omega
    cases hI : I.getD v.toNat false with
    | false => exact .inl ⟨rfl, h.no _ hv2 hI⟩
    | true =>
      obtain ⟨i, hi, h2, h3, h4⟩ := h.yes _ hv2 hI
      exact .inr ⟨rfl, hv.1, hv.2, rfl, i, hi, h2, by rw [h3]; omega, h4⟩
  · rw [if_neg hv, decide_eq_false hv]
    exact .inl ⟨rfl, rfl⟩
/-! ### push -/
theorem get_append {A : Ar Nd} (x : Nd) (m : Nat) : ({ A with cells := A.cells ++ [some x] } : Ar Nd).get (m : Int) = if m = A.cells.length then some x else A.get (m : Int) := by
  rw [get_nat, get_nat]
  show ((A.cells ++ [some x])[m]?).join = _
  by_cases h : m < A.cells.length
  · rw [List.getElem?_append_left h, if_neg (by omega)]
  · rw [List.getElem?_append_right (by omega)]
    by_cases e : m = A.cells.length
    · subst e
      simp
    · rw [if_neg e, List.getElem?_eq_none (by simp; omega), List.getElem?_eq_none (by omega)]
theorem get_set {A : Ar Nd} {n : Nat} (h : n < A.cells.length) (o : Option Nd) (fr : List Nat) (m : Nat) : ({ A with cells := A.cells.set n o, free := fr } : Ar Nd).get (m : Int) = if m = n then o else A.get (m : Int) := by
  rw [get_nat, get_nat]
  show ((A.cells.set n o)[m]?).join = _
  by_cases e : m = n
  · subst e
    rw [if_pos rfl, List.getElem?_set_self h]
    rfl
  · rw [if_neg e, List.getElem?_set_ne (Ne.symm e)]
/-- A node more in the table. -/
theorem give_own {H : Hp} {K : Kv} {L : List Nat} {I : List Bool} {X : List Int} (h : Own H K L I X) (v key : Int) (hv0 : 0 ≤ v) (hv1 : v < H.room) (hI : I.getD v.toNat false = false) :
    ∃ n : Nat, (H.A.give ⟨v, key, -1, -1, -1⟩).2 = some n ∧ n ∉ L ∧ (∀ m : Nat, (given H v key n).A.get (m : Int) = if m = n then some ⟨v, key, -1, -1, -1⟩ else H.A.get (m : Int)) ∧
      Own (given H v key n) (fun m => if m = n then (v, key) else K m) (L ++ [n]) (I.set v.toNat true) (X.set v.toNat key) := by
  have hvn : v.toNat < H.room := by omega
  have hvl : v.toNat < I.length := by rw [h.li]; exact hvn
  -- what is common
  have key1 : ∀ (A' : Ar Nd) (n : Nat), (H.A.give ⟨v, key, -1, -1, -1⟩).1 = A' → n ∉ L → A'.room = H.A.room → A'.cells.length ≤ H.room → A'.free.Nodup → (∀ m : Nat, A'.get (m : Int) = if m = n then some ⟨v, key, -1, -1, -1⟩ else H.A.get (m : Int)) →
      (∀ i : Nat, i ∈ A'.free ↔ i < A'.cells.length ∧ (A'.get (i : Int)).isSome = false) → (A'.cells.length = A'.free.length + (I.countP id + 1)) →
      Own (given H v key n) (fun m => if m = n then (v, key) else K m) (L ++ [n]) (I.set v.toNat true) (X.set v.toNat key) := by
    intro A' n hA hn a1 a2 a3 a4 a5 a6
    have eA : (given H v key n).A = A' := hA
    have ne : ∀ i ∈ L, i ≠ n := fun i hi e => hn (e ▸ hi)
    refine { most := h.most, room := by rw [eA, a1]; exact h.room, fit := by rw [eA]; exact a2, free := by rw [eA]; exact a3, dead := by rw [eA]; exact a5, li := by rw [List.length_set]; exact h.li, lx := by rw [List.length_set]; exact h.lx, la := by show (H.at_.set _ _).length = _; rw [List.length_set]; exact h.la, nodup := ?_, live := ?_, back := ?_, yes := ?_, no := ?_, count := ?_ }
    · rw [List.nodup_append]
      exact ⟨h.nodup, by simp, fun a ha b hb => by rw [List.mem_singleton.1 hb]; exact ne a ha⟩
    · intro i
      rw [eA, a4, List.mem_append, List.mem_singleton, ← h.live i]
      by_cases e : i = n
      · simp [e]
      · simp [e]
    · intro i hi
      show ∃ u : Nat, _ ∧ u < H.room ∧ _ ∧ (H.at_.set v.toNat n).getD u (-1) = _
      rcases List.mem_append.1 hi with hi | hi
      · obtain ⟨u, b1, b2, b3, b4⟩ := h.back i hi
        have hu : u ≠ v.toNat := by rintro rfl; rw [hI] at b3; cases b3
        refine ⟨u, by rw [if_neg (ne i hi)]; exact b1, b2, ?_, ?_⟩
        · rw [getD_set, if_neg (fun hh => hu hh.1)]; exact b3
        · rw [getD_set, if_neg (fun hh => hu hh.1)]; exact b4
      · rw [List.mem_singleton] at hi
        subst hi
        refine ⟨v.toNat, by rw [if_pos rfl]; show v = _; omega, hvn, ?_, ?_⟩
        · rw [getD_set, if_pos ⟨rfl, hvl⟩]
        · rw [getD_set, if_pos ⟨rfl, by rw [h.la]; exact hvn⟩]
    · intro u hu hb
      replace hu : u < H.room := hu
      show ∃ i ∈ L ++ [n], (H.at_.set v.toNat n).getD u (-1) = (i : Int) ∧ _
      by_cases e : u = v.toNat
      · subst e
        refine ⟨n, by simp, by rw [getD_set, if_pos ⟨rfl, by rw [h.la]; exact hvn⟩], by rw [if_pos rfl]; show v = _; omega, by rw [if_pos rfl, getD_set, if_pos ⟨rfl, by rw [h.lx]; exact hvn⟩]⟩
      · rw [getD_set, if_neg (fun hh => e hh.1)] at hb
        obtain ⟨i, b1, b2, b3, b4⟩ := h.yes u hu hb
        refine ⟨i, by simp [b1], by rw [getD_set, if_neg (fun hh => e hh.1)]; exact b2, by rw [if_neg (ne i b1)]; exact b3, by rw [if_neg (ne i b1), getD_set, if_neg (fun hh => e hh.1)]; exact b4⟩
    · intro u hu hb
      replace hu : u < H.room := hu
      show (H.at_.set v.toNat n).getD u (-1) = -1
      by_cases e : u = v.toNat
      · subst e
        rw [getD_set, if_pos ⟨rfl, hvl⟩] at hb
        cases hb
      · rw [getD_set, if_neg (fun hh => e hh.1)] at hb ⊢
        exact h.no u hu hb
    · rw [eA, a6]
      have := countP_set hvl true
      rw [hI] at this
      simp at this
      omega
  cases hf : H.A.free with
  | cons n l =>
    have hfn := (h.dead n).1 (by rw [hf]; simp)
    have nd := h.free
    rw [hf, List.nodup_cons] at nd
    have hnL : n ∉ L := fun hh => by have := (h.live n).2 hh; rw [hfn.2] at this; cases this
    have hg : H.A.give ⟨v, key, -1, -1, -1⟩ = (⟨H.A.room, H.A.cells.set n (some ⟨v, key, -1, -1, -1⟩), l⟩, some n) := by simp [Ar.give, hf]
    have g := fun m => get_set (A := H.A) hfn.1 (some ⟨v, key, -1, -1, -1⟩) l m
    have hc := h.count
    rw [hf, List.length_cons] at hc
    refine ⟨n, by rw [hg], hnL, fun m => by show ((H.A.give _).1).get _ = _; rw [hg]; exact g m, key1 ⟨H.A.room, H.A.cells.set n (some ⟨v, key, -1, -1, -1⟩), l⟩ n (by rw [hg]) hnL rfl (by simpa using h.fit) nd.2 g (fun i => ?_) (by simp only [List.length_set]; omega)⟩
    rw [g]
    simp only [List.length_set]
    by_cases e : i = n
    · subst e
      simp [nd.1]
    · rw [if_neg e, ← h.dead i, hf]
      simp [e]
  | nil =>
    have hc := h.count
    rw [hf] at hc
    have hlt := countP_lt hvl hI
    have hroom : H.A.cells.length < H.A.room := by rw [h.room, ← h.li]; simp at hc; omega
    have hg : H.A.give ⟨v, key, -1, -1, -1⟩ = (⟨H.A.room, H.A.cells ++ [some ⟨v, key, -1, -1, -1⟩], H.A.free⟩, some H.A.cells.length) := by simp [Ar.give, hf, hroom]
    have g := fun m => get_append (A := H.A) ⟨v, key, -1, -1, -1⟩ m
    have hnL : H.A.cells.length ∉ L := fun hh => by
      have := (h.live _).2 hh
      rw [get_nat, List.getElem?_eq_none (Nat.le_refl _)] at this
      cases this
    have hr := h.room
    refine ⟨H.A.cells.length, by rw [hg], hnL, fun m => by show ((H.A.give _).1).get _ = _; rw [hg]; exact g m, key1 ⟨H.A.room, H.A.cells ++ [some ⟨v, key, -1, -1, -1⟩], H.A.free⟩ _ (by rw [hg]) hnL rfl (by simp; omega) h.free g (fun i => ?_) (by simp [hf]; simpa using hc)⟩
    have hd := h.dead i
    rw [g]
    simp only [List.length_append, List.length_cons, List.length_nil]
    by_cases e : i = H.A.cells.length
    · rw [e, if_pos rfl, hf]; simp
    · rw [if_neg e, hd]
      constructor
      · rintro ⟨a, b⟩; exact ⟨by omega, b⟩
      · rintro ⟨a, b⟩; exact ⟨by omega, b⟩
end Hp
end Go.Proofs.Ytmkbinbggiocaaa

set_option linter.unusedVariables false
set_option linter.unusedSimpArgs false
namespace Go.Proofs.Ytmkbinbggiocaaa
open Arena
namespace Hp
theorem Own.root {H : Hp} {K : Kv} {L : List Nat} {I : List Bool} {X : List Int} (h : Own H K L I X) (r : Int) : Own { H with root := r } K L I X := h.fr (H' := { H with root := r }) (Fr.refl H.A []) rfl rfl (List.Perm.refl _)
def pushR (I : List Bool) (v : Int) : Bool := decide (0 ≤ v ∧ v < I.length) && !I.getD v.toNat false
theorem push_ok {H : Hp} {I : List Bool} {X : List Int} (h : Ok H I X) (v key : Int) :
    ∃ H', pushT H v key = some (H', pushR I v) ∧ Ok H' (if pushR I v then I.set v.toNat true else I) (if pushR I v then X.set v.toNat key else X) ∧ H.links ≤ H'.links ∧ H'.links ≤ H.links + 1 ∧ H'.room = H.room := by
  obtain ⟨t, K, rt, hr, ho, hw⟩ := h.out
  by_cases hv : 0 ≤ v ∧ v < H.room
  · cases hI : I.getD v.toNat false with
    | true =>
      have e : pushR I v = false := by unfold pushR; rw [hI]; simp
      obtain ⟨i, _, hat, _⟩ := hw.yes v.toNat (by omega) hI
      rw [e]
      refine ⟨H, ?_, h, by omega, by omega, rfl⟩
      unfold pushT
      rw [if_neg (fun hh => by rw [hat] at hh; omega)]
    | false =>
      have e : pushR I v = true := by unfold pushR; rw [hI, hw.li]; simp [hv.1, hv.2]
      obtain ⟨n, hn, hnL, g, own⟩ := give_own hw v key hv.1 hv.2 hI
      rw [e, if_pos rfl, if_pos rfl]
      have hat := hw.no v.toNat (by omega) hI
      have h1 : Rep (given H v key n).A (fun m => if m = n then (v, key) else K m) (-1) H.root t := (hr.congr (fun i hi => by rw [g, if_neg]; rintro rfl; exact hnL hi)).key (fun i hi => by rw [if_neg]; rintro rfl; exact hnL hi)
      have h2 : Rep (given H v key n).A (fun m => if m = n then (v, key) else K m) (-1) n (.node n .nil .nil) :=
        ⟨rfl, ⟨v, key, -1, -1, -1⟩, by rw [g, if_pos rfl], by simp only [if_true], by simp only [if_true], rfl, rfl, rfl⟩
      obtain ⟨H', r, e1, e2, e3⟩ := link_law rt (.one n .nil) h1 h2 (by simpa [Bt.ids] using own.nodup)
      have hs := link_same e1
      have own' := own.fr e3 hs.room hs.at_ (L' := (melt (fun m => if m = n then (v, key) else K m) t (.node n .nil .nil)).ids) (by simpa [Bt.ids] using (melt_ids (K := (fun m => if m = n then (v, key) else K m)) rt (.one n .nil)).symm)
      refine ⟨{ H' with root := r }, ?_, ⟨_, _, melt_root rt (.one n .nil), e2, melt_ord rt (.one n .nil) (ho.congr (fun i hi => by rw [if_neg]; rintro rfl; exact hnL hi)) ⟨fun j hj => by simp [Bt.ids] at hj, trivial, trivial⟩, own'.root r⟩, hs.lo, hs.hi, hs.room⟩
      unfold pushT
      rw [if_pos ⟨hv, hat⟩, hn, Option.bind_some, e1]
      rfl
  · have e : pushR I v = false := by unfold pushR; rw [hw.li, decide_eq_false hv]; rfl
    rw [e]
    refine ⟨H, ?_, h, by omega, by omega, rfl⟩
    unfold pushT
    rw [if_neg (fun hh => hv hh.1)]
/-! ### raise -/
def setKey (K : Kv) (n : Nat) (v key : Int) : Kv := fun m => if m = n then (v, key) else K m
theorem Rep.rekey {H : Hp} {K : Kv} {n : Nat} {x : Nd} {v key : Int} (hx : H.A.get (n : Int) = some x) (hv : x.v = v) : ∀ {t : Bt} {q p : Int}, Rep H.A K q p t → Rep (H.put n { x with key := key }).A (setKey K n v key) q p t
  | .nil, _, _, h => h
  | .node i c s, q, p, h => by
    obtain ⟨rfl, y, hy, v1, k1, p1, c1, n1⟩ := h
    have g := put_i H n { x with key := key } hx
    by_cases e : i = n
    · subst e
      rw [hx] at hy
      injection hy with e
      subst e
      exact ⟨rfl, { x with key := key }, by rw [g, if_pos rfl], by simp only [setKey, if_true]; exact hv, by simp only [setKey, if_true], p1, c1.rekey hx hv, n1.rekey hx hv⟩
    · exact ⟨rfl, y, by rw [g, if_neg e, hy], by simp only [setKey, if_neg e]; exact v1, by simp only [setKey, if_neg e]; exact k1, p1, c1.rekey hx hv, n1.rekey hx hv⟩
theorem Own.rekey {H : Hp} {K : Kv} {L : List Nat} {I : List Bool} {X : List Int} {n : Nat} {x : Nd} {v key : Int} (h : Own H K L I X) (hx : H.A.get (n : Int) = some x) (hn : n ∈ L) (hv : (K n).1 = v) (hv0 : 0 ≤ v) (hv1 : v < H.room) :
    Own (H.put n { x with key := key }) (setKey K n v key) L I (X.set v.toNat key) := by
  have f := put_fr H n { x with key := key } hx (F := L) hn
  have hw := h.fr f (H' := H.put n { x with key := key }) rfl rfl (List.Perm.refl _)
  have hl : (X.set v.toNat key).length = H.room := by rw [List.length_set]; exact h.lx
  refine { most := hw.most, room := hw.room, fit := hw.fit, free := hw.free, dead := hw.dead, li := hw.li, lx := hl, la := hw.la, nodup := hw.nodup, live := hw.live, back := ?_, yes := ?_, no := hw.no, count := hw.count }
  · intro i hi
    obtain ⟨u, b1, b2, b3, b4⟩ := hw.back i hi
    refine ⟨u, ?_, b2, b3, b4⟩
    unfold setKey
    by_cases e : i = n
    · rw [if_pos e, ← b1, e, hv]
    · rw [if_neg e]; exact b1
  · intro u hu hb
    obtain ⟨i, b1, b2, b3, b4⟩ := hw.yes u hu hb
    refine ⟨i, b1, b2, ?_, ?_⟩
    · unfold setKey
      by_cases e : i = n
      · rw [if_pos e, ← b3, e, hv]
      · rw [if_neg e]; exact b3
    · unfold setKey
      by_cases e : i = n
      · have hu2 : u = v.toNat := by rw [e, hv] at b3; omega
        rw [if_pos e, getD_set, if_pos ⟨hu2, by rw [h.lx]; omega⟩]
      · have hu2 : u ≠ v.toNat := by
          rintro rfl
          obtain ⟨u2, c1, c2, c3, c4⟩ := hw.back n hn
          have : (u2 : Int) = v := by rw [← c1, hv]
          have : u2 = v.toNat := by omega
          subst this
          rw [b2] at c4
          exact e (Int.ofNat_inj.1 c4)
        rw [if_neg e, getD_set, if_neg (fun hh => hu2 hh.1)]
        exact b4
def raiseR (I : List Bool) (X : List Int) (v key : Int) : Bool := inR I v && !decide (key < X.getD v.toNat 0)
theorem Rep.live {A : Ar Nd} {K : Kv} {t : Bt} {q p : Int} (h : Rep A K q p t) {n : Nat} (hn : n ∈ t.ids) : ∃ x, A.get (n : Int) = some x ∧ x.v = (K n).1 ∧ x.key = (K n).2 := by
  obtain ⟨x, h1, h2, h3, _⟩ := h.mem hn
  exact ⟨x, h1, h2, h3⟩
theorem le_up {K : Kv} {n j : Nat} {v key : Int} (h : Le K n j) (hv : (K n).1 = v) (hk : (K n).2 ≤ key) (hj : j ≠ n) : Le (setKey K n v key) n j := by
  unfold Le setKey at *
  rw [if_neg hj, if_pos rfl]
  rw [aheadK_false] at h ⊢
  simp only
  omega
theorem ord_away {K : Kv} {n : Nat} {v key : Int} {t : Bt} (h : Ord K t) (hn : n ∉ t.ids) : Ord (setKey K n v key) t := h.congr (fun i hi => by unfold setKey; rw [if_neg]; rintro rfl; exact hn hi)
theorem raise_ok {H : Hp} {I : List Bool} {X : List Int} (h : Ok H I X) (v key : Int) :
    ∃ H', raiseT H v key = some (H', raiseR I X v key) ∧ Ok H' I (if raiseR I X v key then X.set v.toNat key else X) ∧ H.links ≤ H'.links ∧ H'.links ≤ H.links + 1 ∧ H'.room = H.room := by
  obtain ⟨t, K, rt, hr, ho, hw⟩ := h.out
  rcases hw.place v with ⟨e1, e2⟩ | ⟨e1, hv0, hv1, hI, n, hn, e2, e3, e4⟩
  · have e : raiseR I X v key = false := by unfold raiseR; rw [e1]; rfl
    rw [e]
    refine ⟨H, ?_, h, by omega, by omega, rfl⟩
    unfold raiseT
    rw [if_pos e2]
  obtain ⟨x, hx, xv, xk⟩ := hr.live hn
  by_cases hk : key < X.getD v.toNat 0
  · have e : raiseR I X v key = false := by unfold raiseR; rw [decide_eq_true hk]; simp
    rw [e]
    refine ⟨H, ?_, h, by omega, by omega, rfl⟩
    unfold raiseT
    rw [e2, if_neg (by omega), hx, Option.bind_some, if_pos (by rw [xk, e4]; exact hk)]
  have e : raiseR I X v key = true := by unfold raiseR; rw [decide_eq_false hk, e1]; rfl
  rw [e, if_pos rfl]
  have xv' : x.v = v := by rw [xv, e3]
  have hkey : (K n).2 ≤ key := by rw [e4]; omega
  have hr2 : Rep (H.put n { x with key := key }).A (setKey K n v key) (-1) H.root t := hr.rekey hx xv'
  have hw2 := hw.rekey (key := key) hx hn e3 hv0 hv1
  unfold raiseT
  rw [e2, if_neg (by omega), hx, Option.bind_some, if_neg (by rw [xk, e4]; exact hk)]
  have nd := hw.nodup
  cases rt with
  | nil => simp [Bt.ids] at hn
  | one r c =>
    have hroot : H.root = (r : Int) := hr.1
    have hrc : r ∉ c.ids := by simp only [Bt.ids, List.append_nil, List.nodup_cons] at nd; exact nd.1
    by_cases hnr : n = r
    · subst hnr
      rw [if_pos hroot.symm]
      refine ⟨_, rfl, ⟨_, _, .one n c, hr2, ⟨fun j hj => ?_, ord_away ho.2.1 hrc, trivial⟩, hw2⟩, Int.le_refl _, by show H.links ≤ _; omega, rfl⟩
      exact le_up (ho.1 j hj) e3 hkey (by rintro rfl; exact hrc hj)
    · have hnc : n ∈ c.ids := by
        simp only [Bt.ids, List.append_nil, List.mem_cons] at hn
        rcases hn with h | h
        · exact absurd h hnr
        · exact h
      rw [if_neg (by rw [hroot]; omega)]
      rw [hroot] at hr2
      obtain ⟨H1, f1, f2, f3, f4⟩ := cut_law hr2 nd hnc
      have ndc : c.ids.Nodup := by simp only [Bt.ids, List.append_nil, List.nodup_cons] at nd; exact nd.2
      have hp : ((Bt.node r (cutN n c) .nil).ids ++ (Bt.node n (kidsN n c) .nil).ids).Perm (Bt.node r c .nil).ids := by
        simp only [Bt.ids, List.append_nil, List.cons_append]
        exact List.Perm.cons r (cut_ids ndc hnc)
      have hcs := cut_same f1
      have hroot1 : H1.root = (r : Int) := by rw [hcs.root]; exact hroot
      obtain ⟨H2, r2, g1, g2, g3⟩ := link_law (.one r (cutN n c)) (.one n (kidsN n c)) f2 f3 (hp.nodup_iff.2 nd)
      have hls := link_same g1
      have hF := f4.trans (g3.mono (fun i hi => hp.mem_iff.1 hi))
      have own := hw2.fr hF (hls.room.trans hcs.room) (hls.at_.trans hcs.at_) (hp.symm.trans (melt_ids (K := setKey K n v key) (.one r (cutN n c)) (.one n (kidsN n c))).symm)
      have hpn := (hp.nodup_iff.2 nd)
      simp only [Bt.ids, List.append_nil, List.cons_append, List.nodup_cons, List.nodup_append, List.mem_append, List.mem_cons, not_or] at hpn
      obtain ⟨hpr, hp1, ⟨hp2, hp3⟩, hp4⟩ := hpn
      have hncut : n ∉ (cutN n c).ids := fun hh => hp4 n hh n (.inl rfl) rfl
      obtain ⟨ko, kl⟩ := kidsN_ord ho.2.1 hnc
      have lo1 := hcs.lo
      have hi1 := hcs.hi
      have lo2 := hls.lo
      have hi2 := hls.hi
      have hpl : (H.put n { x with key := key }).links = H.links := rfl
      refine ⟨{ H2 with root := r2 }, ?_, ⟨_, _, melt_root (.one r (cutN n c)) (.one n (kidsN n c)), g2, melt_ord (.one r (cutN n c)) (.one n (kidsN n c)) ?_ ?_, own.root r2⟩, ?_, ?_, hls.room.trans hcs.room⟩
      · rw [f1, Option.bind_some, hroot1, g1]
        rfl
      · refine ⟨fun j hj => ?_, ord_away (cutN_ord ho.2.1) hncut, trivial⟩
        have := ho.1 j (cutN_sub j hj)
        unfold Le setKey at *
        rw [if_neg (show ¬ j = n by rintro rfl; exact hncut hj), if_neg (fun e => hnr e.symm)]
        exact this
      · exact ⟨fun j hj => le_up (kl j hj) e3 hkey (by rintro rfl; exact hp2 hj), ord_away ko hp2, trivial⟩
      · show H.links ≤ H2.links; omega
      · show H2.links ≤ H.links + 1; omega
end Hp
end Go.Proofs.Ytmkbinbggiocaaa

set_option linter.unusedVariables false
set_option linter.unusedSimpArgs false
namespace Go.Proofs.Ytmkbinbggiocaaa
open Arena
namespace Hp
theorem part_law {H : Hp} {K : Kv} {t : Bt} {n : Nat} (rt : Root t) (hr : Rep H.A K (-1) H.root t) (ho : Ord K t) (nd : t.ids.Nodup) (hle : t.ids.length ≤ 4096) (hn : n ∈ t.ids) :
    ∃ (H1 : Hp) (t' : Bt), partT 4096 H n = some H1 ∧ Root t' ∧ Rep H1.A K (-1) H1.root t' ∧ Ord K t' ∧ (n :: t'.ids).Perm t.ids ∧ Fr H.A H1.A t.ids := by
  cases rt with
  | nil => simp [Bt.ids] at hn
  | one r c =>
    have hroot : H.root = (r : Int) := hr.1
    have ndc : c.ids.Nodup := by simp only [Bt.ids, List.append_nil, List.nodup_cons] at nd; exact nd.2
    have hlc : c.ids.length ≤ 4096 := by simp only [Bt.ids, List.append_nil, List.length_cons] at hle; omega
    unfold partT
    by_cases hnr : n = r
    · subst hnr
      rw [if_pos hroot.symm]
      obtain ⟨_, x, hx, v1, k1, p1, c1, n1⟩ := hr
      obtain ⟨H1, r1, e1, e2, e3, e4, e5⟩ := pair_law (fuel := 4096) c1 ndc hlc
      refine ⟨{ H1 with root := r1 }, pairM K c, by rw [hx, Option.bind_some, e1]; rfl, e3, e2, pairM_ord ho.2.1, ?_, e5.mono (fun i hi => by simp [Bt.ids, hi])⟩
      simp only [Bt.ids, List.append_nil]
      exact List.Perm.cons n e4
    · have hnc : n ∈ c.ids := by
        simp only [Bt.ids, List.append_nil, List.mem_cons] at hn
        rcases hn with h | h
        · exact absurd h hnr
        · exact h
      rw [if_neg (by rw [hroot]; omega)]
      have hr' := hr
      rw [hroot] at hr'
      obtain ⟨H0, f1, f2, f3, f4⟩ := cut_law hr' nd hnc
      have hp : ((Bt.node r (cutN n c) .nil).ids ++ (Bt.node n (kidsN n c) .nil).ids).Perm (Bt.node r c .nil).ids := by
        simp only [Bt.ids, List.append_nil, List.cons_append]
        exact List.Perm.cons r (cut_ids ndc hnc)
      have hpn := (hp.nodup_iff.2 nd)
      have hpn' := hpn
      simp only [Bt.ids, List.append_nil, List.cons_append, List.nodup_cons, List.nodup_append, List.mem_append, List.mem_cons, not_or] at hpn
      obtain ⟨hpr, hp1, ⟨hp2, hp3⟩, hp4⟩ := hpn
      obtain ⟨_, x, hx, v1, k1, p1, c1, n1⟩ := f3
      have hlk : (kidsN n c).ids.length ≤ 4096 := by
        have := hp.length_eq
        simp only [Bt.ids, List.append_nil, List.length_append, List.length_cons] at this hle
        omega
      obtain ⟨H1, r1, e1, e2, e3, e4, e5⟩ := pair_law (fuel := 4096) c1 hp3 hlk
      have f2' : Rep H1.A K (-1) r (.node r (cutN n c) .nil) := f2.congr (fun i hi => e5.same i (fun hk => by
        simp only [Bt.ids, List.append_nil, List.mem_cons] at hi
        rcases hi with rfl | hi
        · exact hpr.2.2 hk
        · exact hp4 i hi i (.inr hk) rfl))
      have hp5 : (n :: ((Bt.node r (cutN n c) .nil).ids ++ (pairM K (kidsN n c)).ids)).Perm (Bt.node r c .nil).ids := by
        refine List.Perm.trans ?_ hp
        refine List.perm_middle.symm.trans (List.Perm.append_left _ ?_)
        simp only [Bt.ids, List.append_nil]
        exact List.Perm.cons n e4
      have nd2 : ((Bt.node r (cutN n c) .nil).ids ++ (pairM K (kidsN n c)).ids).Nodup := by
        have := hp5.nodup_iff.2 nd
        exact (List.nodup_cons.1 this).2
      obtain ⟨H2, r2, g1, g2, g3⟩ := link_law (.one r (cutN n c)) e3 f2' e2 nd2
      obtain ⟨ko, kl⟩ := kidsN_ord ho.2.1 hnc
      refine ⟨{ H2 with root := r2 }, _, by rw [f1, Option.bind_some, hx, Option.bind_some, e1, Option.bind_some, hroot, g1]; rfl, melt_root (.one r (cutN n c)) e3, g2, melt_ord (.one r (cutN n c)) e3 ⟨fun j hj => ho.1 j (cutN_sub j hj), cutN_ord ho.2.1, trivial⟩ (pairM_ord ko), ?_, ?_⟩
      · exact (List.Perm.cons n (melt_ids (.one r (cutN n c)) e3)).trans hp5
      · refine (f4.trans (e5.mono (fun i hi => hp.mem_iff.1 ?_))).trans (g3.mono (fun i hi => hp5.mem_iff.1 (by simp only [List.mem_cons]; exact .inr hi)))
        simp only [List.mem_append, Bt.ids, List.append_nil, List.mem_cons]
        exact .inr (.inr hi)
theorem out_own {H : Hp} {K : Kv} {L : List Nat} {I : List Bool} {X : List Int} {n : Nat} {v : Int} (h : Own H K (n :: L) I X) (hv : (K n).1 = v) (hv0 : 0 ≤ v) (hv1 : v < H.room) (hI : I.getD v.toNat false = true) (hat : H.at_.getD v.toNat (-1) = (n : Int)) :
    Own (outT H v n) K L (I.set v.toNat false) (X.set v.toNat 0) := by
  have hvn : v.toNat < H.room := by omega
  have hlive := (h.live n).2 (by simp)
  have hlt : n < H.A.cells.length := by
    rw [get_nat] at hlive
    rcases Nat.lt_or_ge n H.A.cells.length with h3 | h3
    · exact h3
    · rw [List.getElem?_eq_none h3] at hlive; cases hlive
  have hnf : n ∉ H.A.free := fun hh => by rw [(h.dead n).1 hh |>.2] at hlive; cases hlive
  have hnL := (List.nodup_cons.1 h.nodup).1
  have eA : (outT H v n).A = ⟨H.A.room, H.A.cells.set n none, n :: H.A.free⟩ := by
    show H.A.drop ((n : Int)).toNat = _
    rw [Int.toNat_natCast]
    rfl
  have g := fun m => get_set (A := H.A) hlt none (n :: H.A.free) m
  have ne : ∀ i ∈ L, i ≠ n := fun i hi e => hnL (e ▸ hi)
  have other : ∀ i ∈ L, ∀ u : Nat, H.at_.getD u (-1) = (i : Int) → u ≠ v.toNat := by
    rintro i hi u hu rfl
    rw [hat] at hu
    exact ne i hi (Int.ofNat_inj.1 hu.symm)
  have eat : ∀ u : Nat, (outT H v n).at_.getD u (-1) = if u = v.toNat ∧ v.toNat < H.at_.length then -1 else H.at_.getD u (-1) := fun u => getD_set _ _ _ _ _
  refine { most := h.most, room := by rw [eA]; exact h.room, fit := by rw [eA]; show (H.A.cells.set n none).length ≤ H.room; rw [List.length_set]; exact h.fit, free := by rw [eA]; exact List.nodup_cons.2 ⟨hnf, h.free⟩, dead := fun i => ?_, li := by rw [List.length_set]; exact h.li, lx := by rw [List.length_set]; exact h.lx, la := by show (H.at_.set _ _).length = _; rw [List.length_set]; exact h.la, nodup := (List.nodup_cons.1 h.nodup).2, live := fun i => ?_, back := fun i hi => ?_, yes := fun u hu hb => ?_, no := fun u hu hb => ?_, count := ?_ }
  · rw [eA, g]
    simp only [List.length_set, List.mem_cons]
    by_cases e : i = n
    · subst e
      simp [hlt]
    · rw [if_neg e, h.dead i]
      simp [e]
  · rw [eA, g]
    by_cases e : i = n
    · subst e
      simp [hnL]
    · rw [if_neg e, h.live i]
      simp [e]
  · obtain ⟨u, b1, b2, b3, b4⟩ := h.back i (by simp [hi])
    have hu := other i hi u b4
    exact ⟨u, b1, b2, by rw [getD_set, if_neg (fun hh => hu hh.1)]; exact b3, by rw [eat, if_neg (fun hh => hu hh.1)]; exact b4⟩
  · replace hu : u < H.room := hu
    by_cases e : u = v.toNat
    · rw [getD_set, if_pos ⟨e, by rw [h.li]; exact hvn⟩] at hb
      cases hb
    · rw [getD_set, if_neg (fun hh => e hh.1)] at hb
      obtain ⟨i, b1, b2, b3, b4⟩ := h.yes u hu hb
      have hin : i ≠ n := by
        rintro rfl
        rw [hv] at b3
        omega
      refine ⟨i, ?_, by rw [eat, if_neg (fun hh => e hh.1)]; exact b2, b3, by rw [getD_set, if_neg (fun hh => e hh.1)]; exact b4⟩
      rcases List.mem_cons.1 b1 with h | h
      · exact absurd h hin
      · exact h
  · replace hu : u < H.room := hu
    rw [eat]
    by_cases e : u = v.toNat
    · rw [if_pos ⟨e, by rw [h.la]; exact hvn⟩]
    · rw [getD_set, if_neg (fun hh => e hh.1)] at hb
      rw [if_neg (fun hh => e hh.1)]
      exact h.no u hu hb
  · rw [eA]
    have hc := h.count
    have := countP_set (l := I) (v := v.toNat) (by rw [h.li]; exact hvn) false
    rw [hI] at this
    simp at this ⊢
    omega
theorem drop_ok {H : Hp} {I : List Bool} {X : List Int} (h : Ok H I X) (v : Int) :
    ∃ H', dropT 4096 H v = some (H', inR I v) ∧ Ok H' (if inR I v then I.set v.toNat false else I) (if inR I v then X.set v.toNat 0 else X) ∧ H.links ≤ H'.links ∧ H'.links ≤ H.links + 8193 ∧ H'.room = H.room := by
  obtain ⟨t, K, rt, hr, ho, hw⟩ := h.out
  rcases hw.place v with ⟨e1, e2⟩ | ⟨e1, hv0, hv1, hI, n, hn, e2, e3, e4⟩
  · rw [e1]
    refine ⟨H, ?_, h, by omega, by omega, rfl⟩
    unfold dropT
    rw [if_pos e2]
  rw [e1, if_pos rfl, if_pos rfl]
  obtain ⟨H1, t', f1, f2, f3, f4, f5, f6⟩ := part_law rt hr ho hw.nodup hw.le hn
  obtain ⟨s1, s2, s3, s4⟩ := part_same f1
  have hw1 := hw.fr f6 s1 s2 f5.symm
  have hlive := (hw1.live n).2 (by simp)
  obtain ⟨x, hx⟩ := Option.isSome_iff_exists.1 hlive
  have hat : H1.at_.getD v.toNat (-1) = (n : Int) := by
    rw [s2, ← e2]
    unfold placeT
    rw [if_pos ⟨hv0, hv1⟩]
  have own := out_own hw1 e3 hv0 (by rw [s1]; exact hv1) hI hat
  have hlt : n < H1.A.cells.length := by
    rw [get_nat] at hlive
    rcases Nat.lt_or_ge n H1.A.cells.length with h3 | h3
    · exact h3
    · rw [List.getElem?_eq_none h3] at hlive; cases hlive
  have hnt : n ∉ t'.ids := (List.nodup_cons.1 (hw1.nodup)).1
  have f3' : Rep (outT H1 v n).A K (-1) (outT H1 v n).root t' := by
    have eA : (outT H1 v n).A = ⟨H1.A.room, H1.A.cells.set n none, n :: H1.A.free⟩ := by
      show H1.A.drop ((n : Int)).toNat = _
      rw [Int.toNat_natCast]
      rfl
    rw [eA]
    exact f3.congr (fun i hi => by rw [get_set (A := H1.A) hlt none (n :: H1.A.free) i, if_neg]; rintro rfl; exact hnt hi)
  refine ⟨outT H1 v n, ?_, ⟨t', K, f2, f3', f4, own⟩, s3, ?_, s1⟩
  · unfold dropT
    rw [e2, if_neg (by omega), f1, Option.bind_some, hx]
    rfl
  · show H1.links ≤ _
    omega
end Hp
end Go.Proofs.Ytmkbinbggiocaaa

set_option linter.unusedVariables false
set_option linter.unusedSimpArgs false
namespace Go.Proofs.Ytmkbinbggiocaaa
open Arena
namespace Hp
/-- The one that comes ahead, of the first k vertices. -/
def firstTo (I : List Bool) (X : List Int) : Nat → Option (Nat × Int)
  | 0 => none
  | k + 1 => match firstTo I X k with
    | none => if I.getD k false then some (k, X.getD k 0) else none
    | some (v, x) => if I.getD k false && decide (x < X.getD k 0) then some (k, X.getD k 0) else some (v, x)
def firstR (I : List Bool) (X : List Int) : Option (Nat × Int) := firstTo I X I.length
theorem first_none {I : List Bool} {X : List Int} : ∀ {k : Nat}, firstTo I X k = none → ∀ u < k, I.getD u false = false
  | 0, _, u, hu => by omega
  | k + 1, h, u, hu => by
    unfold firstTo at h
    cases hf : firstTo I X k with
    | none =>
      rw [hf] at h
      simp only at h
      split at h
      · cases h
      · rename_i hb
        by_cases e : u = k
        · subst e; simpa using hb
        · exact first_none hf u (by omega)
    | some p =>
      rw [hf] at h
      simp only at h
      split at h <;> cases h
theorem first_some {I : List Bool} {X : List Int} : ∀ {k v : Nat} {x : Int}, firstTo I X k = some (v, x) → v < k ∧ I.getD v false = true ∧ X.getD v 0 = x ∧ ∀ u < k, I.getD u false = true → aheadK ((u : Int), X.getD u 0) ((v : Int), x) = false
  | 0, v, x, h => by unfold firstTo at h; cases h
  | k + 1, v, x, h => by
    unfold firstTo at h
    cases hf : firstTo I X k with
    | none =>
      rw [hf] at h
      simp only at h
      split at h
      · rename_i hb
        simp only [Option.some.injEq, Prod.mk.injEq] at h
        obtain ⟨rfl, rfl⟩ := h
        refine ⟨by omega, hb, rfl, fun u hu hI => ?_⟩
        by_cases e : u = k
        · subst e; rw [aheadK_false]; simp
        · have := first_none hf u (by omega)
          rw [this] at hI
          cases hI
      · cases h
    | some p =>
      obtain ⟨v1, x1⟩ := p
      rw [hf] at h
      simp only at h
      obtain ⟨a1, a2, a3, a4⟩ := first_some hf
      split at h
      · rename_i hb
        simp only [Option.some.injEq, Prod.mk.injEq] at h
        obtain ⟨rfl, rfl⟩ := h
        simp only [Bool.and_eq_true, decide_eq_true_eq] at hb
        refine ⟨by omega, hb.1, rfl, fun u hu hI => ?_⟩
        by_cases e : u = k
        · subst e; rw [aheadK_false]; simp
        · have := a4 u (by omega) hI
          rw [aheadK_false] at this ⊢
          simp only at this ⊢
          omega
      · rename_i hb
        simp only [Option.some.injEq, Prod.mk.injEq] at h
        obtain ⟨rfl, rfl⟩ := h
        refine ⟨by omega, a2, a3, fun u hu hI => ?_⟩
        by_cases e : u = k
        · subst e
          rw [hI, Bool.true_and, decide_eq_true_eq] at hb
          rw [aheadK_false]
          simp only
          omega
        · exact a4 u (by omega) hI
def topV (I : List Bool) (X : List Int) : Int × Int × Bool := match firstR I X with
  | none => (0, 0, false)
  | some (v, x) => ((v : Int), x, true)
theorem top_ok {H : Hp} {I : List Bool} {X : List Int} (h : Ok H I X) : topT H = some (topV I X) := by
  obtain ⟨t, K, rt, hr, ho, hw⟩ := h.out
  unfold topT topV
  cases rt with
  | nil =>
    have hroot : H.root = -1 := hr
    rw [if_pos hroot]
    cases hf : firstR I X with
    | none => rfl
    | some p =>
      obtain ⟨v, x⟩ := p
      obtain ⟨a1, a2, _⟩ := first_some hf
      obtain ⟨i, hi, _⟩ := hw.yes v (by rw [← hw.li]; exact a1) a2
      simp [Bt.ids] at hi
  | one r c =>
    obtain ⟨hroot, x, hx, v1, k1, _⟩ := hr
    rw [if_neg (by omega), hroot, hx]
    obtain ⟨u, b1, b2, b3, b4⟩ := hw.back r (by simp [Bt.ids])
    cases hf : firstR I X with
    | none =>
      have := first_none hf u (by rw [hw.li]; exact b2)
      rw [this] at b3
      cases b3
    | some p =>
      obtain ⟨w, y⟩ := p
      obtain ⟨a1, a2, a3, a4⟩ := first_some hf
      obtain ⟨i, hi, c1, c2, c3⟩ := hw.yes w (by rw [← hw.li]; exact a1) a2
      have hru := hw.yes u b2 b3
      obtain ⟨r', hr', d1, d2, d3⟩ := hru
      have er : r' = r := by rw [b4] at d1; exact (Int.ofNat_inj.1 d1).symm
      subst er
      have l1 : Le K r' i ∨ i = r' := by
        simp only [Bt.ids, List.append_nil, List.mem_cons] at hi
        rcases hi with h | h
        · exact .inr h
        · exact .inl (ho.1 i h)
      have l2 := a4 u (by rw [hw.li]; exact b2) b3
      have e : (u : Int) = (w : Int) ∧ (K r').2 = y := by
        rcases l1 with l1 | rfl
        · unfold Le at l1
          rw [aheadK_false] at l1 l2
          simp only at l2
          rw [b1] at l1
          omega
        · omega
      show some (x.v, x.key, true) = some ((w : Int), y, true)
      rw [v1, k1, b1, e.1, e.2]
def popI (I : List Bool) (X : List Int) : List Bool := match firstR I X with
  | none => I
  | some (v, x) => I.set v false
def popX (I : List Bool) (X : List Int) : List Int := match firstR I X with
  | none => X
  | some (v, x) => X.set v 0
theorem pop_ok {H : Hp} {I : List Bool} {X : List Int} (h : Ok H I X) :
    ∃ H', popT 4096 H = some (H', topV I X) ∧ Ok H' (popI I X) (popX I X) ∧ H.links ≤ H'.links ∧ H'.links ≤ H.links + 8193 ∧ H'.room = H.room := by
  have ht := top_ok h
  unfold popT popI popX
  rw [ht, Option.bind_some]
  unfold topV
  cases hf : firstR I X with
  | none => exact ⟨H, rfl, h, by omega, by omega, rfl⟩
  | some p =>
    obtain ⟨v, x⟩ := p
    obtain ⟨a1, a2, a3, a4⟩ := first_some hf
    obtain ⟨H', e1, e2, e3, e4, e5⟩ := drop_ok h v
    have hin : inR I v = true := by unfold inR; rw [Int.toNat_natCast, a2, decide_eq_true (by omega)]; rfl
    rw [hin, if_pos rfl, if_pos rfl, Int.toNat_natCast] at e2
    exact ⟨H', by simp only [if_true]; rw [e1]; rfl, e2, e3, e4, e5⟩
theorem new_ok (r : Nat) (hr : r ≤ 4096) : Ok (newH r) (List.replicate r false) (List.replicate r 0) := by
  refine ⟨.nil, fun _ => (0, 0), .nil, rfl, trivial, { most := hr, room := rfl, fit := by simp [newH], free := by simp [newH], dead := fun i => by simp [newH], li := by simp [newH], lx := by simp [newH], la := by simp [newH], nodup := by simp [Bt.ids], live := fun i => by simp [Bt.ids, newH, Ar.get], back := fun i hi => by simp [Bt.ids] at hi, yes := fun v hv hI => ?_, no := fun v hv hI => ?_, count := ?_ }⟩
  · replace hv : v < r := hv
    simp [List.getD_eq_getElem?_getD, List.getElem?_replicate, hv] at hI
  · replace hv : v < r := hv
    simp [newH, List.getD_eq_getElem?_getD, List.getElem?_replicate, hv]
  · simp [newH, List.countP_replicate]
theorem key_ok {H : Hp} {I : List Bool} {X : List Int} (h : Ok H I X) (v : Int) : keyT H v = some (if inR I v then X.getD v.toNat 0 else 0, inR I v) := by
  obtain ⟨t, K, rt, hr, ho, hw⟩ := h.out
  unfold keyT
  rcases hw.place v with ⟨e1, e2⟩ | ⟨e1, hv0, hv1, hI, n, hn, e2, e3, e4⟩
  · rw [if_pos e2, e1]; rfl
  · obtain ⟨x, hx, xv, xk⟩ := hr.live hn
    rw [e2, if_neg (by omega), hx, e1, if_pos rfl]
    show some (x.key, true) = _
    rw [xk, e4]
theorem len_ok {H : Hp} {I : List Bool} {X : List Int} (h : Ok H I X) : H.A.count = I.countP id := by
  obtain ⟨t, K, rt, hr, ho, hw⟩ := h.out
  have := hw.count
  unfold Ar.count
  omega
theorem Ok.len {H : Hp} {I : List Bool} {X : List Int} (h : Ok H I X) : I.length = H.room ∧ X.length = H.room ∧ H.room ≤ 4096 := by
  obtain ⟨t, K, rt, hr, ho, hw⟩ := h.out
  exact ⟨hw.li, hw.lx, hw.most⟩
end Hp
end Go.Proofs.Ytmkbinbggiocaaa
