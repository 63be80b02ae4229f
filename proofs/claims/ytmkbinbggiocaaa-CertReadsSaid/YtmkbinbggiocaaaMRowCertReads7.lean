/- Certificates that are being read: the box of four rows that grow. Certificates that are being read: how each part of a vertex is read. Certificates that are being read: the sets and the flows of a vertex. Certificates that are being read: the flows of a vertex. Certificates that are being read: all vertices. Certificates: Decode of the program. Certificates: the program is awake. A certificate as an argument. -/
import Derived.Deep.RegionLaw
import Derived.Test.YtmkbinbggiocaaaMRowCertReads6
import Derived.Test.YtmkbinbggiocaaaMRowCertReads0
set_option linter.unusedVariables false
set_option linter.unusedSimpArgs false
namespace Go.Proofs.Ytmkbinbggiocaaa
open Go.RowKit
namespace Code.Cert
def tyI : Nat → TypeId
  | 0 => 3
  | 1 => 2
  | 2 => 36
  | _ => 46
def upd {α : Type} (f : Nat → α) (i : Nat) (x : α) : Nat → α := fun j => if j = i then x else f j
/-- The block that a slice reads, if it has an element. -/
def live (x : Value) (g : Nat) : Prop := ∃ a n c, x = .slice (some a) n c ∧ 0 < n ∧ a.block = g
theorem rd_keep_live {F : List Nat} {w w' : World} {x : Value} {l : List Int} (h : Rd w 1 x l.length (vi64 l)) (m : Mod F w w') (hl : ∀ g, live x g → g ∉ F) : Rd w' 1 x l.length (vi64 l) := by
  by_cases h0 : l = []
  · subst h0
    refine ⟨h.1, ?_⟩
    rcases h.2 with h2 | ⟨ad, c, h2, h3, h4, _⟩
    · exact .inl h2
    · exact .inr ⟨ad, c, h2, h3, h4, fun j u hu => by simp [vi64] at hu⟩
  · refine h.keep m fun g hg => hl g ?_
    obtain ⟨a, c, rfl⟩ := h.val
    cases a with
    | none => simp [Value.ownBlock] at hg
    | some ad => exact ⟨ad, _, _, rfl, List.length_pos_iff.2 h0, by simpa [Value.ownBlock] using hg⟩
/-- Block B holds four rows of the call's own; none of them lies in R; the slices that are elements lie elsewhere. -/
structure BxT (T : TypeId) (w : World) (B : Nat) (R : List Nat) (vs : Nat → Value) (rows : Nat → List Value) : Prop where
  has : Has w B [vs 0, vs 1, vs 2, vs 3] T
  own : ∀ i, i < 4 → w.ownsRow 0 (tyI i) 1 (vs i) (rows i).length (rows i)
  dist : ∀ i j g, i < 4 → j < 4 → (vs i).ownBlock = some g → (vs j).ownBlock = some g → i = j
  res : ∀ i g, i < 4 → (vs i).ownBlock = some g → g ∉ R
  el : ∀ i x, i < 4 → x ∈ rows i → ∀ g, live x g → g < w.heap.size ∧ g ∉ R ∧ ∀ j, j < 4 → (vs j).ownBlock ≠ some g
  lt : ∀ b ∈ R, b < w.heap.size
  memB : B ∈ R
abbrev Bx := BxT 128
theorem BxT.keep {T : TypeId} {F : List Nat} {w w' : World} {B : Nat} {R : List Nat} {vs : Nat → Value} {rows : Nat → List Value} (h : BxT T w B R vs rows) (m : Mod F w w') (hF : ∀ b ∈ F, b < w.heap.size → b ∈ R ∧ b ≠ B) : BxT T w' B R vs rows := by
  have hs := m.size
  refine ⟨h.has.keep m (fun hb => (hF B hb (h.lt B h.memB)).2 rfl), fun i hi => own_keep (h.own i hi) m (fun g hg hm => h.res i g hi hg (hF g hm (own_lt (h.own i hi) hg)).1), h.dist, h.res, fun i x hi hx g hg => ?_, fun b hb => Nat.lt_of_lt_of_le (h.lt b hb) hs, h.memB⟩
  obtain ⟨h1, h2, h3⟩ := h.el i x hi hx g hg
  exact ⟨Nat.lt_of_lt_of_le h1 hs, h2, h3⟩
/-- What the elements are. -/
structure Cn (w : World) (rows : Nat → List Value) (c : CertV) : Prop where
  up : rows 0 = vi64 c.up
  ws : rows 1 = vi64 c.ws
  sl : (rows 2).length = c.sides.length
  fl : (rows 3).length = c.flows.length
  sides : ∀ (i : Nat) (x : Value) (l : List Int), (rows 2)[i]? = some x → c.sides[i]? = some l → Rd w 1 x l.length (vi64 l)
  flows : ∀ (i : Nat) (x : Value) (l : List Int), (rows 3)[i]? = some x → c.flows[i]? = some l → Rd w 1 x l.length (vi64 l)
theorem Cn.keep {T : TypeId} {F : List Nat} {w w' : World} {B : Nat} {R : List Nat} {vs : Nat → Value} {rows : Nat → List Value} {c : CertV} (h : BxT T w B R vs rows) (k : Cn w rows c) (m : Mod F w w') (hF : ∀ b ∈ F, b < w.heap.size → b ∈ R ∨ ∃ j, j < 4 ∧ (vs j).ownBlock = some b) : Cn w' rows c := by
  have go : ∀ i, i < 4 → ∀ (x : Value) (l : List Int), x ∈ rows i → Rd w 1 x l.length (vi64 l) → Rd w' 1 x l.length (vi64 l) := fun i hi x l hx hr => rd_keep_live hr m fun g hg hm => by
    obtain ⟨h1, h2, h3⟩ := h.el i x hi hx g hg
    rcases hF g hm h1 with hb | ⟨j, hj, hb⟩
    · exact h2 hb
    · exact h3 j hj hb
  exact ⟨k.up, k.ws, k.sl, k.fl, fun i x l hx hl => go 2 (by omega) x l (List.mem_of_getElem? hx) (k.sides i x l hx hl), fun i x l hx hl => go 3 (by omega) x l (List.mem_of_getElem? hx) (k.flows i x l hx hl)⟩
/-- One element more in row i: the append, and the store into the box. -/
theorem BxT.push {T : TypeId} {w w1 : World} {B : Nat} {R : List Nat} {vs : Nat → Value} {rows : Nat → List Value} (h : BxT T w B R vs rows) {i : Nat} (hi : i < 4) {x v' : Value} (ho : w1.ownsRow 0 (tyI i) 1 v' ((rows i).length + 1) (rows i ++ [x])) (m : Mod (vs i).ownBlock.toList w w1)
    (hn : v'.ownBlock = (vs i).ownBlock ∨ ∃ b, v'.ownBlock = some b ∧ w.heap.size ≤ b) (hx : ∀ g, live x g → g < w.heap.size ∧ g ∉ R ∧ ∀ j, j < 4 → (vs j).ownBlock ≠ some g) :
    BxT T (w1.setCell ⟨B, i, none⟩ v') B R (upd vs i v') (upd rows i (rows i ++ [x])) := by
  have hs := m.size
  have hBR := h.lt B h.memB
  have hBi : B ∉ (vs i).ownBlock.toList := fun hb => h.res i B hi (by simpa using hb) h.memB
  have hh := (h.has.keep m hBi).set i v'
  have hvB : ∀ j, j < 4 → (upd vs i v' j).ownBlock ≠ some B := fun j hj e => by
    unfold upd at e
    split at e
    · rcases hn with h1 | ⟨b, h1, h2⟩
      · rw [h1] at e; exact h.res i B hi e h.memB
      · rw [h1] at e; simp only [Option.some.injEq] at e; omega
    · exact h.res j B hj e h.memB
  have hnew : ∀ g, v'.ownBlock = some g → (vs i).ownBlock = some g ∨ w.heap.size ≤ g := fun g hg => by
    rcases hn with h1 | ⟨b, h1, h2⟩
    · exact .inl (h1 ▸ hg)
    · rw [h1] at hg; simp only [Option.some.injEq] at hg; exact .inr (hg ▸ h2)
  have hold : ∀ j g, j < 4 → (vs j).ownBlock = some g → g < w.heap.size := fun j g hj hg => own_lt (h.own j hj) hg
  refine ⟨?_, fun j hj => ?_, fun a b g ha hb h1 h2 => ?_, fun j g hj hg => ?_, fun j y hj hy g hg => ?_, fun b hb => ?_, h.memB⟩
  · have e : [vs 0, vs 1, vs 2, vs 3].set i v' = [upd vs i v' 0, upd vs i v' 1, upd vs i v' 2, upd vs i v' 3] := by
      rcases i with _ | _ | _ | _ | i
      · rfl
      · rfl
      · rfl
      · rfl
      · omega
    rw [← e]; exact hh
  · refine own_other ?_ _ _ (hvB j hj)
    unfold upd
    by_cases e : j = i
    · subst e
      simp only [if_true]
      rw [List.length_append, List.length_singleton]; exact ho
    · simp only [if_neg e]
      exact own_keep (h.own j hj) m fun g hg hm => e (h.dist j i g hj hi hg (by simpa using hm))
  · unfold upd at h1 h2
    split at h1 <;> split at h2
    · omega
    · rename_i e1 e2
      rcases hnew g h1 with h3 | h3
      · exact absurd (h.dist b i g hb hi h2 h3) e2
      · have := hold b g hb h2; omega
    · rename_i e1 e2
      rcases hnew g h2 with h3 | h3
      · exact absurd (h.dist a i g ha hi h1 h3) e1
      · have := hold a g ha h1; omega
    · exact h.dist a b g ha hb h1 h2
  · unfold upd at hg
    split at hg
    · rcases hnew g hg with h3 | h3
      · exact h.res i g hi h3
      · intro hR; have := h.lt g hR; omega
    · exact h.res j g hj hg
  · have hcase : g < w.heap.size ∧ g ∉ R ∧ ∀ j, j < 4 → (vs j).ownBlock ≠ some g := by
      unfold upd at hy
      split at hy
      · rcases List.mem_append.1 hy with h1 | h1
        · exact h.el i y hi h1 g hg
        · rw [List.mem_singleton] at h1
          subst h1
          exact hx g hg
      · exact h.el j y hj hy g hg
    refine ⟨?_, hcase.2.1, fun k hk e => ?_⟩
    · have : (w1.setCell ⟨B, i, none⟩ v').heap.size = w1.heap.size := by simp [World.setCell]
      omega
    · unfold upd at e
      split at e
      · rcases hnew g e with h3 | h3
        · exact hcase.2.2 i hi h3
        · omega
      · exact hcase.2.2 k hk e
  · have : (w1.setCell ⟨B, i, none⟩ v').heap.size = w1.heap.size := by simp [World.setCell]
    have := h.lt b hb
    omega
theorem Cn.at2 {T : TypeId} {w w1 : World} {B i : Nat} {R : List Nat} {vs : Nat → Value} {rows : Nat → List Value} {c : CertV} {v' : Value} (h : BxT T w B R vs rows) (k : Cn w rows c) (hi : i < 4) (m : Mod (vs i).ownBlock.toList w w1) : Cn (w1.setCell ⟨B, i, none⟩ v') rows c := by
  refine Cn.keep h k (F := B :: (vs i).ownBlock.toList) ((m.mono (fun b hb => by simp [hb])).setCell _ _ (fun _ => by simp)) (fun b hb _ => ?_)
  rcases List.mem_cons.1 hb with rfl | hb
  · exact .inl h.memB
  · exact .inr ⟨i, hi, by simpa using hb⟩
theorem Cn.push0 {w : World} {rows : Nat → List Value} {c : CertV} (k : Cn w rows c) (x : Int) : Cn w (upd rows 0 (rows 0 ++ [.int .i64 x])) { c with up := c.up ++ [x] } :=
  ⟨by simp [upd, k.up, vi64], by simp [upd, k.ws], by simp [upd, k.sl], by simp [upd, k.fl], by simpa [upd] using k.sides, by simpa [upd] using k.flows⟩
theorem Cn.push1 {w : World} {rows : Nat → List Value} {c : CertV} (k : Cn w rows c) (x : Int) : Cn w (upd rows 1 (rows 1 ++ [.int .i64 x])) { c with ws := c.ws ++ [x] } :=
  ⟨by simp [upd, k.up], by simp [upd, k.ws, vi64], by simp [upd, k.sl], by simp [upd, k.fl], by simpa [upd] using k.sides, by simpa [upd] using k.flows⟩
theorem snoc_get {α β : Type} {P : α → β → Prop} {xs : List α} {ls : List β} {x : α} {l : β} (hl : xs.length = ls.length) (h : ∀ (i : Nat) (y : α) (m : β), xs[i]? = some y → ls[i]? = some m → P y m) (hx : P x l) :
    ∀ (i : Nat) (y : α) (m : β), (xs ++ [x])[i]? = some y → (ls ++ [l])[i]? = some m → P y m := by
  intro i y m h1 h2
  rcases Nat.lt_trichotomy i xs.length with h3 | h3 | h3
  · rw [List.getElem?_append_left h3] at h1
    rw [List.getElem?_append_left (by omega)] at h2
    exact h i y m h1 h2
  · subst h3
    rw [List.getElem?_concat_length] at h1
    rw [hl, List.getElem?_concat_length] at h2
    simp only [Option.some.injEq] at h1 h2
    subst h1 h2
    exact hx
  · rw [List.getElem?_eq_none (by simp; omega)] at h1
    cases h1
theorem Cn.push2 {w : World} {rows : Nat → List Value} {c : CertV} (k : Cn w rows c) {x : Value} {l : List Int} (hx : Rd w 1 x l.length (vi64 l)) : Cn w (upd rows 2 (rows 2 ++ [x])) { c with sides := c.sides ++ [l] } :=
  ⟨by simp [upd, k.up], by simp [upd, k.ws], by simp [upd, k.sl], by simp [upd, k.fl], by
    have := snoc_get (P := fun (y : Value) (m : List Int) => Rd w 1 y m.length (vi64 m)) k.sl k.sides hx
    simpa [upd] using this, by simpa [upd] using k.flows⟩
theorem Cn.push3 {w : World} {rows : Nat → List Value} {c : CertV} (k : Cn w rows c) {x : Value} {l : List Int} (hx : Rd w 1 x l.length (vi64 l)) : Cn w (upd rows 3 (rows 3 ++ [x])) { c with flows := c.flows ++ [l] } :=
  ⟨by simp [upd, k.up], by simp [upd, k.ws], by simp [upd, k.sl], by simp [upd, k.fl], by simpa [upd] using k.sides, by
    have := snoc_get (P := fun (y : Value) (m : List Int) => Rd w 1 y m.length (vi64 m)) k.fl k.flows hx
    simpa [upd] using this⟩
/-- What is read out of the box is a certificate by value. -/
theorem BxT.rep {T : TypeId} {w : World} {B : Nat} {R : List Nat} {vs : Nat → Value} {rows : Nat → List Value} {c : CertV} (h : BxT T w B R vs rows) (k : Cn w rows c) : CRep w (vs 0) (vs 1) (vs 2) (vs 3) c := by
  have h0 := Rd.own (h.own 0 (by omega))
  have h1 := Rd.own (h.own 1 (by omega))
  have h2 := Rd.own (h.own 2 (by omega))
  have h3 := Rd.own (h.own 3 (by omega))
  rw [k.up, vi64_len] at h0
  rw [k.ws, vi64_len] at h1
  rw [k.sl] at h2
  rw [k.fl] at h3
  exact ⟨h0, h1, ⟨rows 2, k.sl, h2, k.sides⟩, ⟨rows 3, k.fl, h3, k.flows⟩⟩
theorem BxT.vals {T : TypeId} {w : World} {B : Nat} {R : List Nat} {vs : Nat → Value} {rows : Nat → List Value} {c : CertV} (h : BxT T w B R vs rows) (k : Cn w rows c) : ∃ au cu aw cw sa cs af cf, vs 0 = .slice au c.up.length cu ∧ vs 1 = .slice aw c.ws.length cw ∧ vs 2 = .slice sa c.sides.length cs ∧ vs 3 = .slice af c.flows.length cf := (h.rep k).vals
end Code.Cert
end Go.Proofs.Ytmkbinbggiocaaa

set_option linter.unusedVariables false
set_option linter.unusedSimpArgs false
namespace Go.Proofs.Ytmkbinbggiocaaa
open Go.RowKit
namespace Code.Cert
def Rs (B r : Nat) (a : Option Addr) (bs : List Int) (cc : Nat) : List Nat := B :: r :: (Value.slice a bs.length cc).ownBlock.toList
def RsX (X : List (Nat × List Value × TypeId)) (B r : Nat) (a : Option Addr) (bs : List Int) (cc : Nat) : List Nat := B :: r :: ((Value.slice a bs.length cc).ownBlock.toList ++ X.map (·.1))
/-- Blocks beside, that stay as they are. -/
def Kp (w : World) (X : List (Nat × List Value × TypeId)) (L : List Nat) (vs : Nat → Value) : Prop := ∀ x ∈ X, Has w x.1 x.2.1 x.2.2 ∧ x.1 ∉ L ∧ ∀ i, i < 4 → (vs i).ownBlock ≠ some x.1
theorem Kp.keep {F : List Nat} {w w' : World} {X : List (Nat × List Value × TypeId)} {L : List Nat} {vs : Nat → Value} (h : Kp w X L vs) (m : Mod F w w') (hF : ∀ b ∈ F, b < w.heap.size → b ∈ L ∨ ∃ i, i < 4 ∧ (vs i).ownBlock = some b) : Kp w' X L vs := by
  intro x hx
  obtain ⟨h1, h2, h3⟩ := h x hx
  refine ⟨h1.keep m fun hm => ?_, h2, h3⟩
  rcases hF _ hm h1.lt with e | ⟨i, hi, e⟩
  · exact h2 e
  · exact h3 i hi e
def El (w0 : World) (rows : Nat → List Value) : Prop := ∀ i x g, i < 4 → x ∈ rows i → live x g → w0.heap.size ≤ g
/-- A certificate that is being read, and its reader. -/
structure DS (X : List (Nat × List Value × TypeId)) (w0 w : World) (B r : Nat) (a : Option Addr) (cc : Nat) (bs : List Int) (k : Nat) (st : Bool) (c : CertV) : Prop where
  ex : ∃ vs rows, Bx w B (RsX X B r a bs cc) vs rows ∧ Cn w rows c ∧ (∀ i g, i < 4 → (vs i).ownBlock = some g → w0.heap.size ≤ g) ∧ Kp w X (Rs B r a bs cc) vs ∧ El w0 rows
  rt : RAt w r a cc bs k st
  base : Mod [] w0 w
  low : ∀ b ∈ Rs B r a bs cc, w0.heap.size ≤ b
  ne : r ≠ B
  na : ∀ g, (Value.slice a bs.length cc).ownBlock = some g → g ≠ B
theorem DS.still {X : List (Nat × List Value × TypeId)} {w0 w w' : World} {B r cc k : Nat} {a : Option Addr} {bs : List Int} {st : Bool} {c : CertV} (h : DS X w0 w B r a cc bs k st c) (m : Mod [] w w') : DS X w0 w' B r a cc bs k st c := by
  obtain ⟨vs, rows, h1, h2, h3, h4, h5⟩ := h.ex
  exact ⟨⟨vs, rows, h1.keep m (by simp), Cn.keep h1 h2 m (by simp), h3, h4.keep m (by simp), h5⟩, h.rt.still m, h.base.trans m (by simp), h.low, h.ne, h.na⟩
theorem DS.read {X : List (Nat × List Value × TypeId)} {w0 w w' : World} {B r cc k k' : Nat} {a : Option Addr} {bs : List Int} {st st' : Bool} {c : CertV} (h : DS X w0 w B r a cc bs k st c) (m : Mod [r] w w') (hr : RAt w' r a cc bs k' st') : DS X w0 w' B r a cc bs k' st' c := by
  obtain ⟨vs, rows, h1, h2, h3, h4, h5⟩ := h.ex
  have hne := h.ne
  refine ⟨⟨vs, rows, h1.keep m (fun b hb _ => ?_), Cn.keep h1 h2 m (fun b hb _ => ?_), h3, h4.keep m (fun b hb _ => ?_), h5⟩, hr, h.base.trans m (fun b hb hlt => ?_), h.low, h.ne, h.na⟩
  · rw [List.mem_singleton] at hb; subst hb; exact ⟨by simp [Rs, RsX], hne⟩
  · rw [List.mem_singleton] at hb; subst hb; exact .inl (by simp [Rs, RsX])
  · rw [List.mem_singleton] at hb; subst hb; exact .inl (by simp [Rs, RsX])
  · rw [List.mem_singleton] at hb; subst hb
    have := h.low b (by simp [Rs, RsX])
    omega
/-- One element more. -/
theorem DS.push {X : List (Nat × List Value × TypeId)} {w0 w w1 : World} {B r cc k : Nat} {a : Option Addr} {bs : List Int} {st : Bool} {c c' : CertV} (h : DS X w0 w B r a cc bs k st c) {vs : Nat → Value} {rows : Nat → List Value}
    (h1 : Bx w B (RsX X B r a bs cc) vs rows) (h2 : Cn w rows c) (h3 : ∀ i g, i < 4 → (vs i).ownBlock = some g → w0.heap.size ≤ g) (h4 : Kp w X (Rs B r a bs cc) vs) (h5 : El w0 rows) {i : Nat} (hi : i < 4) {x v' : Value}
    (ho : w1.ownsRow 0 (tyI i) 1 v' ((rows i).length + 1) (rows i ++ [x])) (m : Mod (vs i).ownBlock.toList w w1)
    (hn : v'.ownBlock = (vs i).ownBlock ∨ ∃ b, v'.ownBlock = some b ∧ w.heap.size ≤ b) (hx : ∀ g, live x g → g < w.heap.size ∧ g ∉ RsX X B r a bs cc ∧ ∀ j, j < 4 → (vs j).ownBlock ≠ some g)
    (hxl : ∀ g, live x g → w0.heap.size ≤ g) (hc : ∀ w', Cn w' rows c → Mod ((B :: (vs i).ownBlock.toList)) w w' → Cn w' (upd rows i (rows i ++ [x])) c') : DS X w0 (w1.setCell ⟨B, i, none⟩ v') B r a cc bs k st c' := by
  have mm : Mod (B :: (vs i).ownBlock.toList) w (w1.setCell ⟨B, i, none⟩ v') := (m.mono (fun b hb => by simp [hb])).setCell _ _ (fun _ => by simp)
  have hlt0 := h.base.size
  refine ⟨⟨_, _, h1.push hi ho m hn hx, hc _ (Cn.at2 h1 h2 hi m) mm, fun j g hj hg => ?_, fun x hx => ?_, fun j y g hj hy hg => ?_⟩, h.rt.keep mm ?_ ?_, h.base.trans mm (fun b hb hlt => ?_), h.low, h.ne, h.na⟩
  · unfold upd at hg
    split at hg
    · rcases hn with e | ⟨b, e, hb⟩
      · rw [e] at hg; exact h3 i g hi hg
      · rw [e] at hg; simp only [Option.some.injEq] at hg; omega
    · exact h3 j g hj hg
  · obtain ⟨g1, g2, g3⟩ := h4 x hx
    have hl := g1.lt
    refine ⟨g1.keep mm fun hm => ?_, g2, fun j hj e => ?_⟩
    · rcases List.mem_cons.1 hm with e | hm
      · exact g2 (by simp [Rs, RsX, e])
      · exact g3 i hi (by simpa using hm)
    · unfold upd at e
      split at e
      · rcases hn with e2 | ⟨b, e2, hb⟩
        · rw [e2] at e; exact g3 i hi e
        · rw [e2] at e; simp only [Option.some.injEq] at e; omega
      · exact g3 j hj e
  · unfold upd at hy
    split at hy
    · rcases List.mem_append.1 hy with h6 | h6
      · exact h5 i y g hi h6 hg
      · rw [List.mem_singleton] at h6
        subst h6
        exact hxl g hg
    · exact h5 j y g hj hy hg
  · intro hm
    rcases List.mem_cons.1 hm with e | hm
    · exact h.ne e
    · exact h1.res i r hi (by simpa using hm) (by simp [Rs, RsX])
  · intro g hg hm
    rcases List.mem_cons.1 hm with e | hm
    · exact h.na g hg e
    · exact h1.res i g hi (by simpa using hm) (by simp [Rs, RsX, hg])
  · rcases List.mem_cons.1 hb with rfl | hb
    · have := h.low b (by simp [Rs, RsX]); omega
    · have := h3 i b hi (by simpa using hb); omega
def DOut (X : List (Nat × List Value × TypeId)) (w0 : World) (B r : Nat) (a : Option Addr) (cc : Nat) (bs : List Int) (s : Nat × Bool) (c : CertV) (b : Bool) (e : Ending) (w' : World) : Prop := e = .returned (.bool b) ∧ DS X w0 w' B r a cc bs s.1 s.2 c
theorem infoI64 : (Try.prog.info? 2).map (fun i => (i.zero, i.size, i.bytes)) = some (some (.int .i64 0), 1, 8) := by kernel_rfl
def upOf (n : Nat) : Int := (min n 4097 : Nat) - 1
set_option maxRecDepth 100000 in
set_option maxHeartbeats 4000000 in
theorem read1 {X : List (Nat × List Value × TypeId)} {w0 w : World} {B r cc k : Nat} {a : Option Addr} {bs : List Int} {st : Bool} {c : CertV} (h : DS X w0 w B r a cc bs k st c) (hbb : ∀ x ∈ bs, 0 ≤ x ∧ x < 256) (n : Nat) (hn : n ≤ 4096) (hl : c.up.length ≤ 100000) :
    Calls Try.prog 176 #[.pointer (some ⟨r, 0, none⟩), .pointer (some ⟨B, 0, none⟩), .int .i64 n] w (DOut X w0 B r a cc bs (rNat bs k st).2 { c with up := c.up ++ [upOf (rNat bs k st).1] } (decide ((rNat bs k st).1 ≤ n))) := by
  have hcall := Lib.hid (rdNat h.rt hbb)
  have hlt := rNat_lt (k := k) (stop := st) hbb
  have h' := Lib.hid h
  clear h hbb
  go_enter Try.func176, Try.ntmps176
  go_wp2_with fail
  refine hcall.out.mono ?_
  rintro e w1 ⟨rfl, hR, hm⟩
  dsimp only
  have hd := Lib.hid (h'.out.read hm hR)
  clear hR hm hcall h'
  generalize hu : (rNat bs k st).1 = u at *
  have hu' := Lib.hid hu
  clear hu
  obtain ⟨vs, rows, h1, h2, h3, h4, h5⟩ := hd.out.ex
  obtain ⟨au, cu, aw, cw, sa, cs, af, cf, e0, e1, e2, e3⟩ := h1.vals h2
  have d0 := h1.has.cell 0 rfl
  rw [e0] at d0
  have hl0 := h1.has.lt
  have ho := h1.own 0 (by omega)
  rw [e0, h2.up, vi64_len] at ho
  have ho' := Lib.hid ho
  have h1' := Lib.hid h1
  have h2' := Lib.hid h2
  have h3' := Lib.hid h3
  have h4' := Lib.hid h4
  have h5' := Lib.hid h5
  have e0' := Lib.hid e0
  clear h1 h2 h3 h4 h5 ho e0 e1 e2 e3
  have hnb : Hid (∀ b, (Value.slice au c.up.length cu).ownBlock = some b → b ≠ B) := fun b hb e => by
    rw [← e0'.out] at hb
    exact h1'.out.res 0 b (by omega) hb (by rw [e]; exact h1'.out.memB)
  have hw1 : IntKind.u64.wrap (n : Int) = (n : Int) := by rw [IntKind.wrap_u64]; omega
  have hdn : decide ((u : Int) ≤ (n : Int)) = decide (u ≤ n) := by simp
  go_wp2_with (at_builtin; refine app_own rfl (.tmp 15) (.tmp 20) 36 3 _ 1 8 rfl Try.underlying36 infoInt rfl (by omega) (by omega) (.slice au c.up.length cu) c.up.length 1 (vi64 c.up) [.int .i64 ((if 4097 < (u : Int) then 4097 else (u : Int)) - 1)] rfl rfl rfl rfl (by simp [Value.oneCell']) ho'.out (by omega) ?_; intro aA cA wA hA mA vA; have hb0 : B < wA.heap.size := Nat.lt_of_lt_of_le hl0 mA.size; have hbB : ∀ b, (Value.slice au c.up.length cu).ownBlock = some b → b ≠ B := hnb.out; have fz := (h1'.out.has.keep mA (fun hm => hbB B (by simpa using hm) rfl)).free 0; have dz := (h1'.out.has.keep mA (fun hm => hbB B (by simpa using hm) rfl)).cell 0 rfl)
  all_goals
    have hup : upOf u = (if 4097 < (u : Int) then 4097 else (u : Int)) - 1 := by unfold upOf; split <;> omega
    have hfin : DS X w0 (wA.setCell ⟨B, 0, none⟩ (.slice aA (c.up.length + 1) cA)) B r a cc bs (rNat bs k st).2.1 (rNat bs k st).2.2 { c with up := c.up ++ [upOf u] } := by
      rw [hup]
      have e := e0'.out
      have ek : vi64 c.up ++ [Value.int .i64 ((if 4097 < (u : Int) then 4097 else (u : Int)) - 1)] = rows 0 ++ [.int .i64 ((if 4097 < (u : Int) then 4097 else (u : Int)) - 1)] := by rw [h2'.out.up]
      refine hd.out.push h1'.out h2'.out h3'.out h4'.out h5'.out (i := 0) (by omega) (x := .int .i64 ((if 4097 < (u : Int) then 4097 else (u : Int)) - 1)) (v' := .slice aA (c.up.length + 1) cA) ?_ (by rw [e]; exact mA) (by rw [e]; exact vA) (by simp [live]) (by simp [live]) (fun w' hc _ => hc.push0 _)
      rw [← ek, h2'.out.up, vi64_len]
      exact hA
    have hfin' := Lib.hid hfin
    clear hfin hA mA vA hup
    go_wp2_with fail
    go_ret
    exact ⟨rfl, hfin'.out⟩
set_option maxRecDepth 100000 in
set_option maxHeartbeats 4000000 in
theorem read2 {X : List (Nat × List Value × TypeId)} {w0 w : World} {B r cc k : Nat} {a : Option Addr} {bs : List Int} {st : Bool} {c : CertV} (h : DS X w0 w B r a cc bs k st c) (hbb : ∀ x ∈ bs, 0 ≤ x ∧ x < 256) (n : Int) (hl : c.ws.length ≤ 100000) :
    Calls Try.prog 178 #[.pointer (some ⟨r, 0, none⟩), .pointer (some ⟨B, 0, none⟩), .int .i64 n] w (DOut X w0 B r a cc bs (rNat bs k st).2 { c with ws := c.ws ++ [wrap64 (rNat bs k st).1] } (decide (0 ≤ wrap64 (rNat bs k st).1))) := by
  have hcall := Lib.hid (rdNat h.rt hbb)
  have h' := Lib.hid h
  clear h hbb
  go_enter Try.func178, Try.ntmps178
  go_wp2_with fail
  refine hcall.out.mono ?_
  rintro e w1 ⟨rfl, hR, hm⟩
  dsimp only
  have hd := Lib.hid (h'.out.read hm hR)
  clear hR hm hcall h'
  generalize hu : (rNat bs k st).1 = u at *
  have hu' := Lib.hid hu
  clear hu
  obtain ⟨vs, rows, h1, h2, h3, h4, h5⟩ := hd.out.ex
  obtain ⟨au, cu, aw, cw, sa, cs, af, cf, e0, e1, e2, e3⟩ := h1.vals h2
  have d0 := h1.has.cell 1 rfl
  rw [e1] at d0
  have hl0 := h1.has.lt
  have ho := h1.own 1 (by omega)
  rw [e1, h2.ws, vi64_len] at ho
  have ho' := Lib.hid ho
  have h1' := Lib.hid h1
  have h2' := Lib.hid h2
  have h3' := Lib.hid h3
  have h4' := Lib.hid h4
  have h5' := Lib.hid h5
  have e0' := Lib.hid e1
  clear h1 h2 h3 h4 h5 ho e0 e1 e2 e3
  have hnb : Hid (∀ b, (Value.slice aw c.ws.length cw).ownBlock = some b → b ≠ B) := fun b hb e => by
    rw [← e0'.out] at hb
    exact h1'.out.res 1 b (by omega) hb (by rw [e]; exact h1'.out.memB)
  go_wp2_with (at_builtin; refine app_own rfl (.tmp 16) (.tmp 18) 46 2 _ 1 8 rfl Try.underlying46 infoI64 rfl (by omega) (by omega) (.slice aw c.ws.length cw) c.ws.length 1 (vi64 c.ws) [.int .i64 (wrap64 (u : Int))] rfl rfl rfl rfl (by simp [Value.oneCell']) ho'.out (by omega) ?_; intro aA cA wA hA mA vA; have hb0 : B < wA.heap.size := Nat.lt_of_lt_of_le hl0 mA.size; have hbB : ∀ b, (Value.slice aw c.ws.length cw).ownBlock = some b → b ≠ B := hnb.out; have fz := (h1'.out.has.keep mA (fun hm => hbB B (by simpa using hm) rfl)).free 1; have dz := (h1'.out.has.keep mA (fun hm => hbB B (by simpa using hm) rfl)).cell 1 rfl)
  have hfin : DS X w0 (wA.setCell ⟨B, 1, none⟩ (.slice aA (c.ws.length + 1) cA)) B r a cc bs (rNat bs k st).2.1 (rNat bs k st).2.2 { c with ws := c.ws ++ [wrap64 (u : Int)] } := by
    have e := e0'.out
    have ek : vi64 c.ws ++ [Value.int .i64 (wrap64 (u : Int))] = rows 1 ++ [.int .i64 (wrap64 (u : Int))] := by rw [h2'.out.ws]
    refine hd.out.push h1'.out h2'.out h3'.out h4'.out h5'.out (i := 1) (by omega) (x := .int .i64 (wrap64 (u : Int))) (v' := .slice aA (c.ws.length + 1) cA) ?_ (by rw [e]; exact mA) (by rw [e]; exact vA) (by simp [live]) (by simp [live]) (fun w' hc _ => hc.push1 _)
    rw [← ek, h2'.out.ws, vi64_len]
    exact hA
  have hfin' := Lib.hid hfin
  clear hfin hA mA vA
  go_wp2_with fail
  all_goals (go_ret; exact ⟨rfl, hfin'.out⟩)
end Code.Cert
end Go.Proofs.Ytmkbinbggiocaaa

set_option linter.unusedVariables false
set_option linter.unusedSimpArgs false
namespace Go.Proofs.Ytmkbinbggiocaaa
open Go.RowKit
namespace Code.Cert
/-- append(v, x..) onto a row that is owned, as one step of a region that draws its order. -/
theorem step_app_own {P : Program} {ops : Array Oper} {o : Oper} {a : Act} {W : World} {K : Act → World → Prop} {Q : Exit → Act → World → Prop} {E : Prop} (hgd : o.guard = none) (s x : Operand) (t e : TypeId) (z : Value) (size bytes : Nat)
    (ho : o.op = .call { callee := .builtin .append, args := #[s, x], argTypes := #[t, t] })
    (ht : P.underlying t = some (.slice e)) (hinfo : (P.info? e).map (fun i => (i.zero, i.size, i.bytes)) = some (some z, size, bytes)) (hz : z.cells.size = size) (hsz : 0 < size) (hb0 : 0 < bytes)
    (v : Value) (n m : Nat) (xs news : List Value) (hs : a.eval s = v) {B : Nat} (hx : a.eval x = .slice (some ⟨B, 0, none⟩) m m) (hB : B = W.heap.size) (hl : news.length = m * size) (h1 : ∀ u ∈ news, u.oneCell' = true)
    (HO : W.ownsRow 0 e size v n xs) (hby : (n + m) * bytes ≤ 140737488355328)
    (h : ∀ a1 c1 w1, w1.ownsRow 0 e size (.slice a1 (n + m) c1) (n + m) (xs ++ news) → Mod v.ownBlock.toList W w1 → ((Value.slice a1 (n + m) c1).ownBlock = v.ownBlock ∨ ∃ b, (Value.slice a1 (n + m) c1).ownBlock = some b ∧ W.heap.size ≤ b) → K (a.put o.dst (.slice a1 (n + m) c1)) w1) :
    if Region.wanted o (yielded ops a.tmps) = true then Oper.wp P o a (W.alloc (.cells news.toArray e)) K Q else E := by
  have hw : Region.wanted o (yielded ops a.tmps) = true := by simp [Region.wanted, hgd]
  rw [if_pos hw]
  subst hB
  obtain ⟨i0, hi, hzz⟩ := Option.map_eq_some_iff.1 hinfo
  simp only [Prod.mk.injEq] at hzz
  obtain ⟨hz0, hz1, hz2⟩ := hzz
  have hlen : n + m ≤ 140737488355328 := Nat.le_trans (Nat.le_mul_of_pos_right _ hb0) hby
  obtain ⟨v1, w1, hr, hown, hg, _, hat⟩ := run_append_own_at (P := P) (W.alloc (.cells news.toArray e)) 0 t o.type e i0 z size bytes ht hi hz0 hz1 hz2 hz hsz v n xs (HO.alloc _) ⟨W.heap.size, 0, none⟩ m m news hl
    (World.news_of_block (cs := news.toArray) (t := e) (fr := (0, 0)) (heap_alloc_new W _)) h1 (by simp only [maxLen]; omega) hby (Nat.zero_le _)
  obtain ⟨a1, c1, rfl⟩ : ∃ a1 c1, v1 = .slice a1 (n + m) c1 := by
    rcases hown.2 with ⟨rfl, h0⟩ | ⟨g, cap, cur, rfl, _⟩
    · exact ⟨none, 0, by rw [h0]⟩
    · exact ⟨_, _, rfl⟩
  unfold Oper.wp execOp
  simp only [ho, resolve, invoke, builtin, Sem.run_bind, Sem.run_pure, Result.andThen_ok, List.map_toArray, List.map_cons, List.map_nil, hs, hx, hr]
  refine h a1 c1 w1 hown (((Mod.refl _ W).alloc _).grown hg fun b hb _ => by simp [hb]) ?_
  rcases hat with hat | hat
  · exact .inl hat
  · exact .inr ⟨_, hat, by simp⟩
theorem infoSI : (Try.prog.info? 36).map (fun i => (i.zero, i.size, i.bytes)) = some (some (.slice none 0 0), 1, 24) := by kernel_rfl
theorem infoSI64 : (Try.prog.info? 46).map (fun i => (i.zero, i.size, i.bytes)) = some (some (.slice none 0 0), 1, 24) := by kernel_rfl
/-- A slice that was made behind w lies nowhere that matters in w. -/
theorem live_new {T : TypeId} {w w1 : World} {x : Value} {l : List Int} {B : Nat} {R : List Nat} {vs : Nat → Value} {rows : Nat → List Value} (hB : BxT T w B R vs rows) (hr : Rd w1 1 x l.length (vi64 l)) (hn : ∀ g, x.ownBlock = some g → w.heap.size ≤ g) :
    ∀ g, live x g → g < w1.heap.size ∧ g ∉ R ∧ ∀ j, j < 4 → (vs j).ownBlock ≠ some g := by
  rintro g ⟨ad, n, c, rfl, hn0, rfl⟩
  have hge := hn ad.block rfl
  obtain ⟨a', c', e⟩ := hr.val
  simp only [Value.slice.injEq] at e
  obtain ⟨rfl, rfl, rfl⟩ := e
  refine ⟨?_, fun hR => ?_, fun j hj e => ?_⟩
  · obtain ⟨g, o, e, _, _, hc⟩ := hr.at (by rw [vi64_len]; exact hn0)
    simp only [Option.some.injEq] at e
    subst e
    obtain ⟨u, hu⟩ : ∃ u, (vi64 l)[0]? = some u := ⟨_, List.getElem?_eq_getElem (by rw [vi64_len]; exact hn0)⟩
    exact World.block_lt_of_cell? w1 ⟨g, o + 0, none⟩ (hc 0 u hu)
  · have := hB.lt _ hR; omega
  · have := own_lt (hB.own j hj) e; omega
set_option maxRecDepth 100000 in
set_option maxHeartbeats 4000000 in
theorem read3 {X : List (Nat × List Value × TypeId)} {w0 w : World} {B r cc k : Nat} {a : Option Addr} {bs : List Int} {st : Bool} {c : CertV} (h : DS X w0 w B r a cc bs k st c) (hbb : ∀ x ∈ bs, 0 ≤ x ∧ x < 256) (n : Int) (hl : c.sides.length ≤ 100000) :
    Calls Try.prog 180 #[.pointer (some ⟨r, 0, none⟩), .pointer (some ⟨B, 0, none⟩), .int .i64 n] w (DOut X w0 B r a cc bs (rBits bs k st n).2 { c with sides := c.sides ++ [(rBits bs k st n).1] } true) := by
  have hd := Lib.hid (h.still (Mod.refl [] w).drew)
  clear h
  obtain ⟨vs, rows, h1, h2, h3, h4, h5⟩ := hd.out.ex
  obtain ⟨au, cu, aw, cw, sa, cs, af, cf, e0, e1, e2, e3⟩ := h1.vals h2
  have hbit := Lib.hid ((rdBits n hd.out.rt hbb).mono fun e w' h => show ∃ v, e = .returned v ∧ Rd w' 1 v (rBits bs k st n).1.length (vi64 (rBits bs k st n).1) ∧ (∀ g, v.ownBlock = some g → w.drew.heap.size ≤ g) ∧ RAt w' r a cc bs (rBits bs k st n).2.1 (rBits bs k st n).2.2 ∧ Mod [r] w.drew w' from h)
  have hs0 := h1.own 2 (by omega)
  rw [e2, h2.sl] at hs0
  have d0 := h1.has.cell 2 rfl
  rw [e2] at d0
  have hl0 := h1.has.lt
  have h1' := Lib.hid h1
  have h2' := Lib.hid h2
  have h3' := Lib.hid h3
  have h4' := Lib.hid h4
  have h5' := Lib.hid h5
  have e2' := Lib.hid e2
  have hs0' := Lib.hid hs0
  have hrB := hd.out.ne
  clear h1 h2 h3 h4 h5 e0 e1 e2 e3 hbb hs0
  have hafter : Hid (∀ w1, Mod [r] w.drew w1 → w1.cell? ⟨B, 2, none⟩ = some (.slice sa c.sides.length cs)) := fun w1 m => by
    have := (h1'.out.has.keep m (by simp; omega)).cell 2 rfl
    rwa [e2'.out] at this
  have hpush : Hid (∀ (w1 : World) (ax : Option Addr) (cx : Nat), Rd w1 1 (.slice ax (rBits bs k st n).1.length cx) (rBits bs k st n).1.length (vi64 (rBits bs k st n).1) → (∀ g, (Value.slice ax (rBits bs k st n).1.length cx).ownBlock = some g → w.drew.heap.size ≤ g) → RAt w1 r a cc bs (rBits bs k st n).2.1 (rBits bs k st n).2.2 → Mod [r] w.drew w1 →
      w1.ownsRow 0 36 1 (.slice sa c.sides.length cs) c.sides.length (rows 2) ∧
      ∀ aA cA wA, wA.ownsRow 0 36 1 (.slice aA (c.sides.length + 1) cA) (c.sides.length + 1) (rows 2 ++ [.slice ax (rBits bs k st n).1.length cx]) → Mod (Value.slice sa c.sides.length cs).ownBlock.toList w1 wA →
        ((Value.slice aA (c.sides.length + 1) cA).ownBlock = (Value.slice sa c.sides.length cs).ownBlock ∨ ∃ b, (Value.slice aA (c.sides.length + 1) cA).ownBlock = some b ∧ w1.heap.size ≤ b) →
        (wA.cell? ⟨B, 2, none⟩ = some (.slice sa c.sides.length cs) ∧ wA.frozen? ⟨B, 2, none⟩ = false ∧ B < wA.heap.size) ∧
        DS X w0 (wA.setCell ⟨B, 2, none⟩ (.slice aA (c.sides.length + 1) cA)) B r a cc bs (rBits bs k st n).2.1 (rBits bs k st n).2.2 { c with sides := c.sides ++ [(rBits bs k st n).1] }) := fun w1 ax cx hv hn hR hm => by
    have hd1 := hd.out.read hm hR
    have hmF : ∀ b ∈ [r], b < w.drew.heap.size → b ∈ RsX X B r a bs cc ∧ b ≠ B := fun b hb _ => by
      rw [List.mem_singleton] at hb; subst hb; exact ⟨by simp [Rs, RsX], hrB⟩
    have k1 := h1'.out.keep hm hmF
    have k2 := Cn.keep h1'.out h2'.out hm (fun b hb hlt => .inl (hmF b hb hlt).1)
    have e := e2'.out
    have hown := k1.own 2 (by omega)
    rw [e, h2'.out.sl] at hown
    refine ⟨hown, fun aA cA wA hA mA vA => ?_⟩
    have hBn : B ∉ (Value.slice sa c.sides.length cs).ownBlock.toList := fun hb => by
      rw [← e] at hb
      exact k1.res 2 B (by omega) (by simpa using hb) k1.memB
    have hh := k1.has.keep mA hBn
    refine ⟨⟨by have := hh.cell 2 rfl; rwa [e] at this, hh.free 2, hh.lt⟩, ?_⟩
    refine hd1.push k1 k2 h3'.out (h4'.out.keep hm (fun b hb hlt => .inl (by rw [List.mem_singleton] at hb; subst hb; simp [Rs]))) h5'.out (i := 2) (by omega) (x := .slice ax (rBits bs k st n).1.length cx) (v' := .slice aA (c.sides.length + 1) cA) ?_ (by rw [e]; exact mA) (by rw [e]; exact vA) (live_new h1'.out hv hn) (fun g hg => ?_) (fun w' hc mm => ?_)
    · rw [h2'.out.sl]; exact hA
    · obtain ⟨ad, n2, c2, e4, _, rfl⟩ := hg
      have h6 := hn ad.block (by rw [e4]; rfl)
      have h7 := hd.out.base.size
      omega
    · refine hc.push2 (rd_keep_live hv mm fun g hg hm2 => ?_)
      obtain ⟨q1, q2, q3⟩ := live_new h1'.out hv hn g hg
      rcases List.mem_cons.1 hm2 with rfl | hm2
      · exact q2 h1'.out.memB
      · exact q3 2 (by omega) (by simpa using hm2)
  generalize hX : (rBits bs k st n).1 = Y at *
  clear hX
  go_enter Try.func180, Try.ntmps180
  go_wp2_with fail
  go_region_law (first
    | (rw [if_pos (by rfl)]; go_simp; go_at_call 46; refine hbit.out.mono ?_; rintro e w1 ⟨v, rfl, hv, hn, hR, hm⟩; obtain ⟨ax, cx, rfl⟩ := hv.val; have dd := hafter.out _ hm; have dl : B < w1.heap.size := Nat.lt_of_lt_of_le hl0 hm.size; have hp := hpush.out _ _ _ hv hn hR hm; obtain ⟨hown, hp⟩ := hp; have hown' := Lib.hid hown; have hp' := Lib.hid hp; clear hown hp hv hn hR; dsimp only)
    | (refine step_app_own rfl (.tmp 11) (.tmp 15) 125 36 _ 1 24 rfl Try.underlying125 infoSI rfl (by omega) (by omega) (.slice sa c.sides.length cs) c.sides.length 1 (rows 2) [.slice ax Y.length cx] rfl rfl rfl rfl (by simp [Value.oneCell']) hown'.out (by omega) ?_; intro aA cA wA hA mA vA; obtain ⟨⟨dz, fz, lz⟩, hfin⟩ := hp'.out _ _ _ hA mA vA; have hfin' := Lib.hid hfin; clear hfin hA mA vA))
  all_goals
    go_wp2_with fail
    go_ret
    exact ⟨rfl, hfin'.out⟩
end Code.Cert
end Go.Proofs.Ytmkbinbggiocaaa

set_option linter.unusedVariables false
set_option linter.unusedSimpArgs false
namespace Go.Proofs.Ytmkbinbggiocaaa
open Go.RowKit
namespace Code.Cert
def rInts (bs : List Int) : Nat → Nat → Bool → List Int × Nat × Bool
  | 0, k, st => ([], k, st)
  | m + 1, k, st => ((rInts bs m k st).1 ++ [unsign (rNat bs (rInts bs m k st).2.1 (rInts bs m k st).2.2).1], (rNat bs (rInts bs m k st).2.1 (rInts bs m k st).2.2).2)
theorem rInts_len (bs : List Int) : ∀ m k st, (rInts bs m k st).1.length = m
  | 0, _, _ => rfl
  | m + 1, k, st => by rw [rInts, List.length_append, rInts_len bs m k st]; rfl
theorem BxT.keep2 {T : TypeId} {F : List Nat} {w w' : World} {B : Nat} {R : List Nat} {vs : Nat → Value} {rows : Nat → List Value} (h : BxT T w B R vs rows) (m : Mod F w w') (hF : ∀ b ∈ F, b ≠ B ∧ ∀ i, i < 4 → (vs i).ownBlock ≠ some b) : BxT T w' B R vs rows := by
  have hs := m.size
  refine ⟨h.has.keep m (fun hb => (hF B hb).1 rfl), fun i hi => own_keep (h.own i hi) m (fun g hg hm => (hF g hm).2 i hi hg), h.dist, h.res, fun i x hi hx g hg => ?_, fun b hb => Nat.lt_of_lt_of_le (h.lt b hb) hs, h.memB⟩
  obtain ⟨h1, h2, h3⟩ := h.el i x hi hx g hg
  exact ⟨Nat.lt_of_lt_of_le h1 hs, h2, h3⟩
theorem Cn.keep2 {F : List Nat} {w w' : World} {rows : Nat → List Value} {c : CertV} (k : Cn w rows c) (m : Mod F w w') (hF : ∀ b ∈ F, ∀ i x, i < 4 → x ∈ rows i → ¬ live x b) : Cn w' rows c := by
  have go : ∀ i, i < 4 → ∀ (x : Value) (l : List Int), x ∈ rows i → Rd w 1 x l.length (vi64 l) → Rd w' 1 x l.length (vi64 l) := fun i hi x l hx hr => rd_keep_live hr m fun g hg hm => hF g hm i x hi hx hg
  exact ⟨k.up, k.ws, k.sl, k.fl, fun i x l hx hl => go 2 (by omega) x l (List.mem_of_getElem? hx) (k.sides i x l hx hl), fun i x l hx hl => go 3 (by omega) x l (List.mem_of_getElem? hx) (k.flows i x l hx hl)⟩
theorem set_mid (d : List Int) (m i : Nat) (x : Int) (hd : d.length = i) (hi : i < m) : (vi64 (d ++ List.replicate (m - i) 0)).set i (.int .i64 x) = vi64 ((d ++ [x]) ++ List.replicate (m - (i + 1)) 0) := by
  obtain ⟨j, hj⟩ : ∃ j, m - i = j + 1 := ⟨m - i - 1, by omega⟩
  rw [hj, show m - (i + 1) = j by omega, List.replicate_succ]
  subst hd
  simp [vi64, List.set_append_right]
set_option maxRecDepth 100000 in
set_option maxHeartbeats 8000000 in
theorem read4 {X : List (Nat × List Value × TypeId)} {w0 w : World} {B r cc k : Nat} {a : Option Addr} {bs : List Int} {st : Bool} {c : CertV} (h : DS X w0 w B r a cc bs k st c) (hbb : ∀ x ∈ bs, 0 ≤ x ∧ x < 256) (n : Int) (hl : c.flows.length ≤ 100000) :
    Calls Try.prog 182 #[.pointer (some ⟨r, 0, none⟩), .pointer (some ⟨B, 0, none⟩), .int .i64 n] w (DOut X w0 B r a cc bs (rInts bs (rCount bs k st).1 (rCount bs k st).2.1 (rCount bs k st).2.2).2 { c with flows := c.flows ++ [(rInts bs (rCount bs k st).1 (rCount bs k st).2.1 (rCount bs k st).2.2).1] } true) := by
  have hcall := Lib.hid (rdCount h.rt hbb)
  have hbb' := Lib.hid hbb
  have h' := Lib.hid h
  have hbig := h.rt.big
  have hcl : (rCount bs k st).1 ≤ bs.length := by
    unfold rCount
    split
    · simp
    · split
      · split
        · simp only; omega
        · simp
      · simp
  clear h hbb
  rcases hrc : rCount bs k st with ⟨m, k1, s1⟩
  rw [hrc] at hcl
  simp only at hcl
  have hrc' := Lib.hid hrc
  have hmk := make_run (P := Try.prog) 46 2 (.int .i64 0) 8 Try.underlying46 infoI64 rfl (by omega) m (by omega)
  clear hrc
  go_enter Try.func182, Try.ntmps182
  go_wp2_with fail
  refine hcall.out.mono ?_
  intro e w1 he
  unfold RCountOut at he
  rw [hrc'.out] at he
  obtain ⟨rfl, hR, hm⟩ := he
  try dsimp only
  have hd := Lib.hid (h'.out.read hm hR)
  clear hR hm hcall h'
  go_wp2_with fail
  obtain ⟨vs, rows, h1, h2, h3, h4, h5⟩ := hd.out.ex
  have hmade := made_made w1 2 (.int .i64 0) m (by omega)
  obtain ⟨wm, hwm⟩ : ∃ wm, wm = w1.alloc (.cells (madeCells #[.int .i64 0] m) 2) := ⟨_, rfl⟩
  rw [← hwm] at hmade ⊢
  have hmw : Mod [] w1 wm := by rw [hwm]; exact (Mod.refl [] w1).alloc _
  obtain ⟨gf, hgf⟩ : ∃ gf, gf = w1.heap.size := ⟨_, rfl⟩
  rw [← hgf] at hmade ⊢
  have hk1 := Lib.hid (h1.keep hmw (by simp))
  have hk2 := Lib.hid (Cn.keep h1 h2 hmw (by simp))
  have hk4 := Lib.hid (h4.keep hmw (by simp))
  have hxg : Hid (∀ x ∈ X, x.1 ≠ gf) := fun x hx e => by have := (h4 x hx).1.lt; omega
  have hrt0 := Lib.hid (hd.out.rt.still hmw)
  have hown0 : wm.ownsRow 0 2 1 (.slice (some ⟨gf, 0, none⟩) m m) m (vi64 ((rInts bs 0 k1 s1).1 ++ List.replicate (m - 0) 0)) := by
    have := hmade.own
    simpa [rInts, vi64] using this
  have hown0' := Lib.hid hown0
  have hbase0 := Lib.hid (hd.out.base.trans hmw (by simp))
  -- what gf is not
  have hgR : Hid (gf ∉ RsX X B r a bs cc) := fun hm => by have := h1.lt gf hm; omega
  have hgv : Hid (∀ i, i < 4 → (vs i).ownBlock ≠ some gf) := fun i hi e => by have := own_lt (h1.own i hi) e; omega
  have hgl : Hid (∀ i x, i < 4 → x ∈ rows i → ¬ live x gf) := fun i x hi hx hl => by have := (h1.el i x hi hx gf hl).1; omega
  have hgs : w0.heap.size ≤ gf := by have := hd.out.base.size; omega
  have h3' := Lib.hid h3
  have h5' := Lib.hid h5
  have hlow := Lib.hid hd.out.low
  have hne := hd.out.ne
  have hna := Lib.hid hd.out.na
  clear h1 h2 h3 h4 h5 hmade hmw hwm hgf hown0 hmk hd
  go_loopw [8, 14] (fun _ iv wr => ∃ i : Nat, i ≤ m ∧ iv = .int .i64 i ∧ Bx wr B (RsX X B r a bs cc) vs rows ∧ Cn wr rows c ∧ RAt wr r a cc bs (rInts bs i k1 s1).2.1 (rInts bs i k1 s1).2.2 ∧ Mod [] w0 wr ∧ Kp wr X (Rs B r a bs cc) vs ∧ wr.ownsRow 0 2 1 (.slice (some ⟨gf, 0, none⟩) m m) m (vi64 ((rInts bs i k1 s1).1 ++ List.replicate (m - i) 0))) (fun _ iv _ => m - (intOf iv).toNat)
  case atStart => exact ⟨0, Nat.zero_le _, rfl, hk1.out, hk2.out, hrt0.out, hbase0.out, hk4.out, hown0'.out⟩
  case round =>
    clear hk1 hk2 hk4 hrt0 hbase0 hown0'
    obtain ⟨i, hi, rfl, h1, h2, hR, hbase, h4, hown⟩ := hrel
    obtain ⟨wo, hwo⟩ : ∃ wo : World, wo = wr := ⟨_, rfl⟩
    clear hwo
    have h1' := Lib.hid h1
    have h2' := Lib.hid h2
    have hR' := Lib.hid hR
    have hbase' := Lib.hid hbase
    have hown' := Lib.hid hown
    have h4' := Lib.hid h4
    clear h1 h2 hR hbase hown h4
    by_cases hlt : i < m
    · have hlt2 : (i : Int) < m := by omega
      have hcall := Lib.hid (rdInt hR'.out hbb'.out)
      go_wp2_with fail
      refine hcall.out.mono ?_
      intro e w2 he
      unfold RNatOut at he
      obtain ⟨rfl, hR2, hm2⟩ := he
      try dsimp only
      have hrF : ∀ b ∈ [r], b < wr.heap.size → b ∈ RsX X B r a bs cc ∧ b ≠ B := fun b hb _ => by rw [List.mem_singleton] at hb; subst hb; exact ⟨by simp [Rs, RsX], hne⟩
      have n1 := h1'.out.keep hm2 hrF
      have n2 := Cn.keep h1'.out h2'.out hm2 (fun b hb hlt => .inl (hrF b hb hlt).1)
      have n5 := h4'.out.keep hm2 (fun b hb hlt => .inl (by rw [List.mem_singleton] at hb; subst hb; simp [Rs, RsX]))
      have hgr : gf ≠ r := fun e => hgR.out (by simp [Rs, RsX, e])
      have n3 := own_keep hown'.out hm2 (fun g hg hm => hgr (by simp [Value.ownBlock] at hg hm; omega))
      have n4 := hbase'.out.trans hm2 (fun b hb hlt => by rw [List.mem_singleton] at hb; subst hb; have := hlow.out b (by simp [Rs, RsX]); omega)
      have hcell : ∃ u, w2.cell? ⟨gf, i, none⟩ = some u := by
        have hll : i < (vi64 ((rInts bs i k1 s1).1 ++ List.replicate (m - i) 0)).length := by rw [n3.1]; omega
        exact ⟨_, by rw [n3.cellAt i (by rw [← n3.1]; exact hll)]; exact List.getElem?_eq_getElem hll⟩
      obtain ⟨u0, hcell⟩ := hcell
      have hfr := n3.frozenAt i
      have hglt := own_lt n3 (g := gf) rfl
      generalize hx : unsign (rNat bs (rInts bs i k1 s1).2.1 (rInts bs i k1 s1).2.2).1 = x at *
      have hfin : Bx (w2.setCell ⟨gf, i, none⟩ (.int .i64 x)) B (RsX X B r a bs cc) vs rows ∧ Cn (w2.setCell ⟨gf, i, none⟩ (.int .i64 x)) rows c ∧ RAt (w2.setCell ⟨gf, i, none⟩ (.int .i64 x)) r a cc bs (rInts bs (i + 1) k1 s1).2.1 (rInts bs (i + 1) k1 s1).2.2 ∧ Mod [] w0 (w2.setCell ⟨gf, i, none⟩ (.int .i64 x)) ∧ Kp (w2.setCell ⟨gf, i, none⟩ (.int .i64 x)) X (Rs B r a bs cc) vs ∧ (w2.setCell ⟨gf, i, none⟩ (.int .i64 x)).ownsRow 0 2 1 (.slice (some ⟨gf, 0, none⟩) m m) m (vi64 ((rInts bs (i + 1) k1 s1).1 ++ List.replicate (m - (i + 1)) 0)) := by
        have mm : Mod [gf] w2 (w2.setCell ⟨gf, i, none⟩ (.int .i64 x)) := (Mod.refl [gf] w2).setCell _ _ (by simp)
        refine ⟨n1.keep2 mm (fun b hb => ?_), n2.keep2 mm (fun b hb => ?_), hR2.keep mm (by simp; omega) (fun g hg hm => ?_), n4.trans mm (fun b hb hlt => ?_), fun x hx => ?_, ?_⟩
        · rw [List.mem_singleton] at hb; subst hb; exact ⟨fun e => hgR.out (by simp [Rs, RsX, e]), hgv.out⟩
        · rw [List.mem_singleton] at hb; subst hb; exact hgl.out
        · rw [List.mem_singleton] at hm; subst hm; exact hgR.out (by simp [Rs, RsX, hg])
        · rw [List.mem_singleton] at hb; omega
        · obtain ⟨g1, g2, g3⟩ := n5 x hx
          exact ⟨g1.keep mm (fun hm => hxg.out x hx (by simpa using hm)), g2, g3⟩
        · have := (n3.stored i (.int .i64 x)).1
          rw [set_mid _ m i x (rInts_len bs i k1 s1) hlt] at this
          rw [rInts, hx]
          exact this
      have hfin' := Lib.hid hfin
      clear hfin n1 n2 n3 n4 n5 hR2 hm2 hrF hx hcall
      go_wp2_with fail
      go_roundw
      case rel => exact ⟨i + 1, by omega, by go_num, hfin'.out⟩
      case measure => simp [intOf]; omega
    · have him : m = i := by omega
      subst him
      obtain ⟨au, cu, aw, cw, sa, cs, af, cf, e0, e1, e2, e3⟩ := h1'.out.vals h2'.out
      have d0 := h1'.out.has.cell 3 rfl
      rw [e3] at d0
      have hl0 := h1'.out.has.lt
      have hfo := h1'.out.own 3 (by omega)
      rw [e3, h2'.out.fl] at hfo
      have hfo' := Lib.hid hfo
      have e3' := Lib.hid e3
      have hrow : vi64 ((rInts bs m k1 s1).1 ++ List.replicate (m - m) 0) = vi64 (rInts bs m k1 s1).1 := by simp
      have hrd := Rd.own hown'.out
      rw [hrow] at hrd
      have hrl := rInts_len bs m k1 s1
      have hlv : Hid (∀ g, live (.slice (some ⟨gf, 0, none⟩) m m) g → g = gf) := fun g hg => by
        obtain ⟨a2, n2, c2, e, _, rfl⟩ := hg
        simp only [Value.slice.injEq, Option.some.injEq] at e
        rw [← e.1]
      have hpush : Hid (∀ aA cA wA, wA.ownsRow 0 46 1 (.slice aA (c.flows.length + 1) cA) (c.flows.length + 1) (rows 3 ++ [.slice (some ⟨gf, 0, none⟩) m m]) → Mod (Value.slice af c.flows.length cf).ownBlock.toList wr wA →
        ((Value.slice aA (c.flows.length + 1) cA).ownBlock = (Value.slice af c.flows.length cf).ownBlock ∨ ∃ b, (Value.slice aA (c.flows.length + 1) cA).ownBlock = some b ∧ wr.heap.size ≤ b) →
        (wA.cell? ⟨B, 3, none⟩ = some (.slice af c.flows.length cf) ∧ wA.frozen? ⟨B, 3, none⟩ = false ∧ B < wA.heap.size) ∧
        DS X w0 (wA.setCell ⟨B, 3, none⟩ (.slice aA (c.flows.length + 1) cA)) B r a cc bs (rInts bs m k1 s1).2.1 (rInts bs m k1 s1).2.2 { c with flows := c.flows ++ [(rInts bs m k1 s1).1] }) := fun aA cA wA hA mA vA => by
        have e := e3'.out
        have hBn : B ∉ (Value.slice af c.flows.length cf).ownBlock.toList := fun hb => by
          rw [← e] at hb
          exact h1'.out.res 3 B (by omega) (by simpa using hb) h1'.out.memB
        have hh := h1'.out.has.keep mA hBn
        refine ⟨⟨by have := hh.cell 3 rfl; rwa [e] at this, hh.free 3, hh.lt⟩, ?_⟩
        have hds : DS X w0 wr B r a cc bs (rInts bs m k1 s1).2.1 (rInts bs m k1 s1).2.2 c := ⟨⟨vs, rows, h1'.out, h2'.out, h3'.out, h4'.out, h5'.out⟩, hR'.out, hbase'.out, hlow.out, hne, hna.out⟩
        refine hds.push h1'.out h2'.out h3'.out h4'.out h5'.out (i := 3) (by omega) (x := .slice (some ⟨gf, 0, none⟩) m m) (v' := .slice aA (c.flows.length + 1) cA) ?_ (by rw [e]; exact mA) (by rw [e]; exact vA) (fun g hg => ?_) (fun g hg => by rw [hlv.out g hg]; exact hgs) (fun w' hc mm => ?_)
        · rw [h2'.out.fl]; exact hA
        · rw [hlv.out g hg]
          exact ⟨own_lt hown'.out rfl, hgR.out, hgv.out⟩
        · have hrd' : Rd wr 1 (.slice (some ⟨gf, 0, none⟩) m m) (rInts bs m k1 s1).1.length (vi64 (rInts bs m k1 s1).1) := by rw [hrl]; exact hrd
          refine hc.push3 (rd_keep_live hrd' mm fun g hg hm2 => ?_)
          rw [hlv.out g hg] at hm2
          rcases List.mem_cons.1 hm2 with e | hm2
          · exact hgR.out (by simp [Rs, RsX, e])
          · exact hgv.out 3 (by omega) (by simpa using hm2)
      clear hrow hrd hrl hfo e0 e1 e2 e3 hlt
      generalize (rInts bs m k1 s1).1 = Y at *
      go_wp2_with (at_builtin; refine app_own rfl (.tmp 27) (.tmp 29) 126 46 _ 1 24 rfl Try.underlying126 infoSI64 rfl (by omega) (by omega) (.slice af c.flows.length cf) c.flows.length 1 (rows 3) [.slice (some ⟨gf, 0, none⟩) m m] rfl rfl rfl rfl (by simp [Value.oneCell']) hfo'.out (by omega) ?_; intro aA cA wA hA mA vA; obtain ⟨⟨dz, fz, lz⟩, hfin⟩ := hpush.out _ _ _ hA mA vA; have hfin' := Lib.hid hfin; clear hfin hA mA vA)
      go_ret
      exact ⟨rfl, hfin'.out⟩
end Code.Cert
end Go.Proofs.Ytmkbinbggiocaaa

set_option linter.unusedVariables false
set_option linter.unusedSimpArgs false
namespace Go.Proofs.Ytmkbinbggiocaaa
open Go.RowKit
namespace Code.Cert
abbrev RSt := CertV × Nat × Bool
def partStep (bs : List Int) (n : Nat) : Nat → RSt → RSt × Bool
  | 0, x => (({ x.1 with up := x.1.up ++ [upOf (rNat bs x.2.1 x.2.2).1] }, (rNat bs x.2.1 x.2.2).2), decide ((rNat bs x.2.1 x.2.2).1 ≤ n))
  | 1, x => (({ x.1 with ws := x.1.ws ++ [wrap64 (rNat bs x.2.1 x.2.2).1] }, (rNat bs x.2.1 x.2.2).2), decide (0 ≤ wrap64 (rNat bs x.2.1 x.2.2).1))
  | 2, x => (({ x.1 with sides := x.1.sides ++ [(rBits bs x.2.1 x.2.2 n).1] }, (rBits bs x.2.1 x.2.2 n).2), true)
  | _, x => (({ x.1 with flows := x.1.flows ++ [(rInts bs (rCount bs x.2.1 x.2.2).1 (rCount bs x.2.1 x.2.2).2.1 (rCount bs x.2.1 x.2.2).2.2).1] }, (rInts bs (rCount bs x.2.1 x.2.2).1 (rCount bs x.2.1 x.2.2).2.1 (rCount bs x.2.1 x.2.2).2.2).2), true)
def partRun (bs : List Int) (n : Nat) : Nat → RSt → Option RSt
  | 0, x => some x
  | j + 1, x => (partRun bs n j x).bind fun y => if (partStep bs n j y).2 then some (partStep bs n j y).1 else none
def verts (bs : List Int) (n : Nat) : Nat → RSt → Option RSt
  | 0, x => some x
  | i + 1, x => (verts bs n i x).bind (partRun bs n 4)
def noneC : CertV := ⟨[], [], [], []⟩
def decP (bs : List Int) : Option CertV :=
  let s := rMark bs 0 false headB
  let a := rNat bs s.1 s.2
  if a.1 ≤ 4096 then (verts bs a.1 a.1 (noneC, a.2)).bind fun y => if rEnd bs y.2.1 y.2.2 = 0 then some y.1 else none else none
/-- Lengths that go up by one with each vertex. -/
def lenOk (c : CertV) (i j : Nat) : Prop := c.up.length = (if 0 < j then i + 1 else i) ∧ c.ws.length = (if 1 < j then i + 1 else i) ∧ c.sides.length = (if 2 < j then i + 1 else i) ∧ c.flows.length = (if 3 < j then i + 1 else i)
theorem partRun_stop {bs : List Int} {n j : Nat} {x : RSt} (h : partRun bs n j x = none) : ∀ d, partRun bs n (j + d) x = none
  | 0 => h
  | d + 1 => by rw [← Nat.add_assoc, partRun, partRun_stop h d]; rfl
theorem partRun_no {bs : List Int} {n j : Nat} {x y : RSt} (h : partRun bs n j x = some y) (hs : (partStep bs n j y).2 = false) (hj : j < 4) : partRun bs n 4 x = none := by
  have h1 : partRun bs n (j + 1) x = none := by rw [partRun, h]; simp [hs]
  have := partRun_stop h1 (4 - (j + 1))
  rwa [show j + 1 + (4 - (j + 1)) = 4 by omega] at this
theorem partRun_yes {bs : List Int} {n j : Nat} {x y : RSt} (h : partRun bs n j x = some y) (hs : (partStep bs n j y).2 = true) : partRun bs n (j + 1) x = some (partStep bs n j y).1 := by
  rw [partRun, h]; simp [hs]
theorem verts_stop {bs : List Int} {n j : Nat} {x : RSt} (h : verts bs n j x = none) : ∀ d, verts bs n (j + d) x = none
  | 0 => h
  | d + 1 => by rw [← Nat.add_assoc, verts, verts_stop h d]; rfl
theorem verts_no {bs : List Int} {n i m : Nat} {x y : RSt} (h : verts bs n i x = some y) (hs : partRun bs n 4 y = none) (hi : i < m) : verts bs n m x = none := by
  have h1 : verts bs n (i + 1) x = none := by rw [verts, h]; exact hs
  have := verts_stop h1 (m - (i + 1))
  rwa [show i + 1 + (m - (i + 1)) = m by omega] at this
theorem verts_yes {bs : List Int} {n i : Nat} {x y z : RSt} (h : verts bs n i x = some y) (hs : partRun bs n 4 y = some z) : verts bs n (i + 1) x = some z := by
  rw [verts, h]; exact hs
theorem DS.addX {X : List (Nat × List Value × TypeId)} {w0 w w' : World} {B r cc k : Nat} {a : Option Addr} {bs : List Int} {st : Bool} {c : CertV} (h : DS X w0 w B r a cc bs k st c) (m : Mod [] w w') {b : Nat} {cs : List Value} {t : TypeId} (hb : Has w' b cs t) (hn : w.heap.size ≤ b) : DS ((b, cs, t) :: X) w0 w' B r a cc bs k st c := by
  have h' := h.still m
  obtain ⟨vs, rows, h1, h2, h3, h4, h5⟩ := h.ex
  have hbs := hb.lt
  have hws := m.size
  have hk := h1.keep m (by simp)
  refine ⟨⟨vs, rows, ⟨hk.has, hk.own, hk.dist, fun i g hi hg hR => ?_, fun i x hi hx g hg => ?_, fun y hy => ?_, by simp [RsX]⟩, Cn.keep h1 h2 m (by simp), h3, fun x hx => ?_, h5⟩, h'.rt, h'.base, h'.low, h'.ne, h'.na⟩
  · have := own_lt (h1.own i hi) hg
    have h5 := h1.res i g hi hg
    simp only [RsX, List.map_cons, List.mem_cons, List.mem_append] at hR h5
    rcases hR with e | e | e | e | e
    · exact h5 (.inl e)
    · exact h5 (.inr (.inl e))
    · exact h5 (.inr (.inr (.inl e)))
    · omega
    · exact h5 (.inr (.inr (.inr e)))
  · obtain ⟨g1, g2, g3⟩ := h1.el i x hi hx g hg
    refine ⟨by omega, fun hR => ?_, g3⟩
    simp only [RsX, List.map_cons, List.mem_cons, List.mem_append] at hR g2
    rcases hR with e | e | e | e | e
    · exact g2 (.inl e)
    · exact g2 (.inr (.inl e))
    · exact g2 (.inr (.inr (.inl e)))
    · omega
    · exact g2 (.inr (.inr (.inr e)))
  · have h5 := h1.lt y
    simp only [RsX, List.map_cons, List.mem_cons, List.mem_append] at hy h5
    rcases hy with e | e | e | e | e
    · have := h5 (.inl e); omega
    · have := h5 (.inr (.inl e)); omega
    · have := h5 (.inr (.inr (.inl e))); omega
    · omega
    · have := h5 (.inr (.inr (.inr e))); omega
  rcases List.mem_cons.1 hx with rfl | hx
  · refine ⟨hb, fun hm => ?_, fun i hi e => ?_⟩
    · have : b ∈ RsX X B r a bs cc := by
        simp only [Rs, List.mem_cons] at hm
        simp only [RsX, List.mem_cons, List.mem_append]
        rcases hm with e | e | e
        · exact .inl e
        · exact .inr (.inl e)
        · exact .inr (.inr (.inl e))
      have := h1.lt _ this
      omega
    · have := own_lt (h1.own i hi) e; omega
  · exact (h4.keep m (by simp)) x hx
/-- The certificate, behind whatever stores into blocks that it does not lie in. -/
theorem BxT.repF {T : TypeId} {F : List Nat} {w w' : World} {B : Nat} {R : List Nat} {vs : Nat → Value} {rows : Nat → List Value} {c : CertV} (h : BxT T w B R vs rows) (k : Cn w rows c) (hv : ∀ i g, i < 4 → (vs i).ownBlock = some g → g ∉ F) (he : ∀ i x g, i < 4 → x ∈ rows i → live x g → g ∉ F) (m : Mod F w w') : CRep w' (vs 0) (vs 1) (vs 2) (vs 3) c := by
  have ho : ∀ i, i < 4 → w'.ownsRow 0 (tyI i) 1 (vs i) (rows i).length (rows i) := fun i hi => own_keep (h.own i hi) m (fun g hg => hv i g hi hg)
  have k' : Cn w' rows c := k.keep2 m (fun b hb i x hi hx hl => he i x b hi hx hl hb)
  have h0 := Rd.own (ho 0 (by omega))
  have h1 := Rd.own (ho 1 (by omega))
  have h2 := Rd.own (ho 2 (by omega))
  have h3 := Rd.own (ho 3 (by omega))
  rw [k'.up, vi64_len] at h0
  rw [k'.ws, vi64_len] at h1
  rw [k'.sl] at h2
  rw [k'.fl] at h3
  exact ⟨h0, h1, ⟨rows 2, k'.sl, h2, k'.sides⟩, ⟨rows 3, k'.fl, h3, k'.flows⟩⟩
def nilsV : List Value := [.slice none 0 0, .slice none 0 0, .slice none 0 0, .slice none 0 0]
theorem DS.start {w0 w : World} {B r cc k : Nat} {a : Option Addr} {bs : List Int} {st : Bool} {V : Nat} (hR : RAt w r a cc bs k st) (hm : Mod [] w0 w) (hbox : Has w B nilsV 128) (hres : Has w V nilsV 128) (hrV : r < V) (hVB : V < B) (haV : ∀ g, (Value.slice a bs.length cc).ownBlock = some g → g < V) (hr : w0.heap.size ≤ r) (ha : ∀ g, (Value.slice a bs.length cc).ownBlock = some g → w0.heap.size ≤ g) :
    DS [(V, nilsV, 128)] w0 w B r a cc bs k st noneC := by
  have hVl := hres.lt
  have hBl := hbox.lt
  refine ⟨⟨fun _ => .slice none 0 0, fun _ => [], ⟨hbox, fun i _ => World.ownsRow_nil _ _ _ _, by simp [Value.ownBlock], by simp [Value.ownBlock], by simp, fun b hb => ?_, by simp [RsX]⟩, ⟨rfl, rfl, rfl, rfl, by simp, by simp⟩, by simp [Value.ownBlock], fun x hx => ?_, fun i x g hi hx hg => by simp at hx⟩, hR, hm, fun b hb => ?_, by omega, fun g hg => by have := haV g hg; omega⟩
  · simp only [RsX, List.mem_cons, List.mem_append, Option.mem_toList, List.map_cons, List.map_nil, List.not_mem_nil, or_false] at hb
    rcases hb with rfl | rfl | hb | rfl
    · omega
    · omega
    · have := haV b hb; omega
    · omega
  · rw [List.mem_singleton] at hx
    subst hx
    refine ⟨hres, fun hm => ?_, by simp [Value.ownBlock]⟩
    simp only [Rs, List.mem_cons, Option.mem_toList] at hm
    rcases hm with e | e | e
    · omega
    · omega
    · have := haV V e; omega
  · simp only [Rs, List.mem_cons, Option.mem_toList] at hb
    rcases hb with rfl | rfl | hb
    · omega
    · omega
    · exact ha b hb
def isC (v : Value) : Prop := ∃ a1 n1 c1 a2 n2 c2 a3 n3 c3 a4 n4 c4, v = .agg #[.slice a1 n1 c1, .slice a2 n2 c2, .slice a3 n3 c3, .slice a4 n4 c4]
def ReadNo (w0 : World) (e : Ending) (w' : World) : Prop := ∃ v, isC v ∧ e = .returned (.tuple #[v, .bool false]) ∧ Mod [] w0 w'
def ReadOut (bs : List Int) (w0 : World) (e : Ending) (w' : World) : Prop :=
  match decP bs with
  | some c => ∃ vu vw vs vf, e = .returned (.tuple #[.agg #[vu, vw, vs, vf], .bool true]) ∧ (∀ W F, Mod F w' W → (∀ b ∈ F, b < w0.heap.size) → CRep W vu vw vs vf c) ∧ Mod [] w0 w'
  | none => ReadNo w0 e w'
def headS : ByteArray := ⟨#[71, 72, 67, 49]⟩
theorem headS_bytes : bytesI headS = headB := by decide
set_option maxRecDepth 100000 in
set_option maxHeartbeats 8000000 in
theorem read_any {w0 w : World} {r cc : Nat} {a : Option Addr} {bs : List Int} (hR : RAt w r a cc bs 0 false) (hm : Mod [] w0 w) (hr : w0.heap.size ≤ r) (ha : ∀ g, (Value.slice a bs.length cc).ownBlock = some g → w0.heap.size ≤ g) (hbb : ∀ x ∈ bs, 0 ≤ x ∧ x < 256) :
    Calls Try.prog 156 #[.pointer (some ⟨r, 0, none⟩)] w (ReadOut bs w0) := by
  obtain ⟨wb, hwb⟩ : ∃ wb, wb = (w.alloc (.cells #[.slice none 0 0, .slice none 0 0, .slice none 0 0, .slice none 0 0] 128)).alloc (.cells #[.slice none 0 0, .slice none 0 0, .slice none 0 0, .slice none 0 0] 128) := ⟨_, rfl⟩
  obtain ⟨V, hV⟩ : ∃ V, V = w.heap.size := ⟨_, rfl⟩
  have hmw : Mod [] w wb := by rw [hwb]; exact ((Mod.refl [] w).alloc _).alloc _
  have hres : Has wb V [.slice none 0 0, .slice none 0 0, .slice none 0 0, .slice none 0 0] 128 := by rw [hwb, hV]; exact (Has.new w _ _).alloc _
  have hbox : Has wb (V + 1) [.slice none 0 0, .slice none 0 0, .slice none 0 0, .slice none 0 0] 128 := by
    have := Has.new (w.alloc (.cells #[.slice none 0 0, .slice none 0 0, .slice none 0 0, .slice none 0 0] 128)) [.slice none 0 0, .slice none 0 0, .slice none 0 0, .slice none 0 0] 128
    rw [World.size_alloc] at this
    rw [hwb, hV]; exact this
  have hVr : r < V := by rw [hV]; exact hR.has.lt
  have hVa : ∀ g, (Value.slice a bs.length cc).ownBlock = some g → g < V := fun g hg => by rw [hV]; exact own_lt hR.own hg
  have hmk := Lib.hid (rdMark (w := wb) headS (by decide) (hR.still hmw) hbb)
  have hbb' := Lib.hid hbb
  have hds0 := Lib.hid (fun k st (w1 : World) (hR1 : RAt w1 r a cc bs k st) (m : Mod [r] wb w1) => DS.start (B := V + 1) (V := V) hR1 ((hm.trans hmw (by simp)).trans m (fun b hb hlt => by rw [List.mem_singleton] at hb; omega)) (hbox.keep m (by simp; omega)) (hres.keep m (by simp; omega)) hVr (by omega) hVa hr ha)
  have hwb' := Lib.hid hwb
  have hV' := Lib.hid hV
  clear hR hm hr ha hbb hbox hres hwb hmw hVa hV
  go_enter Try.func156, Try.ntmps156
  go_wp2_with fail
  rw [← hV'.out]
  have e5 : (w.alloc (.cells #[.slice none 0 0, .slice none 0 0, .slice none 0 0, .slice none 0 0] 128)).alloc (.cells #[.slice none 0 0, .slice none 0 0, .slice none 0 0, .slice none 0 0] 128) = wb := hwb'.out.symm
  rw [e5]
  clear e5
  refine hmk.out.mono ?_
  rintro e w1 ⟨rfl, hR1, hm1⟩
  try dsimp only
  rw [headS_bytes] at hR1
  have hnat := Lib.hid (rdNat hR1 hbb'.out)
  have hm1' := Lib.hid hm1
  clear hmk hR1 hm1
  go_wp2_with fail
  refine hnat.out.mono ?_
  rintro e w2 ⟨rfl, hR2, hm2⟩
  try dsimp only
  have hd := Lib.hid (hds0.out _ _ w2 hR2 (trM r _ _ _ hm1'.out hm2))
  have hlt := rNat_lt (bs := bs) (k := (rMark bs 0 false headB).1) (stop := (rMark bs 0 false headB).2) hbb'.out
  clear hds0 hnat hR2 hm2 hm1'
  have hout : Hid (∀ w', decP bs = none → ∀ v, isC v → Mod [] w0 w' → ReadOut bs w0 (.returned (.tuple #[v, .bool false])) w') := fun w' h v hv m => by
    unfold ReadOut; rw [h]; exact ⟨_, hv, rfl, m⟩
  have hdef : Hid (decP bs = if (rNat bs (rMark bs 0 false headB).1 (rMark bs 0 false headB).2).1 ≤ 4096 then (verts bs (rNat bs (rMark bs 0 false headB).1 (rMark bs 0 false headB).2).1 (rNat bs (rMark bs 0 false headB).1 (rMark bs 0 false headB).2).1 (noneC, (rNat bs (rMark bs 0 false headB).1 (rMark bs 0 false headB).2).2)).bind fun y => if rEnd bs y.2.1 y.2.2 = 0 then some y.1 else none else none) := rfl
  rcases hrn : rNat bs (rMark bs 0 false headB).1 (rMark bs 0 false headB).2 with ⟨n, k2, s2⟩
  rw [hrn] at hd hlt hdef
  simp only at hd hlt hdef
  clear hrn
  by_cases hn : 4096 < n
  · have t1 : decide (4096 < (n : Int)) = true := by simp; omega
    have t1' : decide (4096 < n) = true := by simpa using hn
    have hno : decP bs = none := by rw [hdef.out, if_neg (by omega)]
    obtain ⟨vs, rows, h1, h2, h3, h4, h5⟩ := hd.out.ex
    obtain ⟨au, cu, aw, cw, sa, cs, af, cf, e0, e1, e2, e3⟩ := h1.vals h2
    have hb := h1.has
    rw [e0, e1, e2, e3] at hb
    have d0 := hb.cell 0 rfl
    have d1 := hb.cell 1 rfl
    have d2 := hb.cell 2 rfl
    have d3 := hb.cell 3 rfl
    have dl := hb.lt
    obtain ⟨hV0, _, _⟩ := h4 _ (List.mem_singleton.2 rfl)
    have r0 := hV0.cell 0 rfl
    have r1 := hV0.cell 1 rfl
    have r2 := hV0.cell 2 rfl
    have r3 := hV0.cell 3 rfl
    have rf := hV0.free
    have rl := hV0.lt
    simp only at r0 r1 r2 r3 rf rl
    have hVw : w0.heap.size ≤ V := by have := hd.out.low r (by simp [Rs]); omega
    have hf : Hid (∀ u0 u1 u2 u3 v, isC v → ReadOut bs w0 (.returned (.tuple #[v, .bool false])) ((((w2.setCell ⟨V, 0, none⟩ u0).setCell ⟨V, 1, none⟩ u1).setCell ⟨V, 2, none⟩ u2).setCell ⟨V, 3, none⟩ u3)) := fun u0 u1 u2 u3 v hv =>
      hout.out _ hno v hv ((((hd.out.base.setCell _ _ (fun h => by simp only at h; omega)).setCell _ _ (fun h => by simp only at h; omega)).setCell _ _ (fun h => by simp only at h; omega)).setCell _ _ (fun h => by simp only at h; omega))
    clear hno hd h1 h2 h3 h4 h5 e0 e1 e2 e3 hb hV0 hout hdef
    dsimp only
    go_wp2_with fail
    refine bodyPost_ret (v := .tuple #[.agg #[.slice au noneC.up.length cu, .slice aw noneC.ws.length cw, .slice sa noneC.sides.length cs, .slice af noneC.flows.length cf], .bool false]) (by simp [results, Try.results156, go_sem, r0, r1, r2, r3, rl]) rfl (hf.out _ _ _ _ _ ⟨_, _, _, _, _, _, _, _, _, _, _, _, rfl⟩)
  · have t1 : decide (4096 < (n : Int)) = false := by simp; omega
    have t1' : decide (4096 < n) = false := by simpa using hn
    have hn4 : n ≤ 4096 := by omega
    have hdef2 : Hid (∀ y, verts bs n n (noneC, k2, s2) = some y → decP bs = if rEnd bs y.2.1 y.2.2 = 0 then some y.1 else none) := fun y hy => by rw [hdef.out, if_pos hn4, hy]; rfl
    have hdefn : Hid (verts bs n n (noneC, k2, s2) = none → decP bs = none) := fun hy => by rw [hdef.out, if_pos hn4, hy]; rfl
    have hVw : w0.heap.size ≤ V := by have := hd.out.low r (by simp [Rs]); omega
    have hparts := Lib.hid (parts_any w2)
    clear hdef hn
    try dsimp only
    go_wp2_with fail
    refine hparts.out.mono ?_
    rintro e w3 ⟨gp, rfl, hp, hm3, hgp⟩
    try dsimp only
    have hd3 := Lib.hid (hd.out.addX hm3 hp hgp)
    clear hd hparts hp hm3 hgp
    go_wp2_with fail
    go_loopw [18] (fun iv wr => ∃ (i : Nat) (x : RSt), i ≤ n ∧ iv = .int .u64 i ∧ verts bs n i (noneC, k2, s2) = some x ∧ lenOk x.1 i 0 ∧ DS [(gp, partsV, 206), (V, nilsV, 128)] w0 wr (V + 1) r a cc bs x.2.1 x.2.2 x.1) (fun iv _ => n - (intOf iv).toNat)
    case atStart => exact ⟨0, _, Nat.zero_le _, rfl, rfl, by simp [lenOk, noneC], hd3.out⟩
    case round =>
      clear hd3
      obtain ⟨i, x, hi, rfl, hv, hlx, hds⟩ := hrel
      obtain ⟨wo, hwo⟩ : ∃ wo : World, wo = wr := ⟨_, rfl⟩
      clear hwo
      have hv' := Lib.hid hv
      have hlx' := Lib.hid hlx
      have hds' := Lib.hid hds
      clear hv hlx hds
      by_cases hlt : i < n
      · have q1 : decide ((i : Int) < (n : Int)) = true := by simp; omega
        have q1' : decide (i < n) = true := by simpa using hlt
        go_wp2_with fail
        go_loopw [22] (fun jv wr' => ∃ (j : Nat) (y : RSt), j ≤ 4 ∧ jv = .int .i64 j ∧ partRun bs n j x = some y ∧ lenOk y.1 i j ∧ DS [(gp, partsV, 206), (V, nilsV, 128)] w0 wr' (V + 1) r a cc bs y.2.1 y.2.2 y.1) (fun jv _ => 4 - (intOf jv).toNat)
        case atStart => exact ⟨0, x, by omega, rfl, rfl, hlx'.out, hds'.out⟩
        case round =>
          clear hds'
          obtain ⟨j, y, hj, rfl, hy, hly, hdy⟩ := hrel
          obtain ⟨wo, hwo⟩ : ∃ wo : World, wo = wr := ⟨_, rfl⟩
          clear hwo
          have hy' := Lib.hid hy
          have hly' := Lib.hid hly
          have hdy' := Lib.hid hdy
          clear hy hly hdy
          by_cases hj0 : j = 0
          · subst hj0
            obtain ⟨vs, rows, _, _, _, h4, _⟩ := hdy'.out.ex
            have hpr := (h4 (gp, partsV, 206) (by simp)).1
            have p0 := hpr.cell 0 rfl
            have p1 := hpr.cell 1 rfl
            have hjlt := hpr.lt
            simp only at p0 p1 hjlt
            have hcall : Hid (∀ W, Mod [] wr W → Calls Try.prog 176 #[.pointer (some ⟨r, 0, none⟩), .pointer (some ⟨V + 1, 0, none⟩), .int .i64 n] W (DOut [(gp, partsV, 206), (V, nilsV, 128)] w0 (V + 1) r a cc bs (partStep bs n 0 y).1.2 (partStep bs n 0 y).1.1 (partStep bs n 0 y).2)) := fun W m => read1 (hdy'.out.still m) hbb'.out n hn4 (by have := hly'.out; unfold lenOk at this; simp at this; omega)
            have hw1 : IntKind.i64.wrap (n : Int) = (n : Int) := IntWalk.i64_in _ (by omega)
            clear hpr h4
            go_wp2_with fail
            refine (hcall.out _ ((Mod.refl [] wr).alloc _)).mono ?_
            rintro e w5 ⟨rfl, hd5⟩
            try dsimp only
            have hd5' := Lib.hid hd5
            clear hd5 hcall p0 p1
            cases hok : (partStep bs n 0 y).2 with
            | false =>
              have hno : decP bs = none := hdefn.out (verts_no hv'.out (partRun_no hy'.out hok (by omega)) hlt)
              obtain ⟨vs, rows, h1, h2, h3, h4, h5⟩ := hd5'.out.ex
              obtain ⟨au, cu, aw, cw, sa, cs, af, cf, e0, e1, e2, e3⟩ := h1.vals h2
              have hb := h1.has
              rw [e0, e1, e2, e3] at hb
              have d0 := hb.cell 0 rfl
              have d1 := hb.cell 1 rfl
              have d2 := hb.cell 2 rfl
              have d3 := hb.cell 3 rfl
              have dl := hb.lt
              obtain ⟨hV0, _, _⟩ := h4 (V, nilsV, 128) (by simp)
              have r0 := hV0.cell 0 rfl
              have r1 := hV0.cell 1 rfl
              have r2 := hV0.cell 2 rfl
              have r3 := hV0.cell 3 rfl
              have rf := hV0.free
              have rl := hV0.lt
              simp only at r0 r1 r2 r3 rf rl
              have hf : Hid (∀ u0 u1 u2 u3 v, isC v → ReadOut bs w0 (.returned (.tuple #[v, .bool false])) ((((w5.setCell ⟨V, 0, none⟩ u0).setCell ⟨V, 1, none⟩ u1).setCell ⟨V, 2, none⟩ u2).setCell ⟨V, 3, none⟩ u3)) := fun u0 u1 u2 u3 v hv =>
                hout.out _ hno v hv (((((hd5'.out).base.setCell _ _ (fun h => by simp only at h; omega)).setCell _ _ (fun h => by simp only at h; omega)).setCell _ _ (fun h => by simp only at h; omega)).setCell _ _ (fun h => by simp only at h; omega))
              clear hno hok h1 h2 h3 h4 h5 e0 e1 e2 e3 hb hV0
              try dsimp only
              go_wp2_with fail
              refine bodyPost_ret (v := .tuple #[.agg #[.slice au (partStep bs n 0 y).1.1.up.length cu, .slice aw (partStep bs n 0 y).1.1.ws.length cw, .slice sa (partStep bs n 0 y).1.1.sides.length cs, .slice af (partStep bs n 0 y).1.1.flows.length cf], .bool false]) (by simp [results, Try.results156, go_sem, r0, r1, r2, r3, rl]) rfl (hf.out _ _ _ _ _ ⟨_, _, _, _, _, _, _, _, _, _, _, _, rfl⟩)
            | true =>
              have hn1 := Lib.hid (partRun_yes hy'.out hok)
              have hl1 : Hid (lenOk (partStep bs n 0 y).1.1 i (0 + 1)) := by
                have := hly'.out
                unfold lenOk at this
                show lenOk _ _ _
                unfold lenOk
                simp [partStep] at this ⊢
                omega
              clear hok
              generalize (partStep bs n 0 y).1 = z at *
              go_wp2_with fail
              go_roundw
              case rel => exact ⟨0 + 1, z, by omega, by rfl, hn1.out, hl1.out, hd5'.out⟩
              case measure => simp [intOf]
          by_cases hj1 : j = 1
          · subst hj1
            obtain ⟨vs, rows, _, _, _, h4, _⟩ := hdy'.out.ex
            have hpr := (h4 (gp, partsV, 206) (by simp)).1
            have p0 := hpr.cell 2 rfl
            have p1 := hpr.cell 3 rfl
            have hjlt := hpr.lt
            simp only at p0 p1 hjlt
            have hcall : Hid (∀ W, Mod [] wr W → Calls Try.prog 178 #[.pointer (some ⟨r, 0, none⟩), .pointer (some ⟨V + 1, 0, none⟩), .int .i64 n] W (DOut [(gp, partsV, 206), (V, nilsV, 128)] w0 (V + 1) r a cc bs (partStep bs n 1 y).1.2 (partStep bs n 1 y).1.1 (partStep bs n 1 y).2)) := fun W m => read2 (hdy'.out.still m) hbb'.out n (by have := hly'.out; unfold lenOk at this; simp at this; omega)
            have hw1 : IntKind.i64.wrap (n : Int) = (n : Int) := IntWalk.i64_in _ (by omega)
            clear hpr h4
            go_wp2_with fail
            refine (hcall.out _ ((Mod.refl [] wr).alloc _)).mono ?_
            rintro e w5 ⟨rfl, hd5⟩
            try dsimp only
            have hd5' := Lib.hid hd5
            clear hd5 hcall p0 p1
            cases hok : (partStep bs n 1 y).2 with
            | false =>
              have hno : decP bs = none := hdefn.out (verts_no hv'.out (partRun_no hy'.out hok (by omega)) hlt)
              obtain ⟨vs, rows, h1, h2, h3, h4, h5⟩ := hd5'.out.ex
              obtain ⟨au, cu, aw, cw, sa, cs, af, cf, e0, e1, e2, e3⟩ := h1.vals h2
              have hb := h1.has
              rw [e0, e1, e2, e3] at hb
              have d0 := hb.cell 0 rfl
              have d1 := hb.cell 1 rfl
              have d2 := hb.cell 2 rfl
              have d3 := hb.cell 3 rfl
              have dl := hb.lt
              obtain ⟨hV0, _, _⟩ := h4 (V, nilsV, 128) (by simp)
              have r0 := hV0.cell 0 rfl
              have r1 := hV0.cell 1 rfl
              have r2 := hV0.cell 2 rfl
              have r3 := hV0.cell 3 rfl
              have rf := hV0.free
              have rl := hV0.lt
              simp only at r0 r1 r2 r3 rf rl
              have hf : Hid (∀ u0 u1 u2 u3 v, isC v → ReadOut bs w0 (.returned (.tuple #[v, .bool false])) ((((w5.setCell ⟨V, 0, none⟩ u0).setCell ⟨V, 1, none⟩ u1).setCell ⟨V, 2, none⟩ u2).setCell ⟨V, 3, none⟩ u3)) := fun u0 u1 u2 u3 v hv =>
                hout.out _ hno v hv (((((hd5'.out).base.setCell _ _ (fun h => by simp only at h; omega)).setCell _ _ (fun h => by simp only at h; omega)).setCell _ _ (fun h => by simp only at h; omega)).setCell _ _ (fun h => by simp only at h; omega))
              clear hno hok h1 h2 h3 h4 h5 e0 e1 e2 e3 hb hV0
              try dsimp only
              go_wp2_with fail
              refine bodyPost_ret (v := .tuple #[.agg #[.slice au (partStep bs n 1 y).1.1.up.length cu, .slice aw (partStep bs n 1 y).1.1.ws.length cw, .slice sa (partStep bs n 1 y).1.1.sides.length cs, .slice af (partStep bs n 1 y).1.1.flows.length cf], .bool false]) (by simp [results, Try.results156, go_sem, r0, r1, r2, r3, rl]) rfl (hf.out _ _ _ _ _ ⟨_, _, _, _, _, _, _, _, _, _, _, _, rfl⟩)
            | true =>
              have hn1 := Lib.hid (partRun_yes hy'.out hok)
              have hl1 : Hid (lenOk (partStep bs n 1 y).1.1 i (1 + 1)) := by
                have := hly'.out
                unfold lenOk at this
                show lenOk _ _ _
                unfold lenOk
                simp [partStep] at this ⊢
                omega
              clear hok
              generalize (partStep bs n 1 y).1 = z at *
              go_wp2_with fail
              go_roundw
              case rel => exact ⟨1 + 1, z, by omega, by rfl, hn1.out, hl1.out, hd5'.out⟩
              case measure => simp [intOf]
          by_cases hj2 : j = 2
          · subst hj2
            obtain ⟨vs, rows, _, _, _, h4, _⟩ := hdy'.out.ex
            have hpr := (h4 (gp, partsV, 206) (by simp)).1
            have p0 := hpr.cell 4 rfl
            have p1 := hpr.cell 5 rfl
            have hjlt := hpr.lt
            simp only at p0 p1 hjlt
            have hcall : Hid (∀ W, Mod [] wr W → Calls Try.prog 180 #[.pointer (some ⟨r, 0, none⟩), .pointer (some ⟨V + 1, 0, none⟩), .int .i64 n] W (DOut [(gp, partsV, 206), (V, nilsV, 128)] w0 (V + 1) r a cc bs (partStep bs n 2 y).1.2 (partStep bs n 2 y).1.1 (partStep bs n 2 y).2)) := fun W m => read3 (hdy'.out.still m) hbb'.out n (by have := hly'.out; unfold lenOk at this; simp at this; omega)
            have hw1 : IntKind.i64.wrap (n : Int) = (n : Int) := IntWalk.i64_in _ (by omega)
            clear hpr h4
            go_wp2_with fail
            refine (hcall.out _ ((Mod.refl [] wr).alloc _)).mono ?_
            rintro e w5 ⟨rfl, hd5⟩
            try dsimp only
            have hd5' := Lib.hid hd5
            clear hd5 hcall p0 p1
            have hok : (partStep bs n 2 y).2 = true := rfl
            have hn1 := Lib.hid (partRun_yes hy'.out hok)
            have hl1 : Hid (lenOk (partStep bs n 2 y).1.1 i (2 + 1)) := by
              have := hly'.out
              unfold lenOk at this
              show lenOk _ _ _
              unfold lenOk
              simp [partStep] at this ⊢
              omega
            rw [hok]
            clear hok
            generalize (partStep bs n 2 y).1 = z at *
            go_wp2_with fail
            go_roundw
            case rel => exact ⟨2 + 1, z, by omega, by rfl, hn1.out, hl1.out, hd5'.out⟩
            case measure => simp [intOf]
          by_cases hj3 : j = 3
          · subst hj3
            obtain ⟨vs, rows, _, _, _, h4, _⟩ := hdy'.out.ex
            have hpr := (h4 (gp, partsV, 206) (by simp)).1
            have p0 := hpr.cell 6 rfl
            have p1 := hpr.cell 7 rfl
            have hjlt := hpr.lt
            simp only at p0 p1 hjlt
            have hcall : Hid (∀ W, Mod [] wr W → Calls Try.prog 182 #[.pointer (some ⟨r, 0, none⟩), .pointer (some ⟨V + 1, 0, none⟩), .int .i64 n] W (DOut [(gp, partsV, 206), (V, nilsV, 128)] w0 (V + 1) r a cc bs (partStep bs n 3 y).1.2 (partStep bs n 3 y).1.1 (partStep bs n 3 y).2)) := fun W m => read4 (hdy'.out.still m) hbb'.out n (by have := hly'.out; unfold lenOk at this; simp at this; omega)
            have hw1 : IntKind.i64.wrap (n : Int) = (n : Int) := IntWalk.i64_in _ (by omega)
            clear hpr h4
            go_wp2_with fail
            refine (hcall.out _ ((Mod.refl [] wr).alloc _)).mono ?_
            rintro e w5 ⟨rfl, hd5⟩
            try dsimp only
            have hd5' := Lib.hid hd5
            clear hd5 hcall p0 p1
            have hok : (partStep bs n 3 y).2 = true := rfl
            have hn1 := Lib.hid (partRun_yes hy'.out hok)
            have hl1 : Hid (lenOk (partStep bs n 3 y).1.1 i (3 + 1)) := by
              have := hly'.out
              unfold lenOk at this
              show lenOk _ _ _
              unfold lenOk
              simp [partStep] at this ⊢
              omega
            rw [hok]
            clear hok
            generalize (partStep bs n 3 y).1 = z at *
            go_wp2_with fail
            go_roundw
            case rel => exact ⟨3 + 1, z, by omega, by rfl, hn1.out, hl1.out, hd5'.out⟩
            case measure => simp [intOf]
          have hj4 : j = 4 := by omega
          subst hj4
          have hl1 : Hid (lenOk y.1 (i + 1) 0) := by
            have := hly'.out
            unfold lenOk at this
            show lenOk _ _ _
            unfold lenOk
            simp at this ⊢
            exact this
          have hn1 := Lib.hid (verts_yes hv'.out hy'.out)
          go_wp2_with fail
          go_roundw
          case rel => exact ⟨i + 1, y, by omega, by go_num, hn1.out, hl1.out, hdy'.out⟩
          case measure => simp [intOf]; omega
      · have hin : n = i := by omega
        subst hin
        have q1 : decide ((n : Int) < (n : Int)) = false := by simp
        have q1' : decide (n < n) = false := by simp
        have hfe := hdef2.out x hv'.out
        have hfe' := Lib.hid hfe
        clear hfe hlt
        obtain ⟨vs, rows, h1, h2, h3, h4, h5⟩ := hds'.out.ex
        obtain ⟨au, cu, aw, cw, sa, cs, af, cf, e0, e1, e2, e3⟩ := h1.vals h2
        have hb := h1.has
        rw [e0, e1, e2, e3] at hb
        have d0 := hb.cell 0 rfl
        have d1 := hb.cell 1 rfl
        have d2 := hb.cell 2 rfl
        have d3 := hb.cell 3 rfl
        have dl := hb.lt
        obtain ⟨hV0, _, _⟩ := h4 (V, nilsV, 128) (by simp)
        have r0 := hV0.cell 0 rfl
        have r1 := hV0.cell 1 rfl
        have r2 := hV0.cell 2 rfl
        have r3 := hV0.cell 3 rfl
        have rf := hV0.free
        have rl := hV0.lt
        simp only at r0 r1 r2 r3 rf rl
        have hkV := Lib.hid (fun W F (m : Mod (V :: F) wr W) (hF : ∀ b ∈ F, b < w0.heap.size) => BxT.repF h1 h2 (fun i g hi hg hm => by
          rcases List.mem_cons.1 hm with e | hm
          · exact h1.res i g hi hg (by rw [e]; simp [RsX])
          · have := h3 i g hi hg; have := hF g hm; omega) (fun i x g hi hx hg hm => by
          rcases List.mem_cons.1 hm with e | hm
          · exact (h1.el i x hi hx g hg).2.1 (by rw [e]; simp [RsX])
          · have := h5 i x g hi hx hg; have := hF g hm; omega) m)
        rw [e0, e1, e2, e3] at hkV
        have hVB : V ≠ V + 1 := by omega
        have hmr : Hid (∀ W, Mod [V] wr.drew W → Mod [] w0 W) := fun W m => (hds'.out.base.trans (Mod.refl [] wr).drew (by simp)).trans m (fun b hb hlt => by rw [List.mem_singleton] at hb; omega)
        have f0 : ∀ m : Fut (Mod [V]) wr.drew, m.v.cell? ⟨V + 1, 0, none⟩ = some (.slice au x.1.up.length cu) := fun m => (hb.keep ((Mod.refl [] wr).drew.of0.trans m.of (fun b hb _ => hb)) (by simp)).cell 0 rfl
        have f1 : ∀ m : Fut (Mod [V]) wr.drew, m.v.cell? ⟨V + 1, 1, none⟩ = some (.slice aw x.1.ws.length cw) := fun m => (hb.keep ((Mod.refl [] wr).drew.of0.trans m.of (fun b hb _ => hb)) (by simp)).cell 1 rfl
        have f2 : ∀ m : Fut (Mod [V]) wr.drew, m.v.cell? ⟨V + 1, 2, none⟩ = some (.slice sa x.1.sides.length cs) := fun m => (hb.keep ((Mod.refl [] wr).drew.of0.trans m.of (fun b hb _ => hb)) (by simp)).cell 2 rfl
        have f3 : ∀ m : Fut (Mod [V]) wr.drew, m.v.cell? ⟨V + 1, 3, none⟩ = some (.slice af x.1.flows.length cf) := fun m => (hb.keep ((Mod.refl [] wr).drew.of0.trans m.of (fun b hb _ => hb)) (by simp)).cell 3 rfl
        have hV0' := Lib.hid hV0
        clear h1 h2 h3 h4 h5 e0 e1 e2 e3 hb hV0 d0 d1 d2 d3 dl r0 r1 r2 r3 rf rl
        go_wp2_with fail
        refine region_sched (G := Mod [V]) [([0,1],2), ([3],4)] [5] (by kernel_rfl) (by kernel_rfl) (by kernel_rfl) rfl (Mod.refl [V]) (trM V) ?_
        simp only [stages, pickO, nthO, headO, List.cons_append, List.nil_append]
        refine sched_step ?_
        repeat (go_big_quiet_step (fail))
        refine wpQuiet_nil ?_
        intro K' hK
        rw [if_pos (by rfl)]
        go_simp
        refine (rdEnd (hds'.out.rt.still (Mod.refl [] wr).drew)).mono ?_
        rintro e w6 ⟨rfl, hm6⟩
        try dsimp only
        refine hK.out _ _ hm6.of0 ?_
        clear hK K'
        have hV6 := hV0'.out.keep ((Mod.refl [] wr).drew.trans hm6 (by simp)) (by simp)
        have r0 := hV6.cell 0 rfl
        have r1 := hV6.cell 1 rfl
        have r2 := hV6.cell 2 rfl
        have r3 := hV6.cell 3 rfl
        have rf := hV6.free
        have rl := hV6.lt
        have hd6 : Hid (Mod [V] wr w6) := ((Mod.refl [V] wr).drew.trans hm6.of0 (fun b hb _ => hb))
        have hm6' := Lib.hid hm6
        have hm60 := Lib.hid (hmr.out w6 hm6.of0)
        clear hm6 f0 f1 f2 f3 hV6
        generalize hz : rEnd bs x.2.1 x.2.2 = z at *
        have hfin : Hid (∀ u0 u1 u2 u3, ReadOut bs w0 (.returned (.tuple #[.agg #[.slice au x.1.up.length cu, .slice aw x.1.ws.length cw, .slice sa x.1.sides.length cs, .slice af x.1.flows.length cf], .bool (z == 0)])) ((((w6.setCell ⟨V, 0, none⟩ u0).setCell ⟨V, 1, none⟩ u1).setCell ⟨V, 2, none⟩ u2).setCell ⟨V, 3, none⟩ u3)) := fun u0 u1 u2 u3 => by
          have mm : Mod [] w0 ((((w6.setCell ⟨V, 0, none⟩ u0).setCell ⟨V, 1, none⟩ u1).setCell ⟨V, 2, none⟩ u2).setCell ⟨V, 3, none⟩ u3) := (((hm60.out.setCell _ _ (fun h => by simp only at h; omega)).setCell _ _ (fun h => by simp only at h; omega)).setCell _ _ (fun h => by simp only at h; omega)).setCell _ _ (fun h => by simp only at h; omega)
          by_cases hz0 : z = 0
          · have e : decP bs = some x.1 := by rw [hfe'.out, if_pos hz0]
            unfold ReadOut
            rw [e]
            have ez : (z == 0) = true := by simp [hz0]
            rw [ez]
            exact ⟨_, _, _, _, rfl, fun W F m hF => hkV.out W F ((((((hd6.out.setCell _ _ (by simp)).setCell _ _ (by simp)).setCell _ _ (by simp)).setCell _ _ (by simp)).mono (by simp)).trans (m.mono (fun b hb => List.mem_cons_of_mem _ hb)) (fun b hb _ => hb)) hF, mm⟩
          · have e : decP bs = none := by rw [hfe'.out, if_neg hz0]
            have ez : (z == 0) = false := by simpa using hz0
            rw [ez]
            exact hout.out _ e _ ⟨_, _, _, _, _, _, _, _, _, _, _, _, rfl⟩ mm
        clear hz
        refine sched_step ?_
        repeat (go_big_quiet_step (fail))
        refine wpQuiet_nil ?_
        intro K' hK
        rw [if_pos (by rfl)]
        go_simp
        refine hK.out _ _ (((((Mod.refl [V] w6).setCell _ _ (by simp)).setCell _ _ (by simp)).setCell _ _ (by simp)).setCell _ _ (by simp)) ?_
        clear hK K'
        refine sched_last ?_
        repeat (go_big_quiet_step (fail))
        refine wpQuiet_nil ?_
        go_wp2_with fail
        refine bodyPost_ret (v := .tuple #[.agg #[.slice au x.1.up.length cu, .slice aw x.1.ws.length cw, .slice sa x.1.sides.length cs, .slice af x.1.flows.length cf], .bool (z == 0)]) (by simp [results, Try.results156, go_sem, r0, r1, r2, r3, rl]) rfl (hfin.out _ _ _ _)
end Code.Cert
end Go.Proofs.Ytmkbinbggiocaaa

set_option linter.unusedVariables false
set_option linter.unusedSimpArgs false
namespace Go.Proofs.Ytmkbinbggiocaaa
open Go.RowKit
namespace Code.Cert
def nilA : Value := .agg #[.slice none 0 0, .slice none 0 0, .slice none 0 0, .slice none 0 0]
def DecOut (bs : List Int) (w : World) (e : Ending) (w' : World) : Prop :=
  match decP bs with
  | some c => ∃ vu vw vs vf, e = .returned (.tuple #[.agg #[vu, vw, vs, vf], .int .i64 0]) ∧ CRep w' vu vw vs vf c ∧ Mod [] w w'
  | none => e = .returned (.tuple #[nilA, .int .i64 17]) ∧ Mod [] w w'
set_option maxRecDepth 100000 in
set_option maxHeartbeats 8000000 in
theorem decode_any {w : World} {vb : Value} {bs : List Int} (hb : Rd w 1 vb bs.length (u8s bs)) (hbb : ∀ x ∈ bs, 0 ≤ x ∧ x < 256) (hlen : bs.length ≤ 1000000) :
    Calls Try.prog 93 #[vb] w (DecOut bs w) := by
  obtain ⟨wb, hwb⟩ : ∃ wb, wb = w.alloc (.cells #[.slice none 0 0, .slice none 0 0, .slice none 0 0, .slice none 0 0] 128) := ⟨_, rfl⟩
  obtain ⟨V, hV⟩ : ∃ V, V = w.heap.size := ⟨_, rfl⟩
  have hmw : Mod [] w wb := by rw [hwb]; exact (Mod.refl [] w).alloc _
  have hres : Has wb V nilsV 128 := by rw [hwb, hV]; exact Has.new w _ _
  have hnew := Lib.hid (new_any (hb.still hmw) hlen)
  have hmw' := Lib.hid hmw
  have hres' := Lib.hid hres
  have hwb' := Lib.hid hwb
  have hV' := Lib.hid hV
  have hbb' := Lib.hid hbb
  clear hb hbb hmw hres hwb hV
  go_enter Try.func93, Try.ntmps93
  go_wp2_with fail
  rw [← hV'.out, ← hwb'.out]
  refine hnew.out.mono ?_
  rintro e w1 ⟨r, a, cc, rfl, hR, hm, hr, ha⟩
  try dsimp only
  have hread := Lib.hid (read_any (w0 := wb) hR hm hr ha hbb'.out)
  clear hR hm hr ha hnew
  go_wp2_with fail
  refine hread.out.mono ?_
  intro e w2 he
  unfold ReadOut at he
  cases hdp : decP bs with
  | none =>
    rw [hdp] at he
    obtain ⟨v, ⟨a1, n1, c1, a2, n2, c2, a3, n3, c3, a4, n4, c4, rfl⟩, rfl, hm2⟩ := he
    have mm := hmw'.out.trans hm2 (by simp)
    have hV2 := hres'.out.keep hm2 (by simp)
    have r0 := hV2.cell 0 rfl
    have r1 := hV2.cell 1 rfl
    have r2 := hV2.cell 2 rfl
    have r3 := hV2.cell 3 rfl
    have rf := hV2.free
    have rl := hV2.lt
    have hf : Hid (∀ o u0 u1 u2 u3, DecOut bs w (.returned (.tuple #[nilA, .int .i64 17])) (((((w2.setCell ⟨V, 0, none⟩ u0).setCell ⟨V, 1, none⟩ u1).setCell ⟨V, 2, none⟩ u2).setCell ⟨V, 3, none⟩ u3).alloc o)) := fun o u0 u1 u2 u3 => by
      have hv := hV'.out
      unfold DecOut
      rw [hdp]
      exact ⟨rfl, ((((mm.setCell _ _ (fun h => by simp only at h; omega)).setCell _ _ (fun h => by simp only at h; omega)).setCell _ _ (fun h => by simp only at h; omega)).setCell _ _ (fun h => by simp only at h; omega)).alloc o⟩
    clear hdp hm2 mm hV2 hread
    try dsimp only
    go_wp2_with fail
    exact bodyPost_ret (v := .tuple #[nilA, .int .i64 17]) (by simp [results, Try.results93, go_sem, r0, r1, r2, r3, rl, nilA]) rfl (hf.out _ _ _ _ _)
  | some c =>
    rw [hdp] at he
    obtain ⟨vu, vw, vs, vf, rfl, hrep, hm2⟩ := he
    have hr0 := hrep w2 [] (Mod.refl _ _) (by simp)
    obtain ⟨au, cu, aw, cw, sa, cs, af, cf, rfl, rfl, rfl, rfl⟩ := hr0.vals
    have mm := hmw'.out.trans hm2 (by simp)
    have hV2 := hres'.out.keep hm2 (by simp)
    have r0 := hV2.cell 0 rfl
    have r1 := hV2.cell 1 rfl
    have r2 := hV2.cell 2 rfl
    have r3 := hV2.cell 3 rfl
    have rf := hV2.free
    have rl := hV2.lt
    have hf : Hid (∀ o u0 u1 u2 u3, DecOut bs w (.returned (.tuple #[.agg #[.slice au c.up.length cu, .slice aw c.ws.length cw, .slice sa c.sides.length cs, .slice af c.flows.length cf], .int .i64 0])) (((((w2.setCell ⟨V, 0, none⟩ u0).setCell ⟨V, 1, none⟩ u1).setCell ⟨V, 2, none⟩ u2).setCell ⟨V, 3, none⟩ u3).alloc o)) := fun o u0 u1 u2 u3 => by
      have hv := hV'.out
      unfold DecOut
      rw [hdp]
      have mV : Mod [V] w2 (((((w2.setCell ⟨V, 0, none⟩ u0).setCell ⟨V, 1, none⟩ u1).setCell ⟨V, 2, none⟩ u2).setCell ⟨V, 3, none⟩ u3).alloc o) := (((((Mod.refl [V] w2).setCell _ _ (by simp)).setCell _ _ (by simp)).setCell _ _ (by simp)).setCell _ _ (by simp)).alloc o
      exact ⟨_, _, _, _, rfl, hrep _ [V] mV (fun b hb => by rw [List.mem_singleton] at hb; subst hb; exact hres'.out.lt), ((((mm.setCell _ _ (fun h => by simp only at h; omega)).setCell _ _ (fun h => by simp only at h; omega)).setCell _ _ (fun h => by simp only at h; omega)).setCell _ _ (fun h => by simp only at h; omega)).alloc o⟩
    clear hdp hm2 mm hV2 hread hrep hr0
    try dsimp only
    go_wp2_with fail
    exact bodyPost_ret (v := .tuple #[.agg #[.slice au c.up.length cu, .slice aw c.ws.length cw, .slice sa c.sides.length cs, .slice af c.flows.length cf], .int .i64 0]) (by simp [results, Try.results93, go_sem, r0, r1, r2, r3, rl]) rfl (hf.out _ _ _ _ _)
end Code.Cert
end Go.Proofs.Ytmkbinbggiocaaa

set_option linter.unusedVariables false
set_option linter.unusedSimpArgs false
namespace Go.Proofs.Ytmkbinbggiocaaa
open Go.RowKit
namespace Code.Cert
theorem none_right : rightB noneC = true := by decide
theorem none_enc : encB noneC = [71, 72, 67, 49, 0] := by
  simp [encB, encTo, noneC, headB, natB_small]
theorem head_dec : decP headB = none := by decide
theorem none_rep (w : World) : CRep w (.slice none 0 0) (.slice none 0 0) (.slice none 0 0) (.slice none 0 0) noneC := ⟨Rd.nil w 1, Rd.nil w 1, RdR.nil w, RdR.nil w⟩
theorem none_fits : Fits noneC := ⟨by simp [noneC], by simp [noneC]⟩
set_option maxRecDepth 100000 in
set_option maxHeartbeats 4000000 in
theorem awake_cert (w : World) : Calls Try.prog 86 #[] w (BoolM true w) := by
  have h1 := (encode_any noneC (none_rep w) none_fits).mono fun e w' h => show ∃ a cp, e = .returned (.tuple #[.slice a 5 cp, .int .i64 0]) ∧ Made w w' 5 1 a 5 cp (u8s [71, 72, 67, 49, 0]) by
    unfold EncOut at h
    rw [none_right, none_enc] at h
    simpa using h
  have h1' := Lib.hid h1
  clear h1
  have kc := fun (w : World) (C : Array Value) (n c : Nat) => Lib.run_convert_bytes_const (P := Try.prog) w 45 5 C n c Try.underlying45 Try.underlying5
  go_enter Try.func86, Try.ntmps86
  go_wp2_with fail
  refine h1'.out.mono ?_
  rintro e w1 ⟨a1, c1, rfl, hm1⟩
  try dsimp only
  have hm1' := Lib.hid hm1
  clear hm1 h1'
  go_wp2_with fail
  have hrc := rd_const w1 headB (4, 5) (by decide)
  have hdec := (decode_any (bs := headB) hrc (by decide) (by decide)).mono fun e w' h => show e = .returned (.tuple #[nilA, .int .i64 17]) ∧ Mod [] (w1.alloc (.cells (u8s headB).toArray 5 (4, 5))) w' by
    unfold DecOut at h
    rw [head_dec] at h
    exact h
  refine hdec.mono ?_
  rintro e w2 ⟨rfl, hm2⟩
  try dsimp only
  have hm2' := Lib.hid (((Mod.refl [] w1).alloc (.cells (u8s headB).toArray 5 (4, 5))).trans hm2 (by simp))
  clear hm2 hdec hrc kc
  have hcv : ∀ m : World, Mod [] w2 m → (convert 45 9 (.slice a1 5 c1)).run Try.prog m = .ok (.string (strOfNums [71, 72, 67, 49, 0])) m := fun m hm => conv_rd (bs := [71, 72, 67, 49, 0]) ((Rd.own hm1'.out.own).still (hm2'.out.trans hm (by simp)))
  have hcv' := Lib.hid hcv
  clear hcv
  have hstr : strOfNums [71, 72, 67, 49, 0] = ⟨#[71, 72, 67, 49, 0]⟩ := by decide
  rw [hstr] at hcv'
  clear hstr
  unfold nilA
  have hc2 := fun o => hcv'.out (w2.alloc o) ((Mod.refl [] w2).alloc o)
  go_wp2_with fail
  have hr := (right_prog noneC (none_rep (w2.alloc (.cells #[.slice none 0 0, .slice none 0 0, .slice none 0 0, .slice none 0 0] 128)))).mono fun e w' h => show e = .returned (.bool true) ∧ Mod [] (w2.alloc (.cells #[.slice none 0 0, .slice none 0 0, .slice none 0 0, .slice none 0 0] 128)) w' by rw [none_right] at h; exact h
  refine hr.mono ?_
  rintro e w3 ⟨rfl, hm3⟩
  try dsimp only
  have hf := Lib.hid ((hm1'.out.mod.trans hm2'.out (by simp)).trans (((Mod.refl [] w2).alloc (.cells #[.slice none 0 0, .slice none 0 0, .slice none 0 0, .slice none 0 0] 128)).trans hm3 (by simp)) (by simp))
  clear hc2 hm3 hr
  go_wp2_with fail
  go_ret
  exact ⟨rfl, hf.out⟩
/-- What Encode answers, in one form. -/
def encE (c : CertV) : List Int := if rightB c then encB c else []
def encC (c : CertV) : Int := if rightB c then 0 else 1
theorem encode_one {w : World} {vu vw vs vf : Value} (c : CertV) (h : CRep w vu vw vs vf c) (hf : Fits c) :
    Calls Try.prog 87 #[.agg #[vu, vw, vs, vf]] w fun e w' => ∃ a cp, e = .returned (.tuple #[.slice a (encE c).length cp, .int .i64 (encC c)]) ∧ Mod [] w w' ∧ Rd w' 1 (.slice a (encE c).length cp) (encE c).length (u8s (encE c)) := by
  refine (encode_any c h hf).mono fun e w' he => ?_
  unfold EncOut at he
  unfold encE encC
  cases hr : rightB c with
  | true =>
    rw [hr] at he
    obtain ⟨a, cp, he, hm⟩ := he
    exact ⟨a, cp, he, hm.mod, Rd.own hm.own⟩
  | false =>
    rw [hr] at he
    obtain ⟨he, hm⟩ := he
    exact ⟨none, 0, he, hm, Rd.nil _ _⟩
theorem rencode_one {w : World} {vu vw vs vf : Value} (c : CertV) (h : CRep w vu vw vs vf c) (hf : Fits c) :
    Calls Try.prog 88 #[.agg #[vu, vw, vs, vf]] w fun e w' => ∃ a cp, e = .returned (.agg #[.slice a (encE c).length cp, .int .i64 (encC c)]) ∧ Mod [] w w' ∧ Rd w' 1 (.slice a (encE c).length cp) (encE c).length (u8s (encE c)) := by
  refine (rencode_any c h hf).mono fun e w' he => ?_
  unfold REncOut at he
  unfold encE encC
  cases hr : rightB c with
  | true =>
    rw [hr] at he
    obtain ⟨a, cp, he, hm⟩ := he
    exact ⟨a, cp, he, hm.mod, Rd.own hm.own⟩
  | false =>
    rw [hr] at he
    obtain ⟨he, hm⟩ := he
    exact ⟨none, 0, he, hm, Rd.nil _ _⟩
/-- All numbers go into 64 bits. -/
structure Bnd (c : CertV) : Prop where
  fl : ∀ l ∈ c.flows, ∀ x ∈ l, -9223372036854775808 ≤ x ∧ x ≤ 9223372036854775807
  ws : ∀ x ∈ c.ws, -9223372036854775808 ≤ x ∧ x ≤ 9223372036854775807
theorem Bnd.fits {c : CertV} (h : Bnd c) (hw : wideB c = false) : Fits c :=
  ⟨fun l hl => ⟨by have := (wide_no hw).2.2.2.2.2 l hl; omega, h.fl l hl⟩, h.ws⟩
theorem same_refl (c : CertV) : sameC c c = true := by simp [sameC, eqI, eqR]
end Code.Cert
end Go.Proofs.Ytmkbinbggiocaaa

set_option linter.unusedVariables false
set_option linter.unusedSimpArgs false
namespace Go.Proofs.Ytmkbinbggiocaaa
open Go.ChangeShapes Go.WideShapes Go.ChangeAt Go.RowKit Go.Deep
section
variable {H : Type} {enc : TypeId × Value → H} {w : World} {spare : Nat → Bool} {held : Bool}
theorem slice_form {t e : Nat} (ht : Try.prog.underlying t = some (.slice e)) {fuel : Nat} {cs : List Value} {x : DataW H × List MemPlace} (h : DataW.trod enc Try.prog w 0 spare held fuel t cs = some x) : ∃ a n c, cs = [.slice a n c] := by
  rcases DataW.trod_slice ht h with ⟨h0, _⟩ | ⟨a, len, cap, _, _, _, _, hcs, _⟩
  · exact ⟨none, 0, 0, h0⟩
  · exact ⟨some a, len, cap, hcs⟩
theorem elem_nums {t e : Nat} (ht : Try.prog.underlying t = some (.slice e)) (he : Try.prog.underlying e = some (.int .i64)) (hC : Try.prog.cellsOf e = 1) :
    ∀ n cs (d : DataW H) p, DataW.trod enc Try.prog w 0 spare held n t cs = some (d, p) → ∃ x : Value × List Int, cs = [x.1] ∧ (Rd w 1 x.1 x.2.length (x.2.map fun y => .int .i64 y) ∧ ∀ y ∈ x.2, (Lit.int .i64 y).wf = true) := by
  intro n cs d p h
  obtain ⟨a, m, c, rfl⟩ := slice_form ht h
  obtain ⟨l, h1, h2⟩ := open_nums ht he hC h
  exact ⟨(_, l), rfl, h1, h2⟩
theorem flat_fst (l : List (Value × List Int)) : flat (fun x : Value × List Int => [x.1]) l = l.map (·.1) := by
  induction l with
  | nil => rfl
  | cons y l ih => simp only [flat, List.flatMap_cons, List.map_cons] at ih ⊢; rw [ih]; rfl
theorem open_rows {tt t e : Nat} (htt : Try.prog.underlying tt = some (.slice t)) (ht : Try.prog.underlying t = some (.slice e)) (he : Try.prog.underlying e = some (.int .i64)) (hC : Try.prog.cellsOf e = 1) (hCt : Try.prog.cellsOf t = 1) {fuel : Nat} {v : Value} {x : DataW H × List MemPlace}
    (h : DataW.trod enc Try.prog w 0 spare held fuel tt [v] = some x) : ∃ ls : List (List Int), Code.Cert.RdR w v ls ∧ ∀ l ∈ ls, ∀ y ∈ l, (Lit.int .i64 y).wf = true := by
  obtain ⟨a, n, c, hv⟩ := slice_form htt h
  simp only [List.cons.injEq, and_true] at hv
  subst hv
  obtain ⟨l, hl, hr, hp⟩ := open_rd (α := Value × List Int) (encE := fun x => [x.1]) (size := 1) (fun _ => rfl) (by omega) htt hCt (elem_nums ht he hC) h
  rw [flat_fst] at hr
  refine ⟨l.map (·.2), ⟨l.map (·.1), by simp, ?_, fun i x m hx hm => ?_⟩, fun m hm y hy => ?_⟩
  · rw [List.length_map, hl]; exact hr
  · rw [List.getElem?_map] at hx hm
    cases hi : l[i]? with
    | none => rw [hi] at hx; simp at hx
    | some q =>
      rw [hi] at hx hm
      simp only [Option.map_some, Option.some.injEq] at hx hm
      subst hx hm
      exact (hp q (List.mem_of_getElem? hi)).1
  · rw [List.mem_map] at hm
    obtain ⟨q, hq, rfl⟩ := hm
    exact (hp q hq).2 y hy
theorem list4 {l : List Value} (h : l.length = 4) : ∃ a b c d, l = [a, b, c, d] := by
  match l, h with
  | [a, b, c, d], _ => exact ⟨a, b, c, d, rfl⟩
theorem open_cert {v : Value} (hval : ∃ cs, v = .agg cs) {d : DataW H} {p : List MemPlace} (h : DataW.Trod enc Try.prog w 0 spare held 128 v d p) :
    ∃ (vu vw vs vf : Value) (c : Code.Cert.CertV), v = .agg #[vu, vw, vs, vf] ∧ Code.Cert.CRep w vu vw vs vf c ∧ Code.Cert.Bnd c := by
  obtain ⟨cs, rfl, fuel, hf⟩ := open_agg Try.underlying128 hval h
  have e4 : Try.prog.cellsOf 128 = 4 := by kernel_rfl
  have e2 : Try.prog.cellsOf 124 = 2 := by kernel_rfl
  have e1 : Try.prog.cellsOf 125 = 1 := by kernel_rfl
  have e1' : Try.prog.cellsOf 126 = 1 := by kernel_rfl
  obtain ⟨xs, n, _, _, hlen, hxl, hfs⟩ := DataW.trod_struct Try.underlying128 hf
  rw [e4] at hlen
  obtain ⟨vu, vw, vs, vf, rfl⟩ := list4 hlen
  have f0 := hfs 0 _ rfl
  have f1 := hfs 1 _ rfl
  have f2 := hfs 2 _ rfl
  change DataW.trod enc Try.prog w 0 spare held n 124 (([vu, vw, vs, vf].drop 0).take (Try.prog.cellsOf 124)) = _ at f0
  change DataW.trod enc Try.prog w 0 spare held n 125 (([vu, vw, vs, vf].drop 2).take (Try.prog.cellsOf 125)) = _ at f1
  change DataW.trod enc Try.prog w 0 spare held n 126 (([vu, vw, vs, vf].drop 3).take (Try.prog.cellsOf 126)) = _ at f2
  rw [e2] at f0
  rw [e1] at f1
  rw [e1'] at f2
  simp only [List.drop_zero, List.take_succ_cons, List.take_zero, List.drop_succ_cons] at f0 f1 f2
  have g0 : ∃ y, xs[0]? = some y := ⟨_, List.getElem?_eq_getElem (by rw [hxl]; decide)⟩
  have g1 : ∃ y, xs[1]? = some y := ⟨_, List.getElem?_eq_getElem (by rw [hxl]; decide)⟩
  have g2 : ∃ y, xs[2]? = some y := ⟨_, List.getElem?_eq_getElem (by rw [hxl]; decide)⟩
  obtain ⟨y0, g0⟩ := g0
  obtain ⟨y1, g1⟩ := g1
  obtain ⟨y2, g2⟩ := g2
  rw [g0] at f0
  rw [g1] at f1
  rw [g2] at f2
  obtain ⟨_, ft⟩ := fields_of Try.underlying124 (by kernel_rfl) (by kernel_rfl) f0
  obtain ⟨t0, z0, m0, q0, p0⟩ := ft 0 _ rfl
  obtain ⟨t1, z1, m1, q1, p1⟩ := ft 1 _ rfl
  simp only [List.getElem?_cons_zero, List.getElem?_cons_succ, Option.some.injEq] at q0 q1
  subst q0 q1
  obtain ⟨up, u1, u2⟩ := open_nums Try.underlying36 Try.underlying3 (by kernel_rfl) p0
  obtain ⟨ws, w1, w2⟩ := open_nums Try.underlying46 Try.underlying2 (by kernel_rfl) p1
  obtain ⟨sides, s1, s2⟩ := open_rows Try.underlying125 Try.underlying36 Try.underlying3 (by kernel_rfl) (by kernel_rfl) f1
  obtain ⟨flows, l1, l2⟩ := open_rows Try.underlying126 Try.underlying46 Try.underlying2 (by kernel_rfl) (by kernel_rfl) f2
  exact ⟨vu, vw, vs, vf, ⟨up, ws, sides, flows⟩, rfl, ⟨u1, w1, s1, l1⟩, ⟨fun l hl x hx => wf64 (l2 l hl x hx), fun x hx => wf64 (w2 x hx)⟩⟩
end
end Go.Proofs.Ytmkbinbggiocaaa
