/- Sets as bytes, read back: the plain law. An arena as a plain thing: of each number that was ever given what is in it, and the numbers that are free; how the program's cells tell it. What the calls on an arena of whole numbers do: walked through once, told of the plain arena. What the calls on an arena of whole numbers do, part 2: At, Set, Free, Give, Len, Room, New. What the calls on an arena of whole numbers do, part 3: Give, Len, Room, New. What the calls on the reference's arena do, told of the plain arena. What the calls on the reference's arena do, part 2: Set, Drop, Give. What the calls on the reference's arena do, part 3: Give. -/
import Derived.WalkKit
import Derived.Test.YtmkbinbggiocaaaMRowCertReads0
set_option linter.unusedVariables false
set_option linter.unusedSimpArgs false
namespace Go.Proofs.Ytmkbinbggiocaaa
open Go.RowKit
namespace Code
/-- The bits of a byte, the lowest first. -/
def low (b : Nat) : List Nat := (List.range 8).filter fun k => b.testBit k
def setFrom : Nat → List Int → List Int
  | _, [] => []
  | i, x :: r => (low x.toNat).map (fun k => ((8 * i + k : Nat) : Int)) ++ setFrom (i + 1) r
theorem setFrom_append : ∀ (l m : List Int) (i : Nat), setFrom i (l ++ m) = setFrom i l ++ setFrom (i + l.length) m
  | [], m, i => by simp [setFrom]
  | x :: l, m, i => by
    rw [List.cons_append, setFrom, setFrom, setFrom_append l m (i + 1), List.append_assoc, List.length_cons]
    congr 3
    omega
theorem low_zero : low 0 = [] := by decide
theorem setFrom_zero : ∀ (l : List Int) (i : Nat), (∀ x ∈ l, x = 0) → setFrom i l = []
  | [], _, _ => rfl
  | x :: l, i, h => by
    rw [setFrom, h x (by simp), setFrom_zero l (i + 1) (fun y hy => h y (by simp [hy]))]
    simp [low_zero]
theorem low_add (b k : Nat) (hk : k < 8) (hb : b < 2 ^ k) : low (b + 2 ^ k) = low b ++ [k] := by
  have h : ∀ k : Fin 8, ∀ b : Fin 128, b.val < 2 ^ k.val → low (b.val + 2 ^ k.val) = low b.val ++ [k.val] := by decide +kernel
  have h2 : b < 128 := Nat.lt_of_lt_of_le hb (by
    calc 2 ^ k ≤ 2 ^ 7 := Nat.pow_le_pow_right (by omega) (by omega)
      _ = 128 := rfl)
  exact h ⟨k, hk⟩ ⟨b, h2⟩ hb
theorem low_and (b : Nat) (h0 : 0 < b) (h1 : b < 256) : ∃ k, low b = k :: low (b &&& (b - 1)) ∧ k < 8 ∧ (low b).head? = some k ∧ (b &&& (b - 1)) < b := by
  have h : ∀ b : Fin 256, 0 < b.val → ((low b.val).head?.isSome ∧ low b.val = (low b.val).head?.getD 0 :: low (b.val &&& (b.val - 1)) ∧ (low b.val).head?.getD 0 < 8 ∧ (b.val &&& (b.val - 1)) < b.val) := by decide +kernel
  obtain ⟨a1, a2, a3, a4⟩ := h ⟨b, h1⟩ h0
  simp only at a1 a2 a3 a4
  obtain ⟨k, hk⟩ := Option.isSome_iff_exists.1 a1
  rw [hk] at a2 a3
  exact ⟨k, a2, a3, hk, a4⟩
theorem setFrom_set (xs : List Int) (j b k : Nat) (hj : xs[j]? = some (b : Int)) (hz : ∀ i x, j < i → xs[i]? = some x → x = 0) (hk : k < 8) (hb : b < 2 ^ k) :
    setFrom 0 (xs.set j ((b + 2 ^ k : Nat) : Int)) = setFrom 0 xs ++ [((8 * j + k : Nat) : Int)] := by
  have hl : j < xs.length := (List.getElem?_eq_some_iff.1 hj).1
  have e : xs = xs.take j ++ (b : Int) :: xs.drop (j + 1) := by
    have h1 : xs.drop j = (b : Int) :: xs.drop (j + 1) := by
      rw [List.drop_eq_getElem_cons hl]; congr 1; rw [List.getElem?_eq_getElem hl] at hj; simpa using hj
    rw [← h1, List.take_append_drop]
  have e2 : xs.set j ((b + 2 ^ k : Nat) : Int) = xs.take j ++ ((b + 2 ^ k : Nat) : Int) :: xs.drop (j + 1) := List.set_eq_take_append_cons_drop ▸ by rw [if_pos hl]
  have hdz : ∀ x ∈ xs.drop (j + 1), x = 0 := by
    intro x hx
    obtain ⟨i, hi⟩ := List.getElem?_of_mem hx
    rw [List.getElem?_drop] at hi
    exact hz (j + 1 + i) x (by omega) hi
  have htl : (xs.take j).length = j := by rw [List.length_take]; omega
  rw [e2, setFrom_append]
  conv => rhs; rw [e, setFrom_append]
  rw [setFrom, setFrom, setFrom_zero _ _ hdz, htl]
  simp only [Int.toNat_natCast, Nat.zero_add, List.append_nil, low_add b k hk hb, List.map_append, List.append_assoc, List.map_cons, List.map_nil]
/-- What was put is what is read. -/
theorem setFrom_bitsB (m : Nat) (l : List Int) (hr : Rising l) (h0 : ∀ x ∈ l, 0 ≤ x ∧ (x / 8).toNat < m) : ∀ k, k ≤ l.length → setFrom 0 (bitsB m (l.take k)) = l.take k
  | 0, _ => by
    rw [List.take_zero, bitsB_nil]
    exact setFrom_zero _ _ (fun x hx => (List.mem_replicate.1 hx).2)
  | k + 1, hk => by
    obtain ⟨v, hv⟩ : ∃ v, l[k]? = some v := ⟨l[k], List.getElem?_eq_getElem (by omega)⟩
    have hv0 := h0 v (List.mem_of_getElem? hv)
    have e : l.take (k + 1) = l.take k ++ [v] := by rw [List.take_add_one, hv]; rfl
    have hlow := byteAt_lt hr (fun x hx => (h0 x hx).1) k v hv0.1 (fun i x hi hx => hr i k x v hx hv hi)
    rw [e, bitsB_snoc m _ v hv0.1 hv0.2]
    have hs := setFrom_set (bitsB m (l.take k)) (v / 8).toNat (byteAt (l.take k) (v / 8).toNat) (v % 8).toNat (bitsB_get _ _ _ hv0.2) (fun i x hi hx => by
      have him : i < m := by
        have := (List.getElem?_eq_some_iff.1 hx).1
        rwa [bitsB_len] at this
      rw [bitsB_get m _ i him] at hx
      simp only [Option.some.injEq] at hx
      subst hx
      have : byteAt (l.take k) i = 0 := by
        unfold byteAt
        have : (l.take k).filter (fun u => decide (u / 8 = (i : Int))) = [] := by
          rw [List.filter_eq_nil_iff]
          intro u hu
          obtain ⟨q, hq⟩ := List.getElem?_of_mem hu
          have hq1 : q < k := by
            have := (List.getElem?_eq_some_iff.1 hq).1
            rw [List.length_take] at this; omega
          rw [List.getElem?_take, if_pos hq1] at hq
          have h1 := hr q k u v hq hv hq1
          have h2 := h0 u (List.mem_of_getElem? hq)
          simp only [decide_eq_true_eq]
          omega
        rw [this]; rfl
      simp [this]) (by omega) hlow
    unfold bit
    rw [hs, setFrom_bitsB m l hr h0 k (by omega)]
    congr 2
    omega
end Code
end Go.Proofs.Ytmkbinbggiocaaa

set_option linter.unusedVariables false
set_option linter.unusedSimpArgs false
namespace Go.Proofs.Ytmkbinbggiocaaa
namespace Arena

structure Ar (E : Type) where
  room : Nat
  cells : List (Option E)
  free : List Nat

variable {E : Type}
abbrev RC (E : Type) := E × Bool × Int

def Chain (z : E) (C : List (RC E)) : Int → List Nat → Prop
  | h, [] => h = -1
  | h, i :: l => h = (i : Int) ∧ ∃ nx, C[i]? = some (z, false, nx) ∧ Chain z C nx l

structure Fits (z : E) (A : Ar E) (C : List (RC E)) (f : Int) : Prop where
  len : C.length = A.cells.length
  fits : A.cells.length ≤ A.room
  most : A.room ≤ 1048576
  live : ∀ (i : Nat) (x : E), A.cells[i]? = some (some x) → C[i]? = some (x, true, 0)
  dead : ∀ i : Nat, A.cells[i]? = some none ↔ i ∈ A.free
  nodup : A.free.Nodup
  chain : Chain z C f A.free

def Ar.count (A : Ar E) : Nat := A.cells.length - A.free.length
def Ar.get (A : Ar E) (i : Int) : Option E := if 0 ≤ i then (A.cells[i.toNat]?).join else none
def Ar.give (A : Ar E) (x : E) : Ar E × Option Nat :=
  match A.free with
  | i :: l => ({ A with cells := A.cells.set i (some x), free := l }, some i)
  | [] => if A.cells.length < A.room then ({ A with cells := A.cells ++ [some x] }, some A.cells.length) else (A, none)
def Ar.put (A : Ar E) (i : Nat) (x : E) : Ar E := { A with cells := A.cells.set i (some x) }
def Ar.drop (A : Ar E) (i : Nat) : Ar E := { A with cells := A.cells.set i none, free := i :: A.free }

theorem Chain.keep {z : E} {C : List (RC E)} {l : List Nat} : ∀ {h : Int}, Chain z C h l → ∀ (k : Nat) (c : RC E), k ∉ l → Chain z (C.set k c) h l := by
  induction l with
  | nil => intro h hc k c _; exact hc
  | cons i l ih =>
    intro h hc k c hk
    obtain ⟨e, nx, hi, hr⟩ := hc
    simp only [List.mem_cons, not_or] at hk
    exact ⟨e, nx, by rw [List.getElem?_set_ne hk.1]; exact hi, ih hr k c hk.2⟩
theorem Chain.snoc {z : E} {C : List (RC E)} {l : List Nat} (c : RC E) : ∀ {h : Int}, Chain z C h l → Chain z (C ++ [c]) h l := by
  induction l with
  | nil => intro h hc; exact hc
  | cons i l ih =>
    intro h hc
    obtain ⟨e, nx, hi, hr⟩ := hc
    refine ⟨e, nx, ?_, ih hr⟩
    have := (List.getElem?_eq_some_iff.1 hi).1
    rw [List.getElem?_append_left this]; exact hi
theorem Fits.free_lt {z : E} {A : Ar E} {C : List (RC E)} {f : Int} (h : Fits z A C f) {i : Nat} (hi : i ∈ A.free) : i < A.cells.length :=
  (List.getElem?_eq_some_iff.1 ((h.dead i).2 hi)).1
theorem nodup_le (n : Nat) : ∀ (l : List Nat), l.Nodup → (∀ i ∈ l, i < n) → l.length ≤ n := by
  induction n with
  | zero =>
    intro l _ hb
    cases l with
    | nil => simp
    | cons a l => exact absurd (hb a (by simp)) (by omega)
  | succ n ih =>
    intro l hn hb
    by_cases hm : n ∈ l
    · have h1 := ih (l.erase n) (hn.erase n) (fun i hi => by
        have h2 := (hn.mem_erase_iff).1 hi
        have h3 := hb i h2.2
        have h4 := h2.1
        omega)
      rw [List.length_erase_of_mem hm] at h1
      omega
    · have h1 := ih l hn (fun i hi => by
        have h3 := hb i hi
        have h4 : i ≠ n := fun e => hm (e ▸ hi)
        omega)
      omega
theorem Fits.free_le {z : E} {A : Ar E} {C : List (RC E)} {f : Int} (h : Fits z A C f) : A.free.length ≤ A.cells.length :=
  nodup_le _ _ h.nodup fun _ hi => h.free_lt hi
theorem Fits.head {z : E} {A : Ar E} {C : List (RC E)} {f : Int} (h : Fits z A C f) {i : Nat} {l : List Nat} (e : A.free = i :: l) :
    f = (i : Int) ∧ i < A.cells.length ∧ ∃ nx, C[i]? = some (z, false, nx) ∧ Chain z C nx l := by
  have hc := h.chain
  rw [e] at hc
  exact ⟨hc.1, h.free_lt (by rw [e]; simp), hc.2⟩
theorem Fits.new {z : E} {A : Ar E} {C : List (RC E)} {f : Int} (h : Fits z A C f) (e : A.free = []) (hr : A.cells.length < A.room) (x : E) :
    Fits z { A with cells := A.cells ++ [some x] } (C ++ [(x, true, 0)]) f where
  len := by simp [h.len]
  fits := by simp; omega
  most := h.most
  live := by
    intro i y hy
    by_cases hi : i < A.cells.length
    · rw [List.getElem?_append_left hi] at hy
      rw [List.getElem?_append_left (by rw [h.len]; exact hi)]
      exact h.live i y hy
    · rw [List.getElem?_append_right (by omega)] at hy
      rw [List.getElem?_append_right (by rw [h.len]; omega), h.len]
      obtain ⟨hlt, _⟩ := List.getElem?_eq_some_iff.1 hy
      have : i - A.cells.length = 0 := by simp at hlt; omega
      rw [this] at hy ⊢
      simp at hy
      simp [hy]
  dead := by
    intro i
    rw [← h.dead i]
    by_cases hi : i < A.cells.length
    · simp only [List.getElem?_append_left hi]
    · have e1 : A.cells[i]? = none := by simp; omega
      rw [e1]
      constructor
      · intro hy
        simp only at hy
        rw [List.getElem?_append_right (by omega)] at hy
        obtain ⟨hlt, hv⟩ := List.getElem?_eq_some_iff.1 hy
        simp at hv
      · intro hy; cases hy
  nodup := h.nodup
  chain := h.chain.snoc _
theorem get_set_some {β : Type} (l : List β) (k i : Nat) (v u : β) (h : (l.set k v)[i]? = some u) : (i = k ∧ u = v ∧ k < l.length) ∨ (i ≠ k ∧ l[i]? = some u) := by
  by_cases e : k = i
  · subst e
    rw [List.getElem?_set_self'] at h
    cases hk : l[k]? with
    | none => simp [hk] at h
    | some b => simp [hk] at h; exact .inl ⟨rfl, h.symm, (List.getElem?_eq_some_iff.1 hk).1⟩
  · rw [List.getElem?_set_ne e] at h
    exact .inr ⟨fun e' => e e'.symm, h⟩
theorem Fits.old {z : E} {A : Ar E} {C : List (RC E)} {f nx : Int} (h : Fits z A C f) {i : Nat} {l : List Nat} (e : A.free = i :: l) (hi : C[i]? = some (z, false, nx)) (x : E) :
    Fits z { A with cells := A.cells.set i (some x), free := l } (C.set i (x, true, 0)) nx := by
  obtain ⟨_, hlt, nx', hi', hch⟩ := h.head e
  have hnx : nx' = nx := by rw [hi] at hi'; simp at hi'; exact hi'.symm
  subst hnx
  have hnd := h.nodup
  rw [e] at hnd
  have hil : i ∉ l := (List.nodup_cons.1 hnd).1
  exact {
    len := by simp [h.len]
    fits := by simpa using h.fits
    most := h.most
    live := by
      intro j y hy
      rcases get_set_some _ _ _ _ _ hy with ⟨rfl, hv, _⟩ | ⟨hne, hj⟩
      · simp at hv; subst hv
        rw [List.getElem?_set_self (by rw [h.len]; exact hlt)]
      · rw [List.getElem?_set_ne (Ne.symm hne)]
        exact h.live j y hj
    dead := by
      intro j
      by_cases hj : j = i
      · subst hj
        simp only [List.getElem?_set_self hlt]
        constructor
        · intro hh; simp at hh
        · intro hh; exact absurd hh hil
      · simp only [List.getElem?_set_ne (Ne.symm hj)]
        rw [h.dead j, e]
        simp [hj]
    nodup := (List.nodup_cons.1 hnd).2
    chain := hch.keep i _ hil }
theorem Fits.put {z : E} {A : Ar E} {C : List (RC E)} {f : Int} (h : Fits z A C f) {i : Nat} {y : E} (hi : A.cells[i]? = some (some y)) (x : E) :
    Fits z (A.put i x) (C.set i (x, true, 0)) f := by
  have hlt := (List.getElem?_eq_some_iff.1 hi).1
  have hnf : i ∉ A.free := fun hm => by have := (h.dead i).2 hm; rw [hi] at this; simp at this
  exact {
    len := by simp [Ar.put, h.len]
    fits := by simpa [Ar.put] using h.fits
    most := h.most
    live := by
      intro j u hu
      rcases get_set_some _ _ _ _ _ hu with ⟨rfl, hv, _⟩ | ⟨hne, hj⟩
      · simp at hv; subst hv
        rw [List.getElem?_set_self (by rw [h.len]; exact hlt)]
      · rw [List.getElem?_set_ne (Ne.symm hne)]
        exact h.live j u hj
    dead := by
      intro j
      by_cases hj : j = i
      · subst hj
        simp only [Ar.put, List.getElem?_set_self hlt]
        constructor
        · intro hh; simp at hh
        · intro hh; exact absurd hh hnf
      · simp only [Ar.put, List.getElem?_set_ne (Ne.symm hj)]
        exact h.dead j
    nodup := h.nodup
    chain := h.chain.keep i _ hnf }
theorem Fits.drop {z : E} {A : Ar E} {C : List (RC E)} {f : Int} (h : Fits z A C f) {i : Nat} {y : E} (hi : A.cells[i]? = some (some y)) :
    Fits z (A.drop i) (C.set i (z, false, f)) i := by
  have hlt := (List.getElem?_eq_some_iff.1 hi).1
  have hnf : i ∉ A.free := fun hm => by have := (h.dead i).2 hm; rw [hi] at this; simp at this
  exact {
    len := by simp [Ar.drop, h.len]
    fits := by simpa [Ar.drop] using h.fits
    most := h.most
    live := by
      intro j u hu
      rcases get_set_some _ _ _ _ _ hu with ⟨rfl, hv, _⟩ | ⟨hne, hj⟩
      · simp at hv
      · rw [List.getElem?_set_ne (Ne.symm hne)]
        exact h.live j u hj
    dead := by
      intro j
      by_cases hj : j = i
      · subst hj
        simp only [Ar.drop, List.getElem?_set_self hlt]
        simp
      · simp only [Ar.drop, List.getElem?_set_ne (Ne.symm hj)]
        rw [h.dead j]
        simp [hj]
    nodup := List.nodup_cons.2 ⟨hnf, h.nodup⟩
    chain := ⟨rfl, f, by rw [List.getElem?_set_self (by rw [h.len]; exact hlt)], h.chain.keep i _ hnf⟩ }
theorem Fits.made (z : E) (room : Nat) (h : room ≤ 1048576) : Fits z (⟨room, [], []⟩ : Ar E) [] (-1) :=
  ⟨rfl, by simp, h, by simp, by simp, by simp, rfl⟩
/-- What the program's test tells: is the number given? -/
theorem Fits.given {z : E} {A : Ar E} {C : List (RC E)} {f : Int} (h : Fits z A C f) {i : Nat} (hi : i < C.length) :
    (∃ x, A.cells[i]? = some (some x) ∧ C[i]? = some (x, true, 0)) ∨ (A.cells[i]? = some none ∧ ∃ nx, C[i]? = some (z, false, nx)) := by
  have hlt : i < A.cells.length := by rw [← h.len]; exact hi
  cases hc : A.cells[i] with
  | some x => exact .inl ⟨x, by rw [List.getElem?_eq_getElem hlt, hc], h.live i x (by rw [List.getElem?_eq_getElem hlt, hc])⟩
  | none =>
    have h1 : A.cells[i]? = some none := by rw [List.getElem?_eq_getElem hlt, hc]
    refine .inr ⟨h1, ?_⟩
    have hm := (h.dead i).1 h1
    have key : ∀ (l : List Nat) (g : Int), Chain z C g l → i ∈ l → ∃ nx, C[i]? = some (z, false, nx) := by
      intro l
      induction l with
      | nil => intro g _ hm; cases hm
      | cons j l ih =>
        intro g hg hm
        obtain ⟨_, nx, hj, hr⟩ := hg
        rcases List.mem_cons.1 hm with rfl | hm
        · exact ⟨nx, hj⟩
        · exact ih nx hr hm
    exact key _ _ h.chain hm
end Arena
end Go.Proofs.Ytmkbinbggiocaaa

set_option linter.unusedVariables false
set_option linter.unusedSimpArgs false
namespace Go.Proofs.Ytmkbinbggiocaaa
open Go.RowKit Arena
namespace ArI

def encC (c : RC Int) : List Value := [.int .i64 c.1, .bool c.2.1, .int .i64 c.2.2]
theorem encC_len (c : RC Int) : (encC c).length = 3 := rfl

/-- The pointer to block ba is an arena that is A; its cells lie in the blocks of F, which are ba and, where there is one, the row's. -/
structure At (w : World) (ba : Nat) (A : Ar Int) (F : List Nat) : Prop where
  mk ::
  out : ∃ (sv : Value) (C : List (RC Int)) (f : Int), Fits 0 A C f ∧ Has w ba [.int .i64 A.room, sv, .int .i64 f, .int .i64 A.count] 147 ∧
    w.ownsRow 0 150 3 sv C.length (flat encC C) ∧ sv.ownBlock ≠ some ba ∧ F = ba :: sv.ownBlock.toList

theorem row_cases {w : World} {sv : Value} {C : List (RC Int)} (h : w.ownsRow 0 150 3 sv C.length (flat encC C)) :
    (sv = .slice none 0 0 ∧ C = []) ∨ ∃ g cap, sv = .slice (some ⟨g, 0, none⟩) C.length cap := by
  rcases h.2 with ⟨rfl, h0⟩ | ⟨g, cap, cur, rfl, _⟩
  · exact .inl ⟨rfl, List.eq_nil_of_length_eq_zero h0⟩
  · exact .inr ⟨g, cap, rfl⟩
theorem row_cell {w : World} {C : List (RC Int)} {g cap : Nat} (h : w.ownsRow 0 150 3 (.slice (some ⟨g, 0, none⟩) C.length cap) C.length (flat encC C)) (i : Nat) {c : RC Int} (hc : C[i]? = some c) :
    w.cell? ⟨g, i * 3, none⟩ = some (.int .i64 c.1) ∧ w.cell? ⟨g, i * 3 + 1, none⟩ = some (.bool c.2.1) ∧ w.cell? ⟨g, i * 3 + 2, none⟩ = some (.int .i64 c.2.2) := by
  obtain ⟨hi, he⟩ := List.getElem?_eq_some_iff.1 hc
  have h0 := h.cellAt (i * 3) (by omega)
  have h1 := h.cellAt (i * 3 + 1) (by omega)
  have h2 := h.cellAt (i * 3 + 2) (by omega)
  have k0 := flat_get encC_len C i 0 hi (by omega)
  have k1 := flat_get encC_len C i 1 hi (by omega)
  have k2 := flat_get encC_len C i 2 hi (by omega)
  rw [he] at k0 k1 k2
  rw [Nat.add_zero] at k0
  exact ⟨by rw [h0, k0]; rfl, by rw [h1, k1]; rfl, by rw [h2, k2]; rfl⟩

/-! ### cell -/
set_option maxHeartbeats 400000 in
theorem cell_nil (n : Int) (w : World) :
    Calls Try.prog 95 #[.pointer none, .int .i64 n] w fun e w' => e = .returned (.pointer none) ∧ w = w' := by
  go_enter Try.func95, Try.ntmps95
  go_wp2
  go_ret
  exact ⟨rfl, rfl⟩
set_option maxHeartbeats 400000 in
theorem cell_out (ba len cap : Nat) (a : Option Addr) (n : Int) (w : World) (h : n < 0 ∨ (len : Int) ≤ n)
    (hc : w.cell? ⟨ba, 1, none⟩ = some (.slice a len cap)) :
    Calls Try.prog 95 #[.pointer (some ⟨ba, 0, none⟩), .int .i64 n] w fun e w' => e = .returned (.pointer none) ∧ w = w' := by
  by_cases h0 : n < 0
  · go_enter Try.func95, Try.ntmps95
    go_wp2
    go_ret
    exact ⟨rfl, rfl⟩
  · have h1 : (len : Int) ≤ n := by omega
    have h0' : 0 ≤ n := by omega
    go_enter Try.func95, Try.ntmps95
    go_wp2
    go_ret
    exact ⟨rfl, rfl⟩
set_option maxHeartbeats 400000 in
theorem cell_live (ba g len cap : Nat) (n : Int) (w : World) (h0 : 0 ≤ n) (h1 : n < len) (hlen : len ≤ 1048576)
    (hc : w.cell? ⟨ba, 1, none⟩ = some (.slice (some ⟨g, 0, none⟩) len cap))
    (hl : w.cell? ⟨g, n.toNat * 3 + 1, none⟩ = some (.bool true)) :
    Calls Try.prog 95 #[.pointer (some ⟨ba, 0, none⟩), .int .i64 n] w fun e w' => e = .returned (.pointer (some ⟨g, n.toNat * 3, none⟩)) ∧ w = w' := by
  go_enter Try.func95, Try.ntmps95
  go_wp2
  go_ret
  exact ⟨rfl, rfl⟩
set_option maxHeartbeats 400000 in
theorem cell_dead (ba g len cap : Nat) (n : Int) (w : World) (h0 : 0 ≤ n) (h1 : n < len) (hlen : len ≤ 1048576)
    (hc : w.cell? ⟨ba, 1, none⟩ = some (.slice (some ⟨g, 0, none⟩) len cap))
    (hl : w.cell? ⟨g, n.toNat * 3 + 1, none⟩ = some (.bool false)) :
    Calls Try.prog 95 #[.pointer (some ⟨ba, 0, none⟩), .int .i64 n] w fun e w' => e = .returned (.pointer none) ∧ w = w' := by
  go_enter Try.func95, Try.ntmps95
  go_wp2
  go_ret
  exact ⟨rfl, rfl⟩
/-- cell, told of the plain arena: where nothing is given the answer is nil. -/
theorem cell_none {w : World} {ba : Nat} {A : Ar Int} {F : List Nat} (H : At w ba A F) (n : Int) (hn : A.get n = none) :
    Calls Try.prog 95 #[.pointer (some ⟨ba, 0, none⟩), .int .i64 n] w fun e w' => e = .returned (.pointer none) ∧ w = w' := by
  obtain ⟨sv, C, f, hfit, hb, hrow, hne, _⟩ := H.out
  have hlen := hfit.len
  have hmost := hfit.most
  have hfits := hfit.fits
  rcases row_cases hrow with ⟨rfl, rfl⟩ | ⟨g, cap, rfl⟩
  · exact cell_out ba 0 0 none n w (by simp; omega) (hb.cell 1 rfl)
  · by_cases hin : 0 ≤ n ∧ n < C.length
    · obtain ⟨h0, h1⟩ := hin
      rcases hfit.given (i := n.toNat) (by omega) with ⟨x, hx, _⟩ | ⟨_, nx, hc⟩
      · simp [Ar.get, h0, hx] at hn
      · exact cell_dead ba g C.length cap n w h0 h1 (by omega) (hb.cell 1 rfl) (row_cell hrow _ hc).2.1
    · exact cell_out ba C.length cap (some ⟨g, 0, none⟩) n w (by omega) (hb.cell 1 rfl)
end ArI
end Go.Proofs.Ytmkbinbggiocaaa

set_option linter.unusedVariables false
set_option linter.unusedSimpArgs false
namespace Go.Proofs.Ytmkbinbggiocaaa
open Go.RowKit Arena
namespace ArI

/-- What a call on the arena ba leaves: the arena is A', nothing else that was there has changed. -/
structure Left (w w' : World) (ba : Nat) (A' : Ar Int) (F : List Nat) : Prop where
  mk ::
  out : ∃ F', At w' ba A' F' ∧ Mod F w w' ∧ ∀ b ∈ F', b ∈ F ∨ w.heap.size ≤ b

theorem get_some {A : Ar Int} {n x : Int} (h : A.get n = some x) : 0 ≤ n ∧ A.cells[n.toNat]? = some (some x) := by
  unfold Ar.get at h
  split at h
  · rename_i h0
    refine ⟨h0, ?_⟩
    cases hc : A.cells[n.toNat]? with
    | none => simp [hc] at h
    | some o => simp [hc] at h; rw [h]
  · cases h
theorem opened {w : World} {ba : Nat} {A : Ar Int} {F : List Nat} (H : At w ba A F) {n x : Int} (hn : A.get n = some x) :
    ∃ (g cap : Nat) (C : List (RC Int)) (f : Int), Fits 0 A C f ∧ Has w ba [.int .i64 A.room, .slice (some ⟨g, 0, none⟩) C.length cap, .int .i64 f, .int .i64 A.count] 147 ∧
      w.ownsRow 0 150 3 (.slice (some ⟨g, 0, none⟩) C.length cap) C.length (flat encC C) ∧ g ≠ ba ∧ F = [ba, g] ∧ 0 ≤ n ∧ n < C.length ∧ C.length ≤ 1048576 ∧ C[n.toNat]? = some (x, true, 0) := by
  obtain ⟨h0, hx⟩ := get_some hn
  obtain ⟨sv, C, f, hfit, hb, hrow, hne, hF⟩ := H.out
  have hl := hfit.live _ _ hx
  have hlt := (List.getElem?_eq_some_iff.1 hl).1
  have h1 := hfit.len
  have h2 := hfit.fits
  have h3 := hfit.most
  rcases row_cases hrow with ⟨rfl, rfl⟩ | ⟨g, cap, rfl⟩
  · simp at hlt
  · exact ⟨g, cap, C, f, hfit, hb, hrow, by simpa [Value.ownBlock] using hne, by simpa [Value.ownBlock] using hF, h0, by omega, by omega, hl⟩

/-! ### At -/
set_option maxHeartbeats 400000 in
theorem at_nil (n : Int) (w : World) :
    Calls Try.prog 24 #[.pointer none, .int .i64 n] w fun e w' => e = .returned (.tuple #[.int .i64 0, .bool false]) ∧ w = w' := by
  go_enter Try.func24, Try.ntmps24
  go_wp2_with (go_at_call 95; refine (cell_nil _ _).mono ?_; rintro e w' ⟨rfl, rfl⟩)
  go_ret2
  exact ⟨rfl, rfl⟩
set_option maxHeartbeats 400000 in
theorem at_none {w : World} {ba : Nat} {A : Ar Int} {F : List Nat} (H : At w ba A F) (n : Int) (hn : A.get n = none) :
    Calls Try.prog 24 #[.pointer (some ⟨ba, 0, none⟩), .int .i64 n] w fun e w' => e = .returned (.tuple #[.int .i64 0, .bool false]) ∧ w = w' := by
  have hn' := Lib.hid hn; clear hn
  go_enter Try.func24, Try.ntmps24
  go_wp2_with (go_at_call 95; refine (cell_none H _ hn'.out).mono ?_; rintro e w' ⟨rfl, rfl⟩)
  go_ret2
  exact ⟨rfl, rfl⟩
set_option maxHeartbeats 400000 in
theorem at_some {w : World} {ba : Nat} {A : Ar Int} {F : List Nat} (H : At w ba A F) (n x : Int) (hn : A.get n = some x) :
    Calls Try.prog 24 #[.pointer (some ⟨ba, 0, none⟩), .int .i64 n] w fun e w' => e = .returned (.tuple #[.int .i64 x, .bool true]) ∧ w = w' := by
  obtain ⟨g, cap, C, f, hfit, hb, hrow, hne, hF, h0, h1, h2, hc⟩ := opened H hn
  obtain ⟨c0, c1, c2⟩ := row_cell hrow _ hc
  have hb1 := hb.cell 1 rfl
  clear hb hrow hF hc hn H hfit
  go_enter Try.func24, Try.ntmps24
  go_wp2_with (go_at_call 95; refine (cell_live ba g _ cap _ _ h0 h1 h2 hb1 c1).mono ?_; rintro e w' ⟨rfl, rfl⟩)
  go_ret2
  exact ⟨rfl, rfl⟩

/-! ### Set -/
set_option maxHeartbeats 400000 in
theorem set_nil (n x : Int) (w : World) :
    Calls Try.prog 22 #[.pointer none, .int .i64 n, .int .i64 x] w fun e w' => e = .returned (.bool false) ∧ w = w' := by
  go_enter Try.func22, Try.ntmps22
  go_wp2_with (go_at_call 95; refine (cell_nil _ _).mono ?_; rintro e w' ⟨rfl, rfl⟩)
  go_ret
  exact ⟨rfl, rfl⟩
set_option maxHeartbeats 400000 in
theorem set_none {w : World} {ba : Nat} {A : Ar Int} {F : List Nat} (H : At w ba A F) (n x : Int) (hn : A.get n = none) :
    Calls Try.prog 22 #[.pointer (some ⟨ba, 0, none⟩), .int .i64 n, .int .i64 x] w fun e w' => e = .returned (.bool false) ∧ w = w' := by
  have hn' := Lib.hid hn; clear hn
  go_enter Try.func22, Try.ntmps22
  go_wp2_with (go_at_call 95; refine (cell_none H _ hn'.out).mono ?_; rintro e w' ⟨rfl, rfl⟩)
  go_ret
  exact ⟨rfl, rfl⟩
theorem put_flat (C : List (RC Int)) (i : Nat) (x y : Int) (hc : C[i]? = some (y, true, 0)) : (flat encC C).set (i * 3) (.int .i64 x) = flat encC (C.set i (x, true, 0)) := by
  obtain ⟨hi, he⟩ := List.getElem?_eq_some_iff.1 hc
  rw [flat_split C i hi, show i * 3 = i * 3 + 0 from rfl, mid_set _ _ _ (i * 3) 0 _ (flat_take_length encC_len C i hi) (by rw [encC_len]; omega), ← flat_mid C i hi, he]
  rfl
set_option maxHeartbeats 400000 in
theorem set_some {w : World} {ba : Nat} {A : Ar Int} {F : List Nat} (H : At w ba A F) (n x y : Int) (hn : A.get n = some y) :
    Calls Try.prog 22 #[.pointer (some ⟨ba, 0, none⟩), .int .i64 n, .int .i64 x] w fun e w' => e = .returned (.bool true) ∧ Left w w' ba (A.put n.toNat x) F := by
  obtain ⟨_, hx⟩ := get_some hn
  obtain ⟨g, cap, C, f, hfit, hb, hrow, hne, rfl, h0, h1, h2, hc⟩ := opened H hn
  have hfin : ∀ w1, w1 = w.setCell ⟨g, n.toNat * 3, none⟩ (.int .i64 x) → Left w w1 ba (A.put n.toNat x) [ba, g] := by
    rintro _ rfl
    have hs := (hrow.stored (n.toNat * 3) (.int .i64 x)).1
    rw [put_flat C _ x y hc] at hs
    refine ⟨[ba, g], ⟨_, C.set n.toNat (x, true, 0), f, hfit.put hx x, ?_, by rw [List.length_set]; exact hs, by simpa [Value.ownBlock] using hne, rfl⟩, ?_, fun b hb => .inl hb⟩
    · have := hb.other ⟨g, n.toNat * 3, none⟩ (.int .i64 x) (fun e => hne e.symm)
      simpa [Ar.put, Ar.count] using this
    · exact (Mod.refl _ _).setCell _ _ (fun _ => by simp)
  obtain ⟨c0, c1, c2⟩ := row_cell hrow _ hc
  have hb1 := hb.cell 1 rfl
  have hfr := hrow.frozenAt (n.toNat * 3)
  have hfin' := Lib.hid hfin
  clear hb hrow hc hn H hfit hx hfin
  go_enter Try.func22, Try.ntmps22
  go_wp2_with (go_at_call 95; refine (cell_live ba g _ cap _ _ h0 h1 h2 hb1 c1).mono ?_; rintro e w' ⟨rfl, rfl⟩)
  go_ret
  exact ⟨rfl, hfin'.out _ rfl⟩

/-! ### Free -/
set_option maxHeartbeats 400000 in
theorem free_nil (n : Int) (w : World) :
    Calls Try.prog 20 #[.pointer none, .int .i64 n] w fun e w' => e = .returned (.tuple #[.int .i64 0, .bool false]) ∧ w = w' := by
  go_enter Try.func20, Try.ntmps20
  go_wp2_with (go_at_call 95; refine (cell_nil _ _).mono ?_; rintro e w' ⟨rfl, rfl⟩)
  go_ret2
  exact ⟨rfl, rfl⟩
set_option maxHeartbeats 400000 in
theorem free_none {w : World} {ba : Nat} {A : Ar Int} {F : List Nat} (H : At w ba A F) (n : Int) (hn : A.get n = none) :
    Calls Try.prog 20 #[.pointer (some ⟨ba, 0, none⟩), .int .i64 n] w fun e w' => e = .returned (.tuple #[.int .i64 0, .bool false]) ∧ w = w' := by
  have hn' := Lib.hid hn; clear hn
  go_enter Try.func20, Try.ntmps20
  go_wp2_with (go_at_call 95; refine (cell_none H _ hn'.out).mono ?_; rintro e w' ⟨rfl, rfl⟩)
  go_ret2
  exact ⟨rfl, rfl⟩
theorem three_flat (C : List (RC Int)) (i : Nat) (c : RC Int) (hi : i < C.length) :
    (((flat encC C).set (i * 3) (.int .i64 c.1)).set (i * 3 + 1) (.bool c.2.1)).set (i * 3 + 2) (.int .i64 c.2.2) = flat encC (C.set i c) := by
  have hl := flat_take_length encC_len C i hi
  rw [flat_split C i hi, show i * 3 = i * 3 + 0 from rfl, mid_set _ _ _ (i * 3) 0 _ hl (by rw [encC_len]; omega), mid_set _ _ _ (i * 3) 1 _ hl (by simp [encC_len]),
    mid_set _ _ _ (i * 3) 2 _ hl (by simp [encC_len]), ← flat_mid C i hi]
  rfl
set_option maxHeartbeats 400000 in
theorem free_some {w : World} {ba : Nat} {A : Ar Int} {F : List Nat} (H : At w ba A F) (n y : Int) (hn : A.get n = some y) :
    Calls Try.prog 20 #[.pointer (some ⟨ba, 0, none⟩), .int .i64 n] w fun e w' => e = .returned (.tuple #[.int .i64 y, .bool true]) ∧ Left w w' ba (A.drop n.toNat) F := by
  obtain ⟨_, hx⟩ := get_some hn
  obtain ⟨g, cap, C, f, hfit, hb, hrow, hne, rfl, h0, h1, h2, hc⟩ := opened H hn
  have hcnt : (A.drop n.toNat).count + 1 = A.count := by
    have hd := hfit.drop hx
    have := hd.free_le
    simp only [Ar.drop, Ar.count, List.length_set, List.length_cons] at this ⊢
    omega
  have hfin : ∀ w1, w1 = ((((w.setCell ⟨g, n.toNat * 3, none⟩ (.int .i64 0)).setCell ⟨g, n.toNat * 3 + 1, none⟩ (.bool false)).setCell ⟨g, n.toNat * 3 + 2, none⟩ (.int .i64 f)).setCell ⟨ba, 2, none⟩ (.int .i64 n)).setCell ⟨ba, 3, none⟩ (.int .i64 ((A.count : Int) - 1)) → Left w w1 ba (A.drop n.toNat) [ba, g] := by
    rintro _ rfl
    have hs := (((hrow.stored (n.toNat * 3) (.int .i64 0)).1.stored (n.toNat * 3 + 1) (.bool false)).1.stored (n.toNat * 3 + 2) (.int .i64 f)).1
    rw [three_flat C n.toNat (0, false, f) (by omega)] at hs
    have hs2 := own_other (own_other hs ⟨ba, 2, none⟩ (.int .i64 n) (by simpa [Value.ownBlock] using hne)) ⟨ba, 3, none⟩ (.int .i64 ((A.count : Int) - 1)) (by simpa [Value.ownBlock] using hne)
    refine ⟨[ba, g], ⟨_, C.set n.toNat (0, false, f), n, ?_, ?_, by rw [List.length_set]; exact hs2, by simpa [Value.ownBlock] using hne, rfl⟩, ?_, fun b hb => .inl hb⟩
    · have := hfit.drop hx
      rwa [show ((n.toNat : Nat) : Int) = n from by omega] at this
    · have h5 := ((((hb.other ⟨g, n.toNat * 3, none⟩ (.int .i64 0) (fun e => hne e.symm)).other ⟨g, n.toNat * 3 + 1, none⟩ (.bool false) (fun e => hne e.symm)).other ⟨g, n.toNat * 3 + 2, none⟩ (.int .i64 f) (fun e => hne e.symm)).set 2 (.int .i64 n)).set 3 (.int .i64 ((A.count : Int) - 1))
      have e : ((A.count : Int) - 1) = ((A.drop n.toNat).count : Int) := by omega
      rw [e] at h5 ⊢
      simpa [Ar.drop] using h5
    · exact (((((Mod.refl _ _).setCell _ _ (fun _ => by simp)).setCell _ _ (fun _ => by simp)).setCell _ _ (fun _ => by simp)).setCell _ _ (fun _ => by simp)).setCell _ _ (fun _ => by simp)
  obtain ⟨c0, c1, c2⟩ := row_cell hrow _ hc
  have hb1 := hb.cell 1 rfl
  have hb2 := hb.cell 2 rfl
  have hb3 := hb.cell 3 rfl
  have hfb := hb.free
  have hfr := hrow.frozenAt
  have hne' : ba ≠ g := fun e => hne e.symm
  have hcl : (1 : Int) ≤ A.count := by omega
  have hcu : (A.count : Int) ≤ 1048576 := by
    have h4 := hfit.fits
    have h5 := hfit.most
    have h6 : A.count ≤ A.cells.length := Nat.sub_le _ _
    omega
  have hfin' := Lib.hid hfin
  clear hb hrow hc hn H hfit hx hfin hcnt
  go_enter Try.func20, Try.ntmps20
  go_wp2_with (go_at_call 95; refine (cell_live ba g _ cap _ _ h0 h1 h2 hb1 c1).mono ?_; rintro e w' ⟨rfl, rfl⟩)
  go_ret2
  exact ⟨rfl, hfin'.out _ rfl⟩
end ArI
end Go.Proofs.Ytmkbinbggiocaaa

set_option linter.unusedVariables false
set_option linter.unusedSimpArgs false
namespace Go.Proofs.Ytmkbinbggiocaaa
open Go.RowKit Arena
namespace ArI
theorem infoC : (Try.prog.info? 150).map (fun i => (i.zero, i.size, i.bytes)) = some (some (.agg #[.int .i64 0, .bool false, .int .i64 0]), 3, 24) := by kernel_rfl

theorem count_le {A : Ar Int} {C : List (RC Int)} {f : Int} (h : Fits 0 A C f) : A.count ≤ 1048576 ∧ A.count ≤ C.length ∧ C.length ≤ A.room ∧ A.room ≤ 1048576 := by
  have h4 := h.fits
  have h5 := h.most
  have h6 : A.count ≤ A.cells.length := Nat.sub_le _ _
  have h7 := h.len
  omega
/-! ### Len, Room -/
set_option maxHeartbeats 400000 in
theorem len_nil (w : World) :
    Calls Try.prog 27 #[.pointer none] w fun e w' => e = .returned (.int .i64 0) ∧ w = w' := by
  go_enter Try.func27, Try.ntmps27
  go_wp2
  go_ret
  exact ⟨rfl, rfl⟩
set_option maxHeartbeats 400000 in
theorem len_at {w : World} {ba : Nat} {A : Ar Int} {F : List Nat} (H : At w ba A F) :
    Calls Try.prog 27 #[.pointer (some ⟨ba, 0, none⟩)] w fun e w' => e = .returned (.int .i64 A.count) ∧ w = w' := by
  obtain ⟨sv, C, f, hfit, hb, hrow, hne, hF⟩ := H.out
  have hb3 := hb.cell 3 rfl
  clear hfit hb hrow hne hF H
  go_enter Try.func27, Try.ntmps27
  go_wp2
  go_ret
  exact ⟨rfl, rfl⟩
set_option maxHeartbeats 400000 in
theorem room_nil (w : World) :
    Calls Try.prog 28 #[.pointer none] w fun e w' => e = .returned (.int .i64 0) ∧ w = w' := by
  go_enter Try.func28, Try.ntmps28
  go_wp2
  go_ret
  exact ⟨rfl, rfl⟩
set_option maxHeartbeats 400000 in
theorem room_at {w : World} {ba : Nat} {A : Ar Int} {F : List Nat} (H : At w ba A F) :
    Calls Try.prog 28 #[.pointer (some ⟨ba, 0, none⟩)] w fun e w' => e = .returned (.int .i64 A.room) ∧ w = w' := by
  obtain ⟨sv, C, f, hfit, hb, hrow, hne, hF⟩ := H.out
  have hb0 := hb.cell 0 rfl
  clear hfit hb hrow hne hF H
  go_enter Try.func28, Try.ntmps28
  go_wp2
  go_ret
  exact ⟨rfl, rfl⟩

/-! ### New -/
def roomOf (n : Int) : Nat := (min (max n 0) 1048576).toNat
set_option maxHeartbeats 400000 in
theorem new_at (n : Int) (w : World) :
    Calls Try.prog 16 #[.int .i64 n] w fun e w' => e = .returned (.pointer (some ⟨w.heap.size, 0, none⟩)) ∧ At w' w.heap.size ⟨roomOf n, [], []⟩ [w.heap.size] ∧ Mod [] w w' := by
  have hfin : ∀ w1 (r : Int), r = roomOf n → w1 = w.alloc (.cells #[.int .i64 r, .slice none 0 0, .int .i64 (-1), .int .i64 0] 147) → At w1 w.heap.size ⟨roomOf n, [], []⟩ [w.heap.size] ∧ Mod [] w w1 := by
    rintro _ _ rfl rfl
    refine ⟨⟨.slice none 0 0, [], -1, Fits.made 0 _ (by unfold roomOf; omega), Has.new w _ _, World.ownsRow_nil _ _ _ _, by simp [Value.ownBlock], by simp [Value.ownBlock]⟩, (Mod.refl _ _).alloc _⟩
  have hfin' := Lib.hid hfin
  clear hfin
  go_enter Try.func16, Try.ntmps16
  go_wp2
  all_goals
    go_ret
    exact ⟨rfl, hfin'.out _ _ (by unfold roomOf; omega) rfl⟩

/-! ### Give -/
set_option maxHeartbeats 400000 in
theorem give_nil (x : Int) (w : World) :
    Calls Try.prog 18 #[.pointer none, .int .i64 x] w fun e w' => e = .returned (.tuple #[.int .i64 0, .bool false]) ∧ w = w' := by
  go_enter Try.func18, Try.ntmps18
  go_wp2
  go_ret2
  exact ⟨rfl, rfl⟩
set_option maxHeartbeats 400000 in
theorem give_old {w : World} {ba : Nat} {A : Ar Int} {F : List Nat} (H : At w ba A F) (x : Int) (i : Nat) (l : List Nat) (he : A.free = i :: l) :
    Calls Try.prog 18 #[.pointer (some ⟨ba, 0, none⟩), .int .i64 x] w fun e w' => e = .returned (.tuple #[.int .i64 i, .bool true]) ∧ Left w w' ba (A.give x).1 F := by
  obtain ⟨sv, C, f, hfit, hb, hrow, hne, rfl⟩ := H.out
  obtain ⟨rfl, hlt, nx, hc, hch⟩ := hfit.head he
  obtain ⟨g, cap, rfl⟩ : ∃ g cap, sv = .slice (some ⟨g, 0, none⟩) C.length cap := by
    rcases row_cases hrow with ⟨rfl, rfl⟩ | h
    · simp at hc
    · exact h
  have hcount := count_le hfit
  have hfl := hfit.free_le
  have hcnt : (A.give x).1.count = A.count + 1 := by
    simp only [Ar.give, he, Ar.count, List.length_set, List.length_cons] at hfl ⊢
    omega
  have hcl : A.count < C.length := by
    have := hfit.len
    simp only [he, Ar.count, List.length_cons] at hfl hcnt ⊢
    omega
  have hg : g ≠ ba := by simpa [Value.ownBlock] using hne
  have hfin : ∀ w0 nq w1, w0 = w.drewN nq → w1 = ((((w0.setCell ⟨ba, 2, none⟩ (.int .i64 nx)).setCell ⟨g, i * 3, none⟩ (.int .i64 x)).setCell ⟨g, i * 3 + 1, none⟩ (.bool true)).setCell ⟨g, i * 3 + 2, none⟩ (.int .i64 0)).setCell ⟨ba, 3, none⟩ (.int .i64 ((A.count : Int) + 1)) → Left w w1 ba (A.give x).1 [ba, g] := by
    rintro _ nq _ rfl rfl
    have hrow' : (w.drewN nq).ownsRow 0 150 3 (.slice (some ⟨g, 0, none⟩) C.length cap) C.length (flat encC C) := hrow
    have hs0 := own_other hrow' ⟨ba, 2, none⟩ (.int .i64 nx) hne
    have hs := (((hs0.stored (i * 3) (.int .i64 x)).1.stored (i * 3 + 1) (.bool true)).1.stored (i * 3 + 2) (.int .i64 0)).1
    rw [three_flat C i (x, true, 0) (by rw [hfit.len]; exact hlt)] at hs
    have hs2 := own_other hs ⟨ba, 3, none⟩ (.int .i64 ((A.count : Int) + 1)) hne
    refine ⟨[ba, g], ⟨_, C.set i (x, true, 0), nx, ?_, ?_, by rw [List.length_set]; exact hs2, hne, rfl⟩, ?_, fun b hb => .inl hb⟩
    · have := hfit.old he hc x
      simpa [Ar.give, he] using this
    · have h5 := ((((((hb.drewN nq).set 2 (.int .i64 nx)).other ⟨g, i * 3, none⟩ (.int .i64 x) (fun e => hg e.symm)).other ⟨g, i * 3 + 1, none⟩ (.bool true) (fun e => hg e.symm)).other ⟨g, i * 3 + 2, none⟩ (.int .i64 0) (fun e => hg e.symm))).set 3 (.int .i64 ((A.count : Int) + 1))
      have e : ((A.count : Int) + 1) = ((A.give x).1.count : Int) := by omega
      rw [e] at h5 ⊢
      simpa [Ar.give, he] using h5
    · exact (((((((Mod.refl _ _).drewN nq).setCell _ _ (fun _ => by simp)).setCell _ _ (fun _ => by simp)).setCell _ _ (fun _ => by simp)).setCell _ _ (fun _ => by simp))).setCell _ _ (fun _ => by simp)
  obtain ⟨c0, c1, c2⟩ := row_cell hrow _ hc
  have hb1 := hb.cell 1 rfl
  have hb2 := hb.cell 2 rfl
  have hb3 := hb.cell 3 rfl
  have hfb := hb.free
  have hfr := hrow.frozenAt
  have hg' : ba ≠ g := fun e => hg e.symm
  have hd : decide (A.count < C.length) = true := by simpa using hcl
  have hi1 : i < C.length := by rw [hfit.len]; exact hlt
  have hfin' := Lib.hid hfin
  obtain ⟨hu1, hu2, hu3, hu4⟩ := hcount
  clear hb hrow hc hch H hfit hfin hcnt hfl he hne
  go_enter Try.func18, Try.ntmps18
  go_wp2
  go_quiet (fail)
  go_wp2
  go_ret2
  exact ⟨rfl, hfin'.out _ _ _ rfl rfl⟩
set_option maxHeartbeats 400000 in
theorem give_full {w : World} {ba : Nat} {A : Ar Int} {F : List Nat} (H : At w ba A F) (x : Int) (he : A.free = []) (hr : A.room ≤ A.cells.length) :
    Calls Try.prog 18 #[.pointer (some ⟨ba, 0, none⟩), .int .i64 x] w fun e w' => e = .returned (.tuple #[.int .i64 0, .bool false]) ∧ Left w w' ba A F := by
  obtain ⟨sv, C, f, hfit, hb, hrow, hne, hF⟩ := H.out
  have hcount := count_le hfit
  have hcnt : A.count = C.length := by have := hfit.len; simp only [he, Ar.count, List.length_nil]; omega
  obtain ⟨a, c, hsv⟩ : ∃ a c, sv = .slice a C.length c := by
    rcases row_cases hrow with ⟨rfl, rfl⟩ | ⟨g, cap, rfl⟩
    · exact ⟨none, 0, rfl⟩
    · exact ⟨_, _, rfl⟩
  have hfin : ∀ nq mq, Left w ((w.drewN nq).drewN mq) ba A F := fun nq mq => ⟨F, ⟨sv, C, f, hfit, (hb.drewN nq).drewN mq, hrow, hne, hF⟩, ((Mod.refl _ _).drewN _).drewN _, fun b hb => .inl hb⟩
  subst hsv
  have hb0 := hb.cell 0 rfl
  have hb1 := hb.cell 1 rfl
  have hb3 := hb.cell 3 rfl
  have hd : decide (A.count < C.length) = false := by simp; omega
  have hd2 : decide (A.room ≤ C.length) = true := by have := hfit.len; simp; omega
  have hfin' := Lib.hid hfin
  clear hb hrow H hfit hfin hcnt he hne hcount hF
  go_enter Try.func18, Try.ntmps18
  go_wp2
  go_quiet (fail)
  go_wp2
  go_quiet (fail)
  go_wp2
  go_ret2
  exact ⟨rfl, hfin'.out _ _⟩
set_option maxHeartbeats 400000 in
theorem give_new {w : World} {ba : Nat} {A : Ar Int} {F : List Nat} (H : At w ba A F) (x : Int) (he : A.free = []) (hr : A.cells.length < A.room) :
    Calls Try.prog 18 #[.pointer (some ⟨ba, 0, none⟩), .int .i64 x] w fun e w' => e = .returned (.tuple #[.int .i64 A.cells.length, .bool true]) ∧ Left w w' ba (A.give x).1 F := by
  obtain ⟨sv, C, f, hfit, hb, hrow, hne, hF⟩ := H.out
  have hcount := count_le hfit
  have hlen := hfit.len
  have hcnt : A.count = C.length := by simp only [he, Ar.count, List.length_nil]; omega
  obtain ⟨a, c, hsv⟩ : ∃ a c, sv = .slice a C.length c := by
    rcases row_cases hrow with ⟨rfl, rfl⟩ | ⟨g, cap, rfl⟩
    · exact ⟨none, 0, rfl⟩
    · exact ⟨_, _, rfl⟩
  have hfin : ∀ w1 w2 w3 (v1 : Value) (nq : Nat), w1 = w.drewN nq → w2.ownsRow 0 150 3 v1 (C.length + 1) (flat encC C ++ encC (x, true, 0)) → Mod sv.ownBlock.toList w1 w2 →
      (v1.ownBlock = sv.ownBlock ∨ ∃ b, v1.ownBlock = some b ∧ w1.heap.size ≤ b) → w3 = (w2.setCell ⟨ba, 1, none⟩ v1).setCell ⟨ba, 3, none⟩ (.int .i64 ((C.length : Int) + 1)) → Left w w3 ba (A.give x).1 F := by
    rintro _ w2 _ v1 nq rfl hrow2 hm hv rfl
    have hb2 : Has w2 ba [.int .i64 A.room, sv, .int .i64 f, .int .i64 A.count] 147 := (hb.drewN nq).keep hm (by simpa using fun e => hne e)
    have hne2 : v1.ownBlock ≠ some ba := by
      rcases hv with hv | ⟨b, hv, hle⟩
      · rw [hv]; exact hne
      · rw [hv]; intro e; injection e with e; have := hb.lt; simp at hle; omega
    refine ⟨ba :: v1.ownBlock.toList, ⟨v1, C ++ [(x, true, 0)], f, ?_, ?_, ?_, hne2, rfl⟩, ?_, ?_⟩
    · have := hfit.new he hr x
      simpa [Ar.give, he, hr] using this
    · have h5 := (hb2.set 1 v1).set 3 (.int .i64 ((C.length : Int) + 1))
      have e : ((C.length : Int) + 1) = ((A.give x).1.count : Int) := by simp [Ar.give, he, hr, Ar.count]; omega
      rw [e] at h5 ⊢
      simpa [Ar.give, he, hr] using h5
    · have h6 := own_other (own_other hrow2 ⟨ba, 1, none⟩ v1 hne2) ⟨ba, 3, none⟩ (.int .i64 ((C.length : Int) + 1)) hne2
      simpa [flat_append, flat_one] using h6
    · refine ((((Mod.refl F w).drewN nq).trans hm ?_).setCell _ _ ?_).setCell _ _ ?_
      · intro b hb _; rw [hF]; exact List.mem_cons_of_mem _ hb
      · intro _; rw [hF]; simp
      · intro _; rw [hF]; simp
    · intro b hb
      rw [hF]
      rcases List.mem_cons.1 hb with rfl | hb
      · simp
      · rcases own_fresh (F := sv.ownBlock.toList) (by intro b hb; simp [hb]) hv b (by simpa using hb) with h | h
        · exact .inl (List.mem_cons_of_mem _ h)
        · exact .inr h
  have hb0 := hb.cell 0 rfl
  have hb1 := hb.cell 1 rfl
  have hb3 := hb.cell 3 rfl
  have hfb := hb.free
  rw [hcnt] at hb3
  have hd : decide (C.length < C.length) = false := by simp
  have hd2 : decide (A.room ≤ C.length) = false := by simp; omega
  have hfin' := Lib.hid hfin
  have hcnt := Lib.hid hcnt
  have hlen' : A.cells.length = C.length := hlen.symm
  rw [hlen']
  have hl1 : C.length < 1048576 := by omega
  clear hfit hfin he hF hlen hlen' hcount H
  subst hsv
  go_enter Try.func18, Try.ntmps18
  go_wp2
  go_quiet (fail)
  go_wp2
  go_quiet (fail)
  go_wp2_with (at_builtin; refine app_own rfl _ _ 145 150 _ 3 24 rfl Try.underlying145 infoC rfl (by omega) (by omega) (.slice a C.length c) C.length 1 (flat encC C) (encC (x, true, 0)) rfl rfl rfl rfl (by simp [encC, Value.oneCell']) hrow (by omega) ?_; intro a1 c1 w2 hown hm hv; have hb' := (hb.drewN _).keep hm (by intro hh; exact hne (by simpa using hh)); have k1 := hb'.cell 1 rfl; have k3 := hb'.cell 3 rfl; rw [hcnt.out] at k3; have hfb' := hb'.free; clear hb hb0 hb1 hb3 hfb)
  go_ret2
  exact ⟨rfl, hfin'.out _ _ _ _ _ rfl hown hm hv rfl⟩
end ArI
end Go.Proofs.Ytmkbinbggiocaaa

set_option linter.unusedVariables false
set_option linter.unusedSimpArgs false
namespace Go.Proofs.Ytmkbinbggiocaaa
open Go.RowKit Arena
namespace Ref11

def ints (l : List Int) : List Value := l.map fun x => .int .i64 x
def bools (l : List Bool) : List Value := l.map fun x => .bool x
def nats (l : List Nat) : List Value := l.map fun (x : Nat) => Value.int .i64 (x : Int)

/-- What holds of the plain arena. -/
structure Ok (A : Ar Int) : Prop where
  fits : A.cells.length ≤ A.room
  most : A.room ≤ 1048576
  dead : ∀ i : Nat, A.cells[i]? = some none ↔ i ∈ A.free
  nodup : A.free.Nodup
theorem ok_of {z : Int} {A : Ar Int} {C : List (RC Int)} {f : Int} (h : Fits z A C f) : Ok A := ⟨h.fits, h.most, h.dead, h.nodup⟩

structure Same (A : Ar Int) (X : List Int) (I : List Bool) : Prop where
  lx : X.length = A.cells.length
  li : I.length = A.cells.length
  live : ∀ (i : Nat) (x : Int), A.cells[i]? = some (some x) → X[i]? = some x ∧ I[i]? = some true
  dead : ∀ i : Nat, A.cells[i]? = some none → I[i]? = some false

structure At (w : World) (bx : Nat) (A : Ar Int) (F : List Nat) : Prop where
  mk ::
  out : ∃ (sx si sf : Value) (X : List Int) (I : List Bool), Same A X I ∧ Has w bx [.int .i64 A.room, sx, si, sf] 41 ∧
    w.ownsRow 0 3 1 sx X.length (ints X) ∧ w.ownsRow 0 4 1 si I.length (bools I) ∧ Reads w 1 sf A.free.length (nats A.free) ∧
    sx.ownBlock ≠ some bx ∧ si.ownBlock ≠ some bx ∧ sf.ownBlock ≠ some bx ∧ (∀ g, sx.ownBlock = some g → si.ownBlock ≠ some g) ∧ (∀ g, sx.ownBlock = some g → sf.ownBlock ≠ some g) ∧ (∀ g, si.ownBlock = some g → sf.ownBlock ≠ some g) ∧ (∀ g, sf.ownBlock = some g → g < w.heap.size) ∧
    F = bx :: (sx.ownBlock.toList ++ si.ownBlock.toList ++ sf.ownBlock.toList)
structure Left (w w' : World) (bx : Nat) (A' : Ar Int) (F : List Nat) : Prop where
  mk ::
  out : ∃ F', At w' bx A' F' ∧ Mod F w w' ∧ ∀ b ∈ F', b ∈ F ∨ w.heap.size ≤ b

/-! ### New -/
set_option maxHeartbeats 400000 in
theorem new_at (n : Int) (w : World) :
    Calls Try.prog 17 #[.int .i64 n] w fun e w' => e = .returned (.pointer (some ⟨w.heap.size, 0, none⟩)) ∧ At w' w.heap.size ⟨ArI.roomOf n, [], []⟩ [w.heap.size] ∧ Mod [] w w' := by
  have hfin : ∀ w1 (r : Int), r = ArI.roomOf n → w1 = w.alloc (.cells #[.int .i64 r, .slice none 0 0, .slice none 0 0, .slice none 0 0] 41) → At w1 w.heap.size ⟨ArI.roomOf n, [], []⟩ [w.heap.size] ∧ Mod [] w w1 := by
    rintro _ _ rfl rfl
    exact ⟨⟨.slice none 0 0, .slice none 0 0, .slice none 0 0, [], [], ⟨rfl, rfl, by simp, by simp⟩, Has.new w _ _, World.ownsRow_nil _ _ _ _, World.ownsRow_nil _ _ _ _, Reads.nil _ _, by simp [Value.ownBlock], by simp [Value.ownBlock], by simp [Value.ownBlock], by simp [Value.ownBlock], by simp [Value.ownBlock], by simp [Value.ownBlock], by simp [Value.ownBlock], by simp [Value.ownBlock]⟩, (Mod.refl _ _).alloc _⟩
  have hfin' := Lib.hid hfin
  clear hfin
  go_enter Try.func17, Try.ntmps17
  go_wp2
  all_goals
    go_ret
    exact ⟨rfl, hfin'.out _ _ (by unfold ArI.roomOf; omega) rfl⟩

/-! ### At -/
theorem row_form {w : World} {e : Nat} {v : Value} {xs : List Value} {n i : Nat} (h : w.ownsRow 0 e 1 v n xs) (hi : i < n) : ∃ g cap, v = .slice (some ⟨g, 0, none⟩) n cap := by
  rcases h.2 with ⟨rfl, h0⟩ | ⟨g, cap, cur, rfl, _⟩
  · omega
  · exact ⟨g, cap, rfl⟩
theorem row_slice {w : World} {e : Nat} {v : Value} {xs : List Value} {n : Nat} (h : w.ownsRow 0 e 1 v n xs) : ∃ a cap, v = .slice a n cap := by
  rcases h.2 with ⟨rfl, h0⟩ | ⟨g, cap, cur, rfl, _⟩
  · exact ⟨none, 0, by rw [h0]⟩
  · exact ⟨_, cap, rfl⟩
set_option maxHeartbeats 400000 in
theorem at_out (bx : Nat) (a : Option Addr) (len cap : Nat) (n : Int) (w : World) (h : n < 0 ∨ (len : Int) ≤ n) (hlt : bx < w.heap.size) (hc : w.cell? ⟨bx, 1, none⟩ = some (.slice a len cap)) :
    Calls Try.prog 25 #[.pointer (some ⟨bx, 0, none⟩), .int .i64 n] w fun e w' => e = .returned (.agg #[.int .i64 0, .bool false]) ∧ Mod [] w w' := by
  have hm : ∀ o1, Mod [] w (w.alloc o1) := fun o1 => (Mod.refl _ _).alloc o1
  have hm' := Lib.hid hm
  clear hm
  by_cases h0 : n < 0
  · go_enter Try.func25, Try.ntmps25
    go_wp2
    exact bodyPost_ret (v := .agg #[.int .i64 0, .bool false]) (by simp [results, Try.results25, go_sem]) rfl ⟨rfl, hm'.out _⟩
  · have h1 : (len : Int) ≤ n := by omega
    have h0' : 0 ≤ n := by omega
    go_enter Try.func25, Try.ntmps25
    go_wp2
    exact bodyPost_ret (v := .agg #[.int .i64 0, .bool false]) (by simp [results, Try.results25, go_sem]) rfl ⟨rfl, hm'.out _⟩
set_option maxHeartbeats 400000 in
theorem at_dead (bx gi len cap c2 : Nat) (a : Option Addr) (n : Int) (w : World) (h0 : 0 ≤ n) (h1 : n < len) (hlen : len ≤ 1048576) (hlt : bx < w.heap.size) (hlt2 : gi < w.heap.size) (hc : w.cell? ⟨bx, 1, none⟩ = some (.slice a len cap)) (hi : w.cell? ⟨bx, 2, none⟩ = some (.slice (some ⟨gi, 0, none⟩) len c2)) (hl : w.cell? ⟨gi, n.toNat, none⟩ = some (.bool false)) :
    Calls Try.prog 25 #[.pointer (some ⟨bx, 0, none⟩), .int .i64 n] w fun e w' => e = .returned (.agg #[.int .i64 0, .bool false]) ∧ Mod [] w w' := by
  have hm : ∀ o1, Mod [] w (w.alloc o1) := fun o1 => (Mod.refl _ _).alloc o1
  have hm' := Lib.hid hm
  clear hm
  go_enter Try.func25, Try.ntmps25
  go_wp2
  exact bodyPost_ret (v := .agg #[.int .i64 0, .bool false]) (by simp [results, Try.results25, go_sem]) rfl ⟨rfl, hm'.out _⟩
set_option maxHeartbeats 400000 in
theorem at_live (bx gx gi len c1 c2 : Nat) (n x : Int) (w : World) (h0 : 0 ≤ n) (h1 : n < len) (hlen : len ≤ 1048576) (hlt : bx < w.heap.size) (hlt2 : gi < w.heap.size) (hlt3 : gx < w.heap.size) (hc : w.cell? ⟨bx, 1, none⟩ = some (.slice (some ⟨gx, 0, none⟩) len c1)) (hi : w.cell? ⟨bx, 2, none⟩ = some (.slice (some ⟨gi, 0, none⟩) len c2)) (hl : w.cell? ⟨gi, n.toNat, none⟩ = some (.bool true)) (hx : w.cell? ⟨gx, n.toNat, none⟩ = some (.int .i64 x)) :
    Calls Try.prog 25 #[.pointer (some ⟨bx, 0, none⟩), .int .i64 n] w fun e w' => e = .returned (.agg #[.int .i64 x, .bool true]) ∧ Mod [] w w' := by
  have hm : ∀ o1, Mod [] w (w.alloc o1) := fun o1 => (Mod.refl _ _).alloc o1
  have hm' := Lib.hid hm
  clear hm
  go_enter Try.func25, Try.ntmps25
  go_wp2
  exact bodyPost_ret (v := .agg #[.int .i64 x, .bool true]) (by simp [results, Try.results25, go_sem]) rfl ⟨rfl, hm'.out _⟩
theorem ints_get {l : List Int} {i : Nat} {x : Int} (h : l[i]? = some x) : (ints l)[i]? = some (.int .i64 x) := by simp [ints, h]
theorem bools_get {l : List Bool} {i : Nat} {x : Bool} (h : l[i]? = some x) : (bools l)[i]? = some (.bool x) := by simp [bools, h]
theorem row_at {w : World} {e : Nat} {g cap n : Nat} {xs : List Value} (h : w.ownsRow 0 e 1 (.slice (some ⟨g, 0, none⟩) n cap) n xs) (i : Nat) {u : Value} (hu : xs[i]? = some u) : w.cell? ⟨g, i, none⟩ = some u := by
  have hi := (List.getElem?_eq_some_iff.1 hu).1
  rw [h.cellAt i (by rw [← h.1]; exact hi), hu]
theorem at_none {w : World} {bx : Nat} {A : Ar Int} {F : List Nat} (H : At w bx A F) (ok : Ok A) (n : Int) (hn : A.get n = none) :
    Calls Try.prog 25 #[.pointer (some ⟨bx, 0, none⟩), .int .i64 n] w fun e w' => e = .returned (.agg #[.int .i64 0, .bool false]) ∧ Mod [] w w' := by
  obtain ⟨sx, si, sf, X, I, hs, hb, hx, hi, hf, _⟩ := H.out
  have e1 := hs.lx
  have e2 := hs.li
  have e3 := ok.fits
  have e4 := ok.most
  obtain ⟨a1, c1, rfl⟩ := row_slice hx
  by_cases hin : 0 ≤ n ∧ n < A.cells.length
  · obtain ⟨h0, h1⟩ := hin
    obtain ⟨gi, c2, rfl⟩ := row_form hi (i := n.toNat) (by omega)
    have hd : A.cells[n.toNat]? = some none := by
      have hlt : n.toNat < A.cells.length := by omega
      rw [List.getElem?_eq_getElem hlt]
      simp only [Ar.get, h0, if_true, List.getElem?_eq_getElem hlt, Option.join_some] at hn
      rw [hn]
    have hI := hs.dead _ hd
    have hc2 := hb.cell 2 rfl
    rw [show I.length = X.length from by omega] at hc2
    exact at_dead bx gi X.length c1 c2 a1 n w h0 (by omega) (by omega) hb.lt (own_lt hi rfl) (hb.cell 1 rfl) hc2 (row_at hi _ (bools_get hI))
  · exact at_out bx a1 X.length c1 n w (by omega) hb.lt (hb.cell 1 rfl)
theorem at_some {w : World} {bx : Nat} {A : Ar Int} {F : List Nat} (H : At w bx A F) (ok : Ok A) (n x : Int) (hn : A.get n = some x) :
    Calls Try.prog 25 #[.pointer (some ⟨bx, 0, none⟩), .int .i64 n] w fun e w' => e = .returned (.agg #[.int .i64 x, .bool true]) ∧ Mod [] w w' := by
  obtain ⟨sx, si, sf, X, I, hs, hb, hx, hi, hf, _⟩ := H.out
  have e1 := hs.lx
  have e2 := hs.li
  have e3 := ok.fits
  have e4 := ok.most
  obtain ⟨h0, hc⟩ := ArI.get_some hn
  have hlt := (List.getElem?_eq_some_iff.1 hc).1
  obtain ⟨hX, hI⟩ := hs.live _ _ hc
  obtain ⟨gx, c1, rfl⟩ := row_form hx (i := n.toNat) (by omega)
  obtain ⟨gi, c2, rfl⟩ := row_form hi (i := n.toNat) (by omega)
  have hc2 := hb.cell 2 rfl
  rw [show I.length = X.length from by omega] at hc2
  exact at_live bx gx gi X.length c1 c2 n x w h0 (by omega) (by omega) hb.lt (own_lt hi rfl) (own_lt hx rfl) (hb.cell 1 rfl) hc2 (row_at hi _ (bools_get hI)) (row_at hx _ (ints_get hX))
end Ref11
end Go.Proofs.Ytmkbinbggiocaaa

set_option linter.unusedVariables false
set_option linter.unusedSimpArgs false
namespace Go.Proofs.Ytmkbinbggiocaaa
open Go.RowKit Arena
namespace Ref11

theorem At.mod {w w' : World} {bx : Nat} {A : Ar Int} {F G : List Nat} (H : At w bx A F) (m : Mod G w w') (hd : ∀ b ∈ F, b ∉ G) : At w' bx A F := by
  obtain ⟨sx, si, sf, X, I, hs, hb, hx, hi, hf, h1, h2, h3, h4, h5, h6, h7, rfl⟩ := H.out
  exact ⟨sx, si, sf, X, I, hs, hb.keep m (hd _ (by simp)), own_keep hx m (fun g hg => hd g (by simp [hg])), own_keep hi m (fun g hg => hd g (by simp [hg])), hf.keep m (fun g hg => hd g (by simp [hg])), h1, h2, h3, h4, h5, h6, fun g hg => Nat.lt_of_lt_of_le (h7 g hg) m.size, rfl⟩

/-! ### Set -/
set_option maxHeartbeats 400000 in
theorem set_none {w : World} {bx : Nat} {A : Ar Int} {F : List Nat} (H : At w bx A F) (ok : Ok A) (n x : Int) (hn : A.get n = none) :
    Calls Try.prog 23 #[.pointer (some ⟨bx, 0, none⟩), .int .i64 n, .int .i64 x] w fun e w' => e = .returned (.bool false) ∧ Mod [] w w' := by
  have hn' := Lib.hid hn; clear hn
  go_enter Try.func23, Try.ntmps23
  go_wp2_with (go_at_call 25; refine (at_none H ok _ hn'.out).mono ?_; rintro e w' ⟨rfl, hm⟩)
  go_ret
  exact ⟨rfl, hm⟩
set_option maxHeartbeats 400000 in
theorem set_some {w : World} {bx : Nat} {A : Ar Int} {F : List Nat} (H : At w bx A F) (ok : Ok A) (n x y : Int) (hn : A.get n = some y) :
    Calls Try.prog 23 #[.pointer (some ⟨bx, 0, none⟩), .int .i64 n, .int .i64 x] w fun e w' => e = .returned (.bool true) ∧ Left w w' bx (A.put n.toNat x) F := by
  obtain ⟨sx, si, sf, X, I, hs, hb, hx, hi, hf, d1, d2, d3, d4, d5, d6, d7, hF⟩ := H.out
  have e1 := hs.lx
  have e2 := hs.li
  have e3 := ok.fits
  have e4 := ok.most
  obtain ⟨h0, hc⟩ := ArI.get_some hn
  have hlt := (List.getElem?_eq_some_iff.1 hc).1
  obtain ⟨hX, hI⟩ := hs.live _ _ hc
  obtain ⟨gx, c1, rfl⟩ := row_form hx (i := n.toNat) (by omega)
  have hgx : gx ≠ bx := by simpa [Value.ownBlock] using d1
  have hfin : ∀ w1 w2, Mod [] w w1 → w2 = w1.setCell ⟨gx, n.toNat, none⟩ (.int .i64 x) → Left w w2 bx (A.put n.toNat x) F := by
    rintro w1 _ m rfl
    have hb' := hb.keep m (by simp)
    have hx' := own_keep hx m (by simp)
    have hi' := own_keep hi m (by simp)
    have hf' := hf.keep m (by simp)
    have hx2 := (hx'.stored n.toNat (.int .i64 x)).1
    rw [show (ints X).set n.toNat (.int .i64 x) = ints (X.set n.toNat x) from by simp [ints, List.map_set]] at hx2
    have hm2 : Mod [gx] w1 (w1.setCell ⟨gx, n.toNat, none⟩ (.int .i64 x)) := (Mod.refl _ _).setCell _ _ (fun _ => by simp)
    refine ⟨F, ⟨_, si, sf, X.set n.toNat x, I, ?_, ?_, by rw [List.length_set]; exact hx2, own_keep hi' hm2 (fun g hg => ?_), ?_, d1, d2, d3, d4, d5, d6, fun g hg => Nat.lt_of_lt_of_le (d7 g hg) (by have := m.size; simpa using this), hF⟩, m.of0.trans hm2 (fun b hb' _ => ?_), fun b hb => .inl hb⟩
    · exact ⟨by simp [Ar.put, e1], by simp [Ar.put, e2], fun i u hu => by
        rcases get_set_some _ _ _ _ _ hu with ⟨rfl, hv, _⟩ | ⟨hne, hj⟩
        · simp at hv; subst hv
          exact ⟨by rw [List.getElem?_set_self (by omega)], hI⟩
        · rw [List.getElem?_set_ne (Ne.symm hne)]; exact hs.live i u hj, fun i hi => by
        rcases get_set_some _ _ _ _ _ hi with ⟨rfl, hv, _⟩ | ⟨hne, hj⟩
        · simp at hv
        · exact hs.dead i hj⟩
    · have := hb'.keep hm2 (by simpa using fun e => hgx e.symm)
      simpa [Ar.put] using this
    · intro hh; simp at hh; subst hh; exact d4 _ rfl hg
    · exact hf'.keep hm2 (fun g hg hh => by simp at hh; subst hh; exact d5 _ rfl hg)
    · rw [List.mem_singleton.1 hb', hF]; simp [Value.ownBlock]
  have hfin' := Lib.hid hfin
  have hlenX : X.length ≤ 1048576 := by omega
  have hn1 : n < X.length := by omega
  have hn' := Lib.hid hn
  have hcx := row_at hx _ (ints_get hX)
  have k1 : ∀ w1, Mod [] w w1 → w1.cell? ⟨bx, 1, none⟩ = some (.slice (some ⟨gx, 0, none⟩) X.length c1) := fun w1 m => (hb.keep m (by simp)).cell 1 rfl
  have k2 : ∀ w1, Mod [] w w1 → w1.cell? ⟨gx, n.toNat, none⟩ = some (.int .i64 y) := fun w1 m => row_at (own_keep hx m (by simp)) _ (ints_get hX)
  have k3 : ∀ w1, Mod [] w w1 → w1.frozen? ⟨gx, n.toNat, none⟩ = false := fun w1 m => (own_keep hx m (by simp)).frozenAt _
  have K := Lib.hid (And.intro k1 (And.intro k2 k3))
  clear k1 k2 k3 hcx hn hfin hX hI hlt hc e1 e2 e3 e4 hF hb hx hi hf hs
  go_enter Try.func23, Try.ntmps23
  go_wp2_with (go_at_call 25; refine (at_some H ok _ _ hn'.out).mono ?_; rintro e w' ⟨rfl, hm⟩; have q1 := K.out.1 _ hm; have q2 := K.out.2.1 _ hm; have q3 := K.out.2.2 _ hm)
  go_ret
  exact ⟨rfl, hfin'.out _ _ hm rfl⟩

/-! ### Drop -/
set_option maxHeartbeats 400000 in
theorem drop_none {w : World} {bx : Nat} {A : Ar Int} {F : List Nat} (H : At w bx A F) (ok : Ok A) (n : Int) (hn : A.get n = none) :
    Calls Try.prog 21 #[.pointer (some ⟨bx, 0, none⟩), .int .i64 n] w fun e w' => e = .returned (.agg #[.int .i64 0, .bool false]) ∧ Mod [] w w' := by
  have hH : ∀ o, At (w.alloc o) bx A F := fun o => H.mod (G := []) ((Mod.refl _ _).alloc o) (by simp)
  have hn' := Lib.hid hn; clear hn
  have hH' := Lib.hid hH; clear hH
  have hmod : ∀ o w1, Mod [] (w.alloc o) w1 → Mod [] w w1 := fun o w1 h => ((Mod.refl [] w).alloc o).trans h (by simp)
  have hmod' := Lib.hid hmod; clear hmod
  go_enter Try.func21, Try.ntmps21
  go_wp2_with (go_at_call 25; refine (at_none (hH'.out _) ok _ hn'.out).mono ?_; rintro e w' ⟨rfl, hm⟩; obtain ⟨hsz, q0, q1, qf⟩ := slot2 hm)
  exact bodyPost_ret (v := .agg #[.int .i64 0, .bool false]) (by simp [results, Try.results21, go_sem, q0, q1, qf, hsz]) rfl ⟨rfl, (((hmod'.out _ _ hm).setCell _ _ (by simp)).setCell _ _ (by simp)).alloc _⟩
theorem infoI : (Try.prog.info? 3).map (fun i => (i.zero, i.size, i.bytes)) = some (some (.int .i64 0), 1, 8) := by kernel_rfl
theorem infoB : (Try.prog.info? 4).map (fun i => (i.zero, i.size, i.bytes)) = some (some (.bool false), 1, 1) := by kernel_rfl
set_option maxHeartbeats 1000000 in
theorem drop_some {w : World} {bx : Nat} {A : Ar Int} {F : List Nat} (H : At w bx A F) (ok : Ok A) (n y : Int) (hn : A.get n = some y) :
    Calls Try.prog 21 #[.pointer (some ⟨bx, 0, none⟩), .int .i64 n] w fun e w' => e = .returned (.agg #[.int .i64 y, .bool true]) ∧ Left w w' bx (A.drop n.toNat) F := by
  obtain ⟨sx, si, sf, X, I, hs, hb, hx, hi, hf, d1, d2, d3, d4, d5, d6, d7, hF⟩ := H.out
  have e1 := hs.lx
  have e2 := hs.li
  have e3 := ok.fits
  have e4 := ok.most
  obtain ⟨h0, hc⟩ := ArI.get_some hn
  have hlt := (List.getElem?_eq_some_iff.1 hc).1
  obtain ⟨hX, hI⟩ := hs.live _ _ hc
  obtain ⟨gi, c1, rfl⟩ := row_form hi (i := n.toNat) (by omega)
  have hgi : gi ≠ bx := by simpa [Value.ownBlock] using d2
  have hfl : A.free.length ≤ 1048576 := by
    have h1 := nodup_le A.cells.length A.free ok.nodup (fun i hi => (List.getElem?_eq_some_iff.1 ((ok.dead i).2 hi)).1)
    omega
  -- what the two blocks ahead hold, and the store into the row of bools
  have hH : ∀ o, At (w.alloc o) bx A F := fun o => H.mod (G := []) ((Mod.refl _ _).alloc o) (by simp)
  have hfin : ∀ o w1 w2 w3 w4 (a4 : Option Addr) (m4 c4 : Nat) (s0 s1 : Value), Mod [] (w.alloc o) w1 → w2 = (w1.setCell ⟨gi, n.toNat, none⟩ (.bool false)).alloc (.cells #[.int .i64 y, .bool true] 31) → Mod [] w2 w3 →
      m4 = (n.toNat :: A.free).length → w3.ownsRow 0 3 1 (.slice a4 m4 c4) m4 (nats (n.toNat :: A.free)) → (∀ b, (Value.slice a4 m4 c4).ownBlock = some b → w2.heap.size ≤ b) → w4 = ((w3.setCell ⟨bx, 3, none⟩ (.slice a4 m4 c4)).setCell ⟨w.heap.size, 0, none⟩ s0).setCell ⟨w.heap.size, 1, none⟩ s1 → Left w w4 bx (A.drop n.toNat) F := by
    rintro o w1 _ w3 _ a4 m4 c4 s0 s1 m1 rfl m3 rfl hrow hfresh rfl
    have hz : w.heap.size < w1.heap.size := by have := m1.size; simp at this; omega
    have m1' : Mod [] w w1 := ((Mod.refl [] w).alloc o).trans m1 (by simp)
    have mB : Mod [gi] w1 ((w1.setCell ⟨gi, n.toNat, none⟩ (.bool false)).alloc (.cells #[.int .i64 y, .bool true] 31)) := ((Mod.refl _ _).setCell _ _ (fun _ => by simp)).alloc _
    have mW : Mod [gi] w w3 := (m1'.of0.trans mB (by simp)).trans m3 (by simp)
    have hb3 : Has w3 bx _ _ := hb.keep mW (by simpa using fun e => hgi e.symm)
    have hx3 := own_keep hx mW (fun g hg hh => by simp at hh; subst hh; exact d4 _ hg rfl)
    have hi3 : w3.ownsRow 0 4 1 (.slice (some ⟨gi, 0, none⟩) I.length c1) (I.set n.toNat false).length (bools (I.set n.toNat false)) := by
      have h := ((own_keep hi m1' (by simp)).stored n.toNat (.bool false)).1.alloc (.cells #[.int .i64 y, .bool true] 31)
      rw [show (bools I).set n.toNat (.bool false) = bools (I.set n.toNat false) from by simp [bools, List.map_set]] at h
      rw [List.length_set]
      exact own_keep h m3 (by simp)
    have hbx := hb.lt
    have hgl : gi < w.heap.size := own_lt hi rfl
    have hslot : ∀ b, (Value.slice a4 (n.toNat :: A.free).length c4).ownBlock = some b → w.heap.size < b := by
      intro b hb
      have := hfresh b hb
      simp [World.setCell] at this
      omega
    have hsx : sx.ownBlock ≠ some w.heap.size := fun e => by have := own_lt hx e; omega
    have hgw : ∀ c, (Value.slice (some ⟨gi, 0, none⟩) I.length c).ownBlock ≠ some w.heap.size := fun c e => by have e' : gi = w.heap.size := Option.some.inj e; omega
    have hl4 : (n.toNat :: A.free).length = A.free.length + 1 := rfl
    refine ⟨bx :: (sx.ownBlock.toList ++ [gi] ++ (Value.slice a4 (n.toNat :: A.free).length c4).ownBlock.toList), ⟨sx, .slice (some ⟨gi, 0, none⟩) (I.set n.toNat false).length c1, .slice a4 (n.toNat :: A.free).length c4, X, I.set n.toNat false, ?_, ?_, ?_, ?_, ?_, d1, by simpa [Value.ownBlock] using hgi, ?_, ?_, ?_, ?_, fun g hg => by have := own_lt hrow hg; simpa using this, by simp [Value.ownBlock]⟩, ?_, ?_⟩
    · refine ⟨by simp [Ar.drop, e1], by simp [Ar.drop, e2], fun i u hu => ?_, fun i hu => ?_⟩
      · rcases get_set_some _ _ _ _ _ hu with ⟨rfl, hv, _⟩ | ⟨hne, hj⟩
        · simp at hv
        · rw [List.getElem?_set_ne (Ne.symm hne)]; exact hs.live i u hj
      · rcases get_set_some _ _ _ _ _ hu with ⟨rfl, hv, _⟩ | ⟨hne, hj⟩
        · rw [List.getElem?_set_self (by omega)]
        · rw [List.getElem?_set_ne (Ne.symm hne)]; exact hs.dead i hj
    · have h := ((hb3.set 3 (.slice a4 (n.toNat :: A.free).length c4)).other ⟨w.heap.size, 0, none⟩ s0 (by simp; omega)).other ⟨w.heap.size, 1, none⟩ s1 (by simp; omega)
      simpa [Ar.drop, List.length_set] using h
    · exact own_other (own_other (own_other hx3 _ _ d1) _ _ hsx) _ _ hsx
    · have h := own_other (own_other (own_other hi3 ⟨bx, 3, none⟩ (.slice a4 (n.toNat :: A.free).length c4) (by simpa [Value.ownBlock] using hgi)) ⟨w.heap.size, 0, none⟩ s0 (hgw _)) ⟨w.heap.size, 1, none⟩ s1 (hgw _)
      rw [List.length_set] at h ⊢
      exact h
    · have k1 : (Value.slice a4 (n.toNat :: A.free).length c4).ownBlock ≠ some bx := fun e => by have := hslot _ e; omega
      have k2 : (Value.slice a4 (n.toNat :: A.free).length c4).ownBlock ≠ some w.heap.size := fun e => by have := hslot _ e; omega
      have h := own_other (own_other (own_other hrow ⟨bx, 3, none⟩ (.slice a4 (n.toNat :: A.free).length c4) k1) ⟨w.heap.size, 0, none⟩ s0 k2) ⟨w.heap.size, 1, none⟩ s1 k2
      exact Reads.own h
    · intro e; have := hslot _ e; omega
    · intro g hg; simpa [Value.ownBlock] using fun e => d4 g hg (by simp [Value.ownBlock, e])
    · intro g hg e; have := hslot _ e; have := own_lt hx hg; omega
    · intro g hg e; have hg' : gi = g := Option.some.inj hg; have := hslot _ e; omega
    · refine ((((mW.mono ?_).setCell _ _ ?_).setCell _ _ (by simp)).setCell _ _ (by simp))
      · intro b hb'; rw [List.mem_singleton.1 hb', hF]; simp [Value.ownBlock]
      · intro _; rw [hF]; simp
    · intro b hb'
      rw [hF]
      simp only [List.mem_cons, List.mem_append, Option.mem_toList, List.not_mem_nil, or_false] at hb' ⊢
      rcases hb' with rfl | ((hb' | rfl) | hb')
      · exact .inl (.inl rfl)
      · exact .inl (.inr (.inl (.inl hb')))
      · exact .inl (.inr (.inl (.inr rfl)))
      · have := hslot _ hb'; exact .inr (by omega)
  have hfin' := Lib.hid hfin
  have hH' := Lib.hid hH
  have hn' := Lib.hid hn
  have hlenI : I.length ≤ 1048576 := by omega
  have hn1 : n < I.length := by omega
  have hgl : gi < w.heap.size := own_lt hi rfl
  have hbx := hb.lt
  have K : Hid (∀ o w1, Mod [] (w.alloc o) w1 → Has w1 bx [.int .i64 A.room, sx, .slice (some ⟨gi, 0, none⟩) I.length c1, sf] 41 ∧ w1.cell? ⟨gi, n.toNat, none⟩ = some (.bool true) ∧ w1.frozen? ⟨gi, n.toNat, none⟩ = false ∧ gi < w1.heap.size ∧ Reads w1 1 sf A.free.length (nats A.free)) := by
    intro o w1 m
    have m1 : Mod [] w w1 := ((Mod.refl [] w).alloc o).trans m (by simp)
    have hb1 := hb.keep m1 (by simp)
    have hi1 := own_keep hi m1 (by simp)
    exact ⟨hb1, row_at hi1 _ (bools_get hI), hi1.frozenAt _, own_lt hi1 rfl, hf.keep m1 (by simp)⟩
  have hsg : ∀ g, sf.ownBlock = some g → g ∉ [gi] := fun g hg hh => d6 gi rfl (by rw [List.mem_singleton.1 hh] at hg; exact hg)
  have hsg' := Lib.hid hsg
  have hsB : Hid (sf.ownBlock ≠ some bx) := d3
  clear hH hfin hn hX hI hlt hc e1 e2 e3 e4 hF hb hx hi hf hs H d1 d2 d3 d4 d5 d6 d7 hsg
  go_enter Try.func21, Try.ntmps21
  go_wp2_with first
    | (go_at_call 25; refine (at_some (hH'.out _) ok _ _ hn'.out).mono ?_; rintro e w1 ⟨rfl, hm⟩; obtain ⟨hb1, pg, pgf, pgl, hf1⟩ := K.out _ _ hm; have p2 := hb1.cell 2 rfl; have pf := hb1.free; have pb := hb1.lt; have hs1 := (Has.new w [.int .i64 0, .bool false] 31).keep hm (by simp); have hsz := hs1.lt)
    | (at_builtin; refine app_own rfl (.tmp 18) (.tmp 20) 36 3 _ 1 8 rfl Try.underlying36 infoI rfl (by omega) (by omega) (.slice none 0 0) 0 1 [] [.int .i64 n] rfl rfl (by simp) rfl (by simp [Value.oneCell']) (World.ownsRow_nil _ _ _ _) (by omega) ?_; intro aA cA wA hownA hmA hvA;
        have mA : Mod [gi] w1 wA := (((Mod.refl [gi] w1).setCell ⟨gi, n.toNat, none⟩ (.bool false) (by simp)).alloc (.cells #[.int .i64 y, .bool true] 31)).trans hmA (by simp [Value.ownBlock]);
        have hbA := hb1.keep mA (by simpa using fun e => hgi e.symm); have hsA := hs1.keep mA (by simp; omega); have hrA := (Has.new (w1.setCell ⟨gi, n.toNat, none⟩ (.bool false)) [.int .i64 y, .bool true] 31).keep hmA (by simp [Value.ownBlock]);
        have hfA := hf1.keep mA hsg'.out; have r3 := hbA.cell 3 rfl; have hfrA := ge_of_new (w1.heap.size + 1) rfl hvA (by simp); clear p2 pf hb1 pg pgf hvA)
    | (at_builtin; refine app_src rfl (.tmp 23) (.tmp 27) 36 3 _ 1 8 rfl Try.underlying36 infoI rfl (by omega) (by omega) (.slice aA 1 cA) sf 1 A.free.length [.int .i64 n] (nats A.free) rfl rfl (by simp [nats, Value.oneCell']) hownA hfA (by omega) ?_; intro aB cB wB hownB hmB hvB;
        have hbB := hbA.keepGe hmB hfrA (by omega); have hsB1 := hsA.keepGe hmB hfrA (by omega); have hrB := hrA.keepGe hmB hfrA (by simp); have mB := hmA.ge hmB (by simpa using hfrA);
        have t0 := hrB.cell 0 rfl; have t1 := hrB.cell 1 rfl; have u0 := hsB1.cell 0 rfl; have u1 := hsB1.cell 1 rfl; have b3 := hbB.cell 3 rfl; have bf := hbB.free; have uf := hsB1.free; simp only [World.size_setCell] at t0 t1)
  have hfr := ge_of_old (w1.heap.size + 1) hfrA hvB (by have := hmA.size; simpa using this)
  refine bodyPost_ret (v := .agg #[.int .i64 y, .bool true]) (by simp [results, Try.results21, go_sem, u0, u1, hsz, Nat.ne_of_gt hbx]) rfl ⟨rfl, hfin'.out _ _ _ _ _ aB (1 + A.free.length) cB _ _ hm rfl mB (by simp; omega) ?_ (by simpa using hfr) rfl⟩
  have e : nats (n.toNat :: A.free) = [.int .i64 n] ++ nats A.free := by simp [nats, Int.toNat_of_nonneg h0]
  rw [e]
  exact hownB
end Ref11
end Go.Proofs.Ytmkbinbggiocaaa

set_option linter.unusedVariables false
set_option linter.unusedSimpArgs false
namespace Go.Proofs.Ytmkbinbggiocaaa
open Go.RowKit Arena
namespace Ref11
theorem nats_get {l : List Nat} {i : Nat} {x : Nat} (h : l[i]? = some x) : (nats l)[i]? = some (.int .i64 (x : Int)) := by simp [nats, h]
set_option maxHeartbeats 1000000 in
theorem give_old {w : World} {bx : Nat} {A : Ar Int} {F : List Nat} (H : At w bx A F) (ok : Ok A) (x : Int) (i : Nat) (l : List Nat) (he : A.free = i :: l) :
    Calls Try.prog 19 #[.pointer (some ⟨bx, 0, none⟩), .int .i64 x] w fun e w' => e = .returned (.agg #[.int .i64 i, .bool true]) ∧ Left w w' bx (A.give x).1 F := by
  obtain ⟨sx, si, sf, X, I, hs, hb, hx, hi, hf, d1, d2, d3, d4, d5, d6, d7, hF⟩ := H.out
  have e1 := hs.lx
  have e2 := hs.li
  have e3 := ok.fits
  have e4 := ok.most
  have hdead := (ok.dead i).2 (by rw [he]; simp)
  have hlt := (List.getElem?_eq_some_iff.1 hdead).1
  have hfl : A.free.length ≤ 1048576 := by
    have h1 := nodup_le A.cells.length A.free ok.nodup (fun i hi => (List.getElem?_eq_some_iff.1 ((ok.dead i).2 hi)).1)
    omega
  obtain ⟨gx, c1, rfl⟩ := row_form hx (i := i) (by omega)
  obtain ⟨gi, c2, rfl⟩ := row_form hi (i := i) (by omega)
  have hgx : gx ≠ bx := by simpa [Value.ownBlock] using d1
  have hgi : gi ≠ bx := by simpa [Value.ownBlock] using d2
  have hxi : gx ≠ gi := by simpa [Value.ownBlock] using fun e => d4 gx rfl (by simp [Value.ownBlock, e])
  obtain ⟨gf, of, cf, hsf, hcf, hcm⟩ : ∃ gf of cf, sf = .slice (some ⟨gf, of, none⟩) A.free.length cf ∧ A.free.length ≤ cf ∧ cf ≤ maxLen := by
    rcases hf.cases with ⟨_, h0, _⟩ | h
    · rw [he] at h0; simp at h0
    · exact h
  have hlf : A.free.length = l.length + 1 := by rw [he]; rfl
  obtain ⟨x0, hX⟩ : ∃ x0, X[i]? = some x0 := ⟨X[i], List.getElem?_eq_getElem (by omega)⟩
  have hI := hs.dead i hdead
  have h0 := hf
  rw [hsf] at h0
  have hf0 := h0.cell 0 (nats_get (show A.free[0]? = some i by rw [he]; rfl))
  rw [Nat.add_zero] at hf0
  have hfin : ∀ o' w1, (1 < A.free.length → o' = of + 1) → w1 = (((w.setCell ⟨bx, 3, none⟩ (.slice (some ⟨gf, o', none⟩) (A.free.length - 1) (cf - 1))).setCell ⟨gx, i, none⟩ (.int .i64 x)).setCell ⟨gi, i, none⟩ (.bool true)).alloc (.cells #[.int .i64 i, .bool true] 31) → Left w w1 bx (A.give x).1 F := by
    rintro o' _ ho rfl
    have mW : Mod [bx, gx, gi] w ((((w.setCell ⟨bx, 3, none⟩ (.slice (some ⟨gf, o', none⟩) (A.free.length - 1) (cf - 1))).setCell ⟨gx, i, none⟩ (.int .i64 x)).setCell ⟨gi, i, none⟩ (.bool true)).alloc (.cells #[.int .i64 i, .bool true] 31)) :=
      ((((Mod.refl _ _).setCell _ _ (fun _ => by simp)).setCell _ _ (fun _ => by simp)).setCell _ _ (fun _ => by simp)).alloc _
    refine ⟨F, ⟨.slice (some ⟨gx, 0, none⟩) (X.set i x).length c1, .slice (some ⟨gi, 0, none⟩) (I.set i true).length c2, .slice (some ⟨gf, o', none⟩) (A.free.length - 1) (cf - 1), X.set i x, I.set i true, ?_, ?_, ?_, ?_, ?_, by simpa [Value.ownBlock] using hgx, by simpa [Value.ownBlock] using hgi, ?_, ?_, ?_, ?_, fun g hg => Nat.lt_of_lt_of_le (d7 g (by rw [hsf]; exact hg)) mW.size, ?_⟩, mW.mono ?_, fun b hb => .inl hb⟩
    · have hnd := ok.nodup
      rw [he] at hnd
      refine ⟨by simp [Ar.give, he, e1], by simp [Ar.give, he, e2], fun j u hu => ?_, fun j hu => ?_⟩
      · simp only [Ar.give, he] at hu
        rcases get_set_some _ _ _ _ _ hu with ⟨rfl, hv, _⟩ | ⟨hne, hj⟩
        · simp at hv; subst hv; exact ⟨by rw [List.getElem?_set_self (by omega)], by rw [List.getElem?_set_self (by omega)]⟩
        · rw [List.getElem?_set_ne (Ne.symm hne), List.getElem?_set_ne (Ne.symm hne)]; exact hs.live j u hj
      · simp only [Ar.give, he] at hu
        rcases get_set_some _ _ _ _ _ hu with ⟨rfl, hv, _⟩ | ⟨hne, hj⟩
        · simp at hv
        · rw [List.getElem?_set_ne (Ne.symm hne)]; exact hs.dead j hj
    · have h := (((hb.set 3 (.slice (some ⟨gf, o', none⟩) (A.free.length - 1) (cf - 1))).other ⟨gx, i, none⟩ (.int .i64 x) (fun e => hgx e.symm)).other ⟨gi, i, none⟩ (.bool true) (fun e => hgi e.symm)).alloc (.cells #[.int .i64 i, .bool true] 31)
      simpa [Ar.give, he] using h
    · have h := ((own_other ((own_other hx ⟨bx, 3, none⟩ (.slice (some ⟨gf, o', none⟩) (A.free.length - 1) (cf - 1)) (by simpa [Value.ownBlock] using hgx)).stored i (.int .i64 x)).1 ⟨gi, i, none⟩ (.bool true) (by simpa [Value.ownBlock] using hxi)).alloc (.cells #[.int .i64 i, .bool true] 31))
      rw [show (ints X).set i (.int .i64 x) = ints (X.set i x) from by simp [ints, List.map_set]] at h
      rw [List.length_set]; exact h
    · have h := ((own_other (own_other hi ⟨bx, 3, none⟩ (.slice (some ⟨gf, o', none⟩) (A.free.length - 1) (cf - 1)) (by simpa [Value.ownBlock] using hgi)) ⟨gx, i, none⟩ (.int .i64 x) (by simpa [Value.ownBlock] using fun e => hxi e.symm)).stored i (.bool true)).1.alloc (.cells #[.int .i64 i, .bool true] 31)
      rw [show (bools I).set i (.bool true) = bools (I.set i true) from by simp [bools, List.map_set]] at h
      rw [List.length_set]; exact h
    · have h := (h0.tail 1 (by omega) o' (by intro hh; have := ho hh; omega)).keep mW (by
        intro g hg hh
        have hg' : sf.ownBlock = some g := by rw [hsf]; exact hg
        simp only [List.mem_cons, List.not_mem_nil, or_false] at hh
        rcases hh with rfl | rfl | rfl
        · exact d3 hg'
        · exact d5 _ rfl hg'
        · exact d6 _ rfl hg')
      have e : (nats A.free).drop (1 * 1) = nats (A.give x).1.free := by simp [Ar.give, he, nats]
      rw [e] at h
      have e' : A.free.length - 1 = (A.give x).1.free.length := by simp [Ar.give, he]
      rw [e'] at h ⊢
      exact h
    · rw [hsf] at d3; exact d3
    · intro g hg; simpa [Value.ownBlock] using fun e => d4 g hg (by simp [Value.ownBlock, e])
    · intro g hg; rw [hsf] at d5; exact d5 g hg
    · intro g hg; rw [hsf] at d6; exact d6 g hg
    · rw [hF, hsf]; simp [Value.ownBlock]
    · intro b hb
      rw [hF, hsf]
      simp only [List.mem_cons, List.not_mem_nil, or_false] at hb
      rcases hb with rfl | rfl | rfl <;> simp [Value.ownBlock]
  have hfin' := Lib.hid hfin
  have c0 := hb.cell 0 rfl
  have c1' := hb.cell 1 rfl
  have c2' := hb.cell 2 rfl
  have c3 := hb.cell 3 rfl
  rw [hsf] at c3
  have hfb := hb.free
  have hfx := hx.frozenAt i
  have hfi := hi.frozenAt i
  have hcx := row_at hx _ (ints_get hX)
  have hci := row_at hi _ (bools_get hI)
  have l1 := hb.lt
  have l2 : gx < w.heap.size := own_lt hx rfl
  have l3 : gi < w.heap.size := own_lt hi rfl
  have l4 : gf < w.heap.size := World.block_lt_of_cell? w _ hf0
  have hgx' : bx ≠ gx := fun e => hgx e.symm
  have hgi' : bx ≠ gi := fun e => hgi e.symm
  have hxi' : gi ≠ gx := fun e => hxi e.symm
  have hil : i < X.length := by omega
  have hil2 : i < I.length := by omega
  have hil3 : X.length ≤ 1048576 := by omega
  have hil4 : I.length ≤ 1048576 := by omega
  have hd : decide (0 < A.free.length) = true := by simp; omega
  have hp1 : 1 ≤ A.free.length := by omega
  have hcm' : cf ≤ 9223372036854775807 := by simpa [maxLen] using hcm
  have hfg : gf ≠ bx ∧ gf ≠ gx ∧ gf ≠ gi := by
    rw [hsf] at d3 d5 d6
    exact ⟨fun e => d3 (by simp [Value.ownBlock, e]), fun e => d5 gx rfl (by simp [Value.ownBlock, e]), fun e => d6 gi rfl (by simp [Value.ownBlock, e])⟩
  obtain ⟨n1, n2, n3⟩ := hfg
  have hlf' := Lib.hid hlf
  clear hfin hb hx hi hf h0 hs H d1 d2 d3 d4 d5 d6 d7 hF hsf hX hI he hlf e1 e2 e3 e4 hdead hlt hcm
  have hsl := slice_from (P := Try.prog) 36 3 1 (by kernel_rfl) (fun w => by kernel_rfl) gf of A.free.length cf 1 1 rfl hp1
  have hfin2 := hfin'.out (offAt cf 1 of 1) _ (fun h => by unfold offAt; rw [if_neg (by omega)]) rfl
  have hfin2' := Lib.hid hfin2
  clear hfin2 hcf
  go_enter Try.func19, Try.ntmps19
  go_wp2
  exact bodyPost_ret (v := .agg #[.int .i64 i, .bool true]) (by simp [results, Try.results19, go_sem]) rfl ⟨rfl, hfin2'.out⟩
set_option maxHeartbeats 1000000 in
theorem give_full {w : World} {bx : Nat} {A : Ar Int} {F : List Nat} (H : At w bx A F) (ok : Ok A) (x : Int) (he : A.free = []) (hr : A.room ≤ A.cells.length) :
    Calls Try.prog 19 #[.pointer (some ⟨bx, 0, none⟩), .int .i64 x] w fun e w' => e = .returned (.agg #[.int .i64 0, .bool false]) ∧ Mod [] w w' := by
  obtain ⟨sx, si, sf, X, I, hs, hb, hx, hi, hf, _⟩ := H.out
  have e1 := hs.lx
  obtain ⟨af, cf, hsf⟩ : ∃ af cf, sf = .slice af 0 cf := by
    rcases hf.cases with ⟨h, _⟩ | ⟨g, o, c, h, _⟩
    · exact ⟨none, 0, h⟩
    · exact ⟨_, c, by rw [h, he]; rfl⟩
  obtain ⟨ax, cx, rfl⟩ := row_slice hx
  have c0 := hb.cell 0 rfl
  have c1 := hb.cell 1 rfl
  have c3 := hb.cell 3 rfl
  have l1 := hb.lt
  rw [hsf] at c3
  have hd2 : decide (A.room ≤ X.length) = true := by simp; omega
  have hm : ∀ nq, Mod [] w ((w.drewN nq).alloc (.cells #[.int .i64 0, .bool false] 31)) := fun nq => ((Mod.refl _ _).drewN nq).alloc _
  have hm' := Lib.hid hm
  clear hm hb hx hi hf hs H hsf e1 hr he
  go_enter Try.func19, Try.ntmps19
  go_wp2
  go_quiet (fail)
  go_wp2
  exact bodyPost_ret (v := .agg #[.int .i64 0, .bool false]) (by simp [results, Try.results19, go_sem]) rfl ⟨rfl, ((((Mod.refl _ _).alloc _).drewN nq).setCell _ _ (by simp)).setCell _ _ (by simp)⟩
theorem slice_val {w : World} {e n : Nat} {v : Value} {xs : List Value} (h : w.ownsRow 0 e 1 v n xs) : ∃ a c, v = .slice a n c := by
  rcases h.2 with ⟨rfl, h0⟩ | ⟨g, cap, cur, rfl, _⟩
  · exact ⟨none, 0, by rw [h0]⟩
  · exact ⟨_, _, rfl⟩
set_option maxHeartbeats 1000000 in
theorem give_new {w : World} {bx : Nat} {A : Ar Int} {F : List Nat} (H : At w bx A F) (ok : Ok A) (x : Int) (he : A.free = []) (hr : A.cells.length < A.room) :
    Calls Try.prog 19 #[.pointer (some ⟨bx, 0, none⟩), .int .i64 x] w fun e w' => e = .returned (.agg #[.int .i64 A.cells.length, .bool true]) ∧ Left w w' bx (A.give x).1 F := by
  obtain ⟨sx, si, sf, X, I, hs, hb, hx, hi, hf, d1, d2, d3, d4, d5, d6, d7, hF⟩ := H.out
  have e1 := hs.lx
  have e2 := hs.li
  have e4 := ok.most
  obtain ⟨af, cf, hsf⟩ : ∃ af cf, sf = .slice af 0 cf := by
    rcases hf.cases with ⟨h, _⟩ | ⟨g, o, c, h, _⟩
    · exact ⟨none, 0, h⟩
    · exact ⟨_, c, by rw [h, he]; rfl⟩
  obtain ⟨ax, cx, hsx⟩ := slice_val hx
  obtain ⟨ai, ci, hsi⟩ := slice_val hi
  have hfin : ∀ w0 w1 w2 w3 (v1 v2 s0 s1 : Value), Mod [] w w0 → w.heap.size < w0.heap.size → Mod sx.ownBlock.toList w0 w1 → w1.ownsRow 0 3 1 v1 (X.length + 1) (ints X ++ [.int .i64 x]) → (v1.ownBlock = sx.ownBlock ∨ ∃ b, v1.ownBlock = some b ∧ w0.heap.size ≤ b) →
      Mod si.ownBlock.toList (w1.setCell ⟨bx, 1, none⟩ v1) w2 → w2.ownsRow 0 4 1 v2 (I.length + 1) (bools I ++ [.bool true]) → (v2.ownBlock = si.ownBlock ∨ ∃ b, v2.ownBlock = some b ∧ (w1.setCell ⟨bx, 1, none⟩ v1).heap.size ≤ b) →
      w3 = ((w2.setCell ⟨bx, 2, none⟩ v2).setCell ⟨w.heap.size, 0, none⟩ s0).setCell ⟨w.heap.size, 1, none⟩ s1 → Left w w3 bx (A.give x).1 F := by
    rintro w0 w1 w2 _ v1 v2 s0 s1 m0 hz m1 hr1 hv1 m2 hr2 hv2 rfl
    simp only [World.size_setCell] at hv2
    have lb := hb.lt
    have z1 := m1.size
    -- where the two rows lie
    have hsxl : ∀ g, sx.ownBlock = some g → g < w.heap.size := fun g hg => own_lt hx hg
    have hsil : ∀ g, si.ownBlock = some g → g < w.heap.size := fun g hg => own_lt hi hg
    have hv1b : v1.ownBlock ≠ some bx := by
      rcases hv1 with h | ⟨b, h, hle⟩
      · rw [h]; exact d1
      · rw [h]; intro e; injection e with e; omega
    have hv2b : v2.ownBlock ≠ some bx := by
      rcases hv2 with h | ⟨b, h, hle⟩
      · rw [h]; exact d2
      · rw [h]; intro e; injection e with e; omega
    have hv1s : v1.ownBlock ≠ some w.heap.size := by
      rcases hv1 with h | ⟨b, h, hle⟩
      · rw [h]; intro e; have := hsxl _ e; omega
      · rw [h]; intro e; injection e with e; omega
    have hv2s : v2.ownBlock ≠ some w.heap.size := by
      rcases hv2 with h | ⟨b, h, hle⟩
      · rw [h]; intro e; have := hsil _ e; omega
      · rw [h]; intro e; injection e with e; omega
    have hv1i : ∀ g, v1.ownBlock = some g → si.ownBlock ≠ some g := by
      intro g hg
      rcases hv1 with h | ⟨b, h, hle⟩
      · rw [h] at hg; exact d4 g hg
      · intro e; have := hsil _ e; rw [h] at hg; injection hg with hg; omega
    have hv12 : ∀ g, v1.ownBlock = some g → v2.ownBlock ≠ some g := by
      intro g hg e
      rcases hv2 with h | ⟨b, h, hle⟩
      · rw [h] at e; exact hv1i g hg e
      · have := own_lt hr1 hg; rw [h] at e; injection e with e; omega
    have hb1 := (hb.keep m0 (by simp)).keep m1 (by simpa using fun e => d1 e)
    have hb2 := (hb1.set 1 v1).keep m2 (by simpa using fun e => d2 e)
    have hr1' := own_keep (own_other hr1 ⟨bx, 1, none⟩ v1 hv1b) m2 (fun g hg hh => hv1i g hg (by simpa using hh))
    refine ⟨bx :: (v1.ownBlock.toList ++ v2.ownBlock.toList ++ sf.ownBlock.toList), ⟨v1, v2, sf, X ++ [x], I ++ [true], ?_, ?_, ?_, ?_, ?_, hv1b, hv2b, d3, hv12, ?_, ?_, fun g hg => Nat.lt_of_lt_of_le (d7 g hg) (by have := m0.size; have := m2.size; simp at this ⊢; omega), rfl⟩, ?_, ?_⟩
    · refine ⟨by simp [Ar.give, he, hr, e1], by simp [Ar.give, he, hr, e2], fun j u hu => ?_, fun j hu => ?_⟩
      · simp only [Ar.give, he, hr, if_true] at hu
        by_cases hj : j < A.cells.length
        · rw [List.getElem?_append_left hj] at hu
          rw [List.getElem?_append_left (by omega), List.getElem?_append_left (by omega)]
          exact hs.live j u hu
        · have hj' : j = A.cells.length := by
            have := (List.getElem?_eq_some_iff.1 hu).1
            simp at this; omega
          subst hj'
          rw [List.getElem?_append_right (Nat.le_refl _)] at hu
          rw [List.getElem?_append_right (by omega), List.getElem?_append_right (by omega), e1, e2]
          simp at hu
          simp [hu]
      · simp only [Ar.give, he, hr, if_true] at hu
        by_cases hj : j < A.cells.length
        · rw [List.getElem?_append_left hj] at hu
          rw [List.getElem?_append_left (by omega)]
          exact hs.dead j hu
        · have hj' : j = A.cells.length := by
            have := (List.getElem?_eq_some_iff.1 hu).1
            simp at this; omega
          subst hj'
          rw [List.getElem?_append_right (Nat.le_refl _)] at hu
          simp at hu
    · have h := ((hb2.set 2 v2).other ⟨w.heap.size, 0, none⟩ s0 (by simp; omega)).other ⟨w.heap.size, 1, none⟩ s1 (by simp; omega)
      simpa [Ar.give, he, hr] using h
    · have h := own_other (own_other (own_other hr1' ⟨bx, 2, none⟩ v2 hv1b) ⟨w.heap.size, 0, none⟩ s0 hv1s) ⟨w.heap.size, 1, none⟩ s1 hv1s
      simpa [ints] using h
    · have h := own_other (own_other (own_other hr2 ⟨bx, 2, none⟩ v2 hv2b) ⟨w.heap.size, 0, none⟩ s0 hv2s) ⟨w.heap.size, 1, none⟩ s1 hv2s
      simpa [bools] using h
    · have hz0 : (A.give x).1.free = [] := by simp [Ar.give, he, hr]
      rw [hz0, hsf]
      refine ⟨by simp [nats], ?_⟩
      rcases hf.2 with ⟨h, _⟩ | ⟨g, o, c, h, h1, h2, _⟩
      · rw [hsf] at h; injection h with h3 h4 h5; subst h3; subst h5; exact .inl ⟨rfl, rfl⟩
      · rw [hsf] at h; injection h with h3 h4 h5; subst h3; subst h5; exact .inr ⟨g, o, cf, rfl, Nat.zero_le _, h2, by simp [nats]⟩
    · intro g hg
      rcases hv1 with h | ⟨b, h, hle⟩
      · rw [h] at hg; exact d5 g hg
      · intro e; have := d7 _ e; rw [h] at hg; injection hg with hg; omega
    · intro g hg
      rcases hv2 with h | ⟨b, h, hle⟩
      · rw [h] at hg; exact d6 g hg
      · intro e; have := d7 _ e; rw [h] at hg; injection hg with hg; omega
    · refine (((((m0.of0.trans m1 ?_).setCell _ _ ?_).trans m2 ?_).setCell _ _ ?_).setCell _ _ (by simp)).setCell _ _ (by simp)
      · intro b hb' _; rw [hF]; simp only [Option.mem_toList] at hb'; simp [hb']
      · intro _; rw [hF]; simp
      · intro b hb' _; rw [hF]; simp only [Option.mem_toList] at hb'; simp [hb']
      · intro _; rw [hF]; simp
    · intro b hb'
      rw [hF]
      simp only [List.mem_cons, List.mem_append, Option.mem_toList] at hb' ⊢
      rcases hb' with rfl | ((hb' | hb') | hb')
      · exact .inl (.inl rfl)
      · rcases hv1 with h | ⟨b', h, hle⟩
        · rw [h] at hb'; exact .inl (.inr (.inl (.inl hb')))
        · rw [h] at hb'; injection hb' with e; exact .inr (by omega)
      · rcases hv2 with h | ⟨b', h, hle⟩
        · rw [h] at hb'; exact .inl (.inr (.inl (.inr hb')))
        · rw [h] at hb'; injection hb' with e; exact .inr (by omega)
      · exact .inl (.inr (.inr hb'))
  have c0 := hb.cell 0 rfl
  have c1 := hb.cell 1 rfl
  have c3 := hb.cell 3 rfl
  have l1 := hb.lt
  rw [hsf] at c3
  rw [hsx] at c1
  have hd2 : decide (A.room ≤ X.length) = false := by simp; omega
  have hXl : X.length < 1048576 := by have := ok.fits; omega
  have hIl : I.length < 1048576 := by have := ok.fits; omega
  have hfin' := Lib.hid hfin
  have hlX : A.cells.length = X.length := e1.symm
  rw [hlX]
  subst hsx
  subst hsi
  have d1' := Lib.hid d1
  have d2' := Lib.hid d2
  have d4' := Lib.hid d4
  have hslx : Hid (∀ g, (Value.slice ax X.length cx).ownBlock = some g → g < w.heap.size) := fun g hg => own_lt hx hg
  have hsli : Hid (∀ g, (Value.slice ai I.length ci).ownBlock = some g → g < w.heap.size) := fun g hg => own_lt hi hg
  clear hfin hs H e1 e2 e4 hr he d1 d2 d3 d4 d5 d6 d7 hF hf hlX hsf
  go_enter Try.func19, Try.ntmps19
  go_wp2
  go_quiet (fail)
  have m0 : Mod [] w ((w.alloc (.cells #[.int .i64 0, .bool false] 31)).drewN nq) := ((Mod.refl _ _).alloc _).drewN _
  have hs0 : Has ((w.alloc (.cells #[.int .i64 0, .bool false] 31)).drewN nq) w.heap.size [.int .i64 0, .bool false] 31 := (Has.new w [.int .i64 0, .bool false] 31).drewN nq
  go_wp2_with first
    | (at_builtin; (refine app_own rfl (.tmp 56) (.tmp 58) 36 3 _ 1 8 rfl Try.underlying36 infoI rfl (by omega) (by omega) (.slice ax X.length cx) X.length 1 (ints X) [.int .i64 x] rfl rfl (by simp) rfl (by simp [Value.oneCell']) (own_keep hx m0 (by simp)) (by omega) ?_); intro aA cA wA hownA hmA hvA;
        have hbA := (hb.keep m0 (by simp)).keep hmA (by simpa using fun e => d1'.out e); have hsA := hs0.keep hmA (by simpa using fun e => Nat.lt_irrefl _ (hslx.out _ e));
        have c1A := hbA.cell 1 rfl; have c2A := hbA.cell 2 rfl; have fA := hbA.free; have lA := hbA.lt; have sA := hsA.lt;
        have hiA := own_other (own_keep (own_keep hi m0 (by simp)) hmA (fun g hg hh => d4'.out g (by simpa using hh) hg)) ⟨bx, 1, none⟩ (.slice aA (X.length + 1) cA) d2'.out)
    | (at_builtin; (refine app_own rfl (.tmp 66) (.tmp 67) 39 4 _ 1 1 rfl Try.underlying39 infoB rfl (by omega) (by omega) (.slice ai I.length ci) I.length 1 (bools I) [.bool true] rfl rfl (by simp) rfl (by simp [Value.oneCell']) hiA (by omega) ?_); intro aB cB wB hownB hmB hvB;
        have hbB := (hbA.set 1 (.slice aA (X.length + 1) cA)).keep hmB (by simpa using fun e => d2'.out e); have hsB := (hsA.other ⟨bx, 1, none⟩ (.slice aA (X.length + 1) cA) (by simp; omega)).keep hmB (by simpa using fun e => Nat.lt_irrefl _ (hsli.out _ e));
        have c1B := hbB.cell 1 rfl; have c2B := hbB.cell 2 rfl; have fB := hbB.free; have lB := hbB.lt; have s0B := hsB.cell 0 rfl; have s1B := hsB.cell 1 rfl; have sfB := hsB.free; have sB := hsB.lt)
  exact bodyPost_ret (v := .agg #[.int .i64 X.length, .bool true]) (by simp [results, Try.results19, go_sem, s0B, s1B, Nat.ne_of_gt l1]) rfl ⟨rfl, hfin'.out _ _ _ _ _ _ _ _ m0 (by simp) hmA hownA hvA hmB hownB hvB rfl⟩
end Ref11
end Go.Proofs.Ytmkbinbggiocaaa
