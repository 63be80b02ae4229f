/- An arena as a plain thing: of each number that was ever given what is in it, and the numbers that are free; how the program's cells tell it. -/
import Derived.WalkKit
set_option linter.unusedVariables false
set_option linter.unusedSimpArgs false
namespace Go.Proofs.YtjpfmkfikidgkaaGreat
namespace Arena

structure Ar (E : Type) where
  room : Nat
  cells : List (Option E)
  free : List Nat

variable {E : Type}
abbrev RC (E : Type) := E × Bool × Int

def Chain (z : E) (C : List (RC E)) : Int → List Nat → Prop
  | h, [] => h = -1
  | h, i :: l => h = (i : Int) ∧ ∃ nx, C[i]? = some (z, false, nx) ∧ Chain z C nx l

structure Fits (z : E) (A : Ar E) (C : List (RC E)) (f : Int) : Prop where
  len : C.length = A.cells.length
  fits : A.cells.length ≤ A.room
  most : A.room ≤ 1048576
  live : ∀ (i : Nat) (x : E), A.cells[i]? = some (some x) → C[i]? = some (x, true, 0)
  dead : ∀ i : Nat, A.cells[i]? = some none ↔ i ∈ A.free
  nodup : A.free.Nodup
  chain : Chain z C f A.free

def Ar.count (A : Ar E) : Nat := A.cells.length - A.free.length
def Ar.get (A : Ar E) (i : Int) : Option E := if 0 ≤ i then (A.cells[i.toNat]?).join else none
def Ar.give (A : Ar E) (x : E) : Ar E × Option Nat :=
  match A.free with
  | i :: l => ({ A with cells := A.cells.set i (some x), free := l }, some i)
  | [] => if A.cells.length < A.room then ({ A with cells := A.cells ++ [some x] }, some A.cells.length) else (A, none)
def Ar.put (A : Ar E) (i : Nat) (x : E) : Ar E := { A with cells := A.cells.set i (some x) }
def Ar.drop (A : Ar E) (i : Nat) : Ar E := { A with cells := A.cells.set i none, free := i :: A.free }

theorem Chain.keep {z : E} {C : List (RC E)} {l : List Nat} : ∀ {h : Int}, Chain z C h l → ∀ (k : Nat) (c : RC E), k ∉ l → Chain z (C.set k c) h l := by
  induction l with
  | nil => intro h hc k c _; exact hc
  | cons i l ih =>
    intro h hc k c hk
    obtain ⟨e, nx, hi, hr⟩ := hc
    simp only [List.mem_cons, not_or] at hk
    exact ⟨e, nx, by rw [List.getElem?_set_ne hk.1]; exact hi, ih hr k c hk.2⟩
theorem Chain.snoc {z : E} {C : List (RC E)} {l : List Nat} (c : RC E) : ∀ {h : Int}, Chain z C h l → Chain z (C ++ [c]) h l := by
  induction l with
  | nil => intro h hc; exact hc
  | cons i l ih =>
    intro h hc
    obtain ⟨e, nx, hi, hr⟩ := hc
    refine ⟨e, nx, ?_, ih hr⟩
    have := (List.getElem?_eq_some_iff.1 hi).1
    rw [List.getElem?_append_left this]; exact hi
theorem Fits.free_lt {z : E} {A : Ar E} {C : List (RC E)} {f : Int} (h : Fits z A C f) {i : Nat} (hi : i ∈ A.free) : i < A.cells.length :=
  (List.getElem?_eq_some_iff.1 ((h.dead i).2 hi)).1
theorem nodup_le (n : Nat) : ∀ (l : List Nat), l.Nodup → (∀ i ∈ l, i < n) → l.length ≤ n := by
  induction n with
  | zero =>
    intro l _ hb
    cases l with
    | nil => simp
    | cons a l => exact absurd (hb a (by simp)) (by omega)
  | succ n ih =>
    intro l hn hb
    by_cases hm : n ∈ l
    · have h1 := ih (l.erase n) (hn.erase n) (fun i hi => by
        have h2 := (hn.mem_erase_iff).1 hi
        have h3 := hb i h2.2
        have h4 := h2.1
        omega)
      rw [List.length_erase_of_mem hm] at h1
      omega
    · have h1 := ih l hn (fun i hi => by
        have h3 := hb i hi
        have h4 : i ≠ n := fun e => hm (e ▸ hi)
        omega)
      omega
theorem Fits.free_le {z : E} {A : Ar E} {C : List (RC E)} {f : Int} (h : Fits z A C f) : A.free.length ≤ A.cells.length :=
  nodup_le _ _ h.nodup fun _ hi => h.free_lt hi
theorem Fits.head {z : E} {A : Ar E} {C : List (RC E)} {f : Int} (h : Fits z A C f) {i : Nat} {l : List Nat} (e : A.free = i :: l) :
    f = (i : Int) ∧ i < A.cells.length ∧ ∃ nx, C[i]? = some (z, false, nx) ∧ Chain z C nx l := by
  have hc := h.chain
  rw [e] at hc
  exact ⟨hc.1, h.free_lt (by rw [e]; simp), hc.2⟩
theorem Fits.new {z : E} {A : Ar E} {C : List (RC E)} {f : Int} (h : Fits z A C f) (e : A.free = []) (hr : A.cells.length < A.room) (x : E) :
    Fits z { A with cells := A.cells ++ [some x] } (C ++ [(x, true, 0)]) f where
  len := by simp [h.len]
  fits := by simp; omega
  most := h.most
  live := by
    intro i y hy
    by_cases hi : i < A.cells.length
    · rw [List.getElem?_append_left hi] at hy
      rw [List.getElem?_append_left (by rw [h.len]; exact hi)]
      exact h.live i y hy
    · rw [List.getElem?_append_right (by omega)] at hy
      rw [List.getElem?_append_right (by rw [h.len]; omega), h.len]
      obtain ⟨hlt, _⟩ := List.getElem?_eq_some_iff.1 hy
      have : i - A.cells.length = 0 := by simp at hlt; omega
      rw [this] at hy ⊢
      simp at hy
      simp [hy]
  dead := by
    intro i
    rw [← h.dead i]
    by_cases hi : i < A.cells.length
    · simp only [List.getElem?_append_left hi]
    · have e1 : A.cells[i]? = none := by simp; omega
      rw [e1]
      constructor
      · intro hy
        simp only at hy
        rw [List.getElem?_append_right (by omega)] at hy
        obtain ⟨hlt, hv⟩ := List.getElem?_eq_some_iff.1 hy
        simp at hv
      · intro hy; cases hy
  nodup := h.nodup
  chain := h.chain.snoc _
theorem get_set_some {β : Type} (l : List β) (k i : Nat) (v u : β) (h : (l.set k v)[i]? = some u) : (i = k ∧ u = v ∧ k < l.length) ∨ (i ≠ k ∧ l[i]? = some u) := by
  by_cases e : k = i
  · subst e
    rw [List.getElem?_set_self'] at h
    cases hk : l[k]? with
    | none => simp [hk] at h
    | some b => simp [hk] at h; exact .inl ⟨rfl, h.symm, (List.getElem?_eq_some_iff.1 hk).1⟩
  · rw [List.getElem?_set_ne e] at h
    exact .inr ⟨fun e' => e e'.symm, h⟩
theorem Fits.old {z : E} {A : Ar E} {C : List (RC E)} {f nx : Int} (h : Fits z A C f) {i : Nat} {l : List Nat} (e : A.free = i :: l) (hi : C[i]? = some (z, false, nx)) (x : E) :
    Fits z { A with cells := A.cells.set i (some x), free := l } (C.set i (x, true, 0)) nx := by
  obtain ⟨_, hlt, nx', hi', hch⟩ := h.head e
  have hnx : nx' = nx := by rw [hi] at hi'; simp at hi'; exact hi'.symm
  subst hnx
  have hnd := h.nodup
  rw [e] at hnd
  have hil : i ∉ l := (List.nodup_cons.1 hnd).1
  exact {
    len := by simp [h.len]
    fits := by simpa using h.fits
    most := h.most
    live := by
      intro j y hy
      rcases get_set_some _ _ _ _ _ hy with ⟨rfl, hv, _⟩ | ⟨hne, hj⟩
      · simp at hv; subst hv
        rw [List.getElem?_set_self (by rw [h.len]; exact hlt)]
      · rw [List.getElem?_set_ne (Ne.symm hne)]
        exact h.live j y hj
    dead := by
      intro j
      by_cases hj : j = i
      · subst hj
        simp only [List.getElem?_set_self hlt]
        constructor
        · intro hh; simp at hh
        · intro hh; exact absurd hh hil
      · simp only [List.getElem?_set_ne (Ne.symm hj)]
        rw [h.dead j, e]
        simp [hj]
    nodup := (List.nodup_cons.1 hnd).2
    chain := hch.keep i _ hil }
theorem Fits.put {z : E} {A : Ar E} {C : List (RC E)} {f : Int} (h : Fits z A C f) {i : Nat} {y : E} (hi : A.cells[i]? = some (some y)) (x : E) :
    Fits z (A.put i x) (C.set i (x, true, 0)) f := by
  have hlt := (List.getElem?_eq_some_iff.1 hi).1
  have hnf : i ∉ A.free := fun hm => by have := (h.dead i).2 hm; rw [hi] at this; simp at this
  exact {
    len := by simp [Ar.put, h.len]
    fits := by simpa [Ar.put] using h.fits
    most := h.most
    live := by
      intro j u hu
      rcases get_set_some _ _ _ _ _ hu with ⟨rfl, hv, _⟩ | ⟨hne, hj⟩
      · simp at hv; subst hv
        rw [List.getElem?_set_self (by rw [h.len]; exact hlt)]
      · rw [List.getElem?_set_ne (Ne.symm hne)]
        exact h.live j u hj
    dead := by
      intro j
      by_cases hj : j = i
      · subst hj
        simp only [Ar.put, List.getElem?_set_self hlt]
        constructor
        · intro hh; simp at hh
        · intro hh; exact absurd hh hnf
      · simp only [Ar.put, List.getElem?_set_ne (Ne.symm hj)]
        exact h.dead j
    nodup := h.nodup
    chain := h.chain.keep i _ hnf }
theorem Fits.drop {z : E} {A : Ar E} {C : List (RC E)} {f : Int} (h : Fits z A C f) {i : Nat} {y : E} (hi : A.cells[i]? = some (some y)) :
    Fits z (A.drop i) (C.set i (z, false, f)) i := by
  have hlt := (List.getElem?_eq_some_iff.1 hi).1
  have hnf : i ∉ A.free := fun hm => by have := (h.dead i).2 hm; rw [hi] at this; simp at this
  exact {
    len := by simp [Ar.drop, h.len]
    fits := by simpa [Ar.drop] using h.fits
    most := h.most
    live := by
      intro j u hu
      rcases get_set_some _ _ _ _ _ hu with ⟨rfl, hv, _⟩ | ⟨hne, hj⟩
      · simp at hv
      · rw [List.getElem?_set_ne (Ne.symm hne)]
        exact h.live j u hj
    dead := by
      intro j
      by_cases hj : j = i
      · subst hj
        simp only [Ar.drop, List.getElem?_set_self hlt]
        simp
      · simp only [Ar.drop, List.getElem?_set_ne (Ne.symm hj)]
        rw [h.dead j]
        simp [hj]
    nodup := List.nodup_cons.2 ⟨hnf, h.nodup⟩
    chain := ⟨rfl, f, by rw [List.getElem?_set_self (by rw [h.len]; exact hlt)], h.chain.keep i _ hnf⟩ }
theorem Fits.made (z : E) (room : Nat) (h : room ≤ 1048576) : Fits z (⟨room, [], []⟩ : Ar E) [] (-1) :=
  ⟨rfl, by simp, h, by simp, by simp, by simp, rfl⟩
/-- What the program's test tells: is the number given? -/
theorem Fits.given {z : E} {A : Ar E} {C : List (RC E)} {f : Int} (h : Fits z A C f) {i : Nat} (hi : i < C.length) :
    (∃ x, A.cells[i]? = some (some x) ∧ C[i]? = some (x, true, 0)) ∨ (A.cells[i]? = some none ∧ ∃ nx, C[i]? = some (z, false, nx)) := by
  have hlt : i < A.cells.length := by rw [← h.len]; exact hi
  cases hc : A.cells[i] with
  | some x => exact .inl ⟨x, by rw [List.getElem?_eq_getElem hlt, hc], h.live i x (by rw [List.getElem?_eq_getElem hlt, hc])⟩
  | none =>
    have h1 : A.cells[i]? = some none := by rw [List.getElem?_eq_getElem hlt, hc]
    refine .inr ⟨h1, ?_⟩
    have hm := (h.dead i).1 h1
    have key : ∀ (l : List Nat) (g : Int), Chain z C g l → i ∈ l → ∃ nx, C[i]? = some (z, false, nx) := by
      intro l
      induction l with
      | nil => intro g _ hm; cases hm
      | cons j l ih =>
        intro g hg hm
        obtain ⟨_, nx, hj, hr⟩ := hg
        rcases List.mem_cons.1 hm with rfl | hm
        · exact ⟨nx, hj⟩
        · exact ih nx hr hm
    exact key _ _ h.chain hm
end Arena
end Go.Proofs.YtjpfmkfikidgkaaGreat
