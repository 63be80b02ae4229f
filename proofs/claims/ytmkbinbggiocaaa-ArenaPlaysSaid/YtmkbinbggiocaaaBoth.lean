/- Both arenas side by side, each in blocks of its own that were made since the world w0. -/
import Derived.Test.YtmkbinbggiocaaaLive
import Derived.Test.YtmkbinbggiocaaaInts
set_option linter.unusedVariables false
set_option linter.unusedSimpArgs false
namespace Go.Proofs.Ytmkbinbggiocaaa
open Go.RowKit Arena
namespace ArI
theorem At.lt {w : World} {ba : Nat} {A : Ar Int} {F : List Nat} (H : At w ba A F) : ∀ b ∈ F, b < w.heap.size := by
  obtain ⟨sv, C, f, hfit, hb, hrow, hne, rfl⟩ := H.out
  intro b hb'
  simp only [List.mem_cons, Option.mem_toList] at hb'
  rcases hb' with rfl | h
  · exact hb.lt
  · exact own_lt hrow h
theorem At.mod {w w' : World} {ba : Nat} {A : Ar Int} {F G : List Nat} (H : At w ba A F) (m : Mod G w w') (hd : ∀ b ∈ F, b ∉ G) : At w' ba A F := by
  obtain ⟨sv, C, f, hfit, hb, hrow, hne, rfl⟩ := H.out
  exact ⟨sv, C, f, hfit, hb.keep m (hd _ (by simp)), own_keep hrow m (fun g hg => hd g (by simp [hg])), hne, rfl⟩
theorem At.ok {w : World} {ba : Nat} {A : Ar Int} {F : List Nat} (H : At w ba A F) : Ref11.Ok A := by
  obtain ⟨sv, C, f, hfit, _⟩ := H.out
  exact Ref11.ok_of hfit
end ArI
namespace Ref11
theorem At.lt {w : World} {bx : Nat} {A : Ar Int} {F : List Nat} (H : At w bx A F) : ∀ b ∈ F, b < w.heap.size := by
  obtain ⟨sx, si, sf, X, I, hs, hb, hx, hi, hf, d1, d2, d3, d4, d5, d6, d7, rfl⟩ := H.out
  intro b hb'
  simp only [List.mem_cons, List.mem_append, Option.mem_toList] at hb'
  rcases hb' with rfl | (h | h) | h
  · exact hb.lt
  · exact own_lt hx h
  · exact own_lt hi h
  · exact d7 _ h
end Ref11

/-- The number that an answer bears, 0 if there is none. -/
def numOr (o : Option Int) : Int := o.getD 0
def natOr (o : Option Nat) : Int := ((o.getD 0 : Nat) : Int)
def dropAt (A : Ar Int) (n : Int) : Ar Int := if (A.get n).isSome then A.drop n.toNat else A
def putAt (A : Ar Int) (n x : Int) : Ar Int := if (A.get n).isSome then A.put n.toNat x else A

/-- Blocks beside both, and what they hold. -/
abbrev Beside := List (Nat × List Value × TypeId)
structure Both (w0 w : World) (ba : Nat) (A : Ar Int) (bx : Nat) (B : Ar Int) (L : Beside) : Prop where
  mk ::
  out : ∃ Fa Fx, ArI.At w ba A Fa ∧ Ref11.At w bx B Fx ∧ (∀ b ∈ Fa, b ∉ Fx) ∧ (∀ b ∈ Fa, w0.heap.size ≤ b) ∧ (∀ b ∈ Fx, w0.heap.size ≤ b) ∧ Mod [] w0 w ∧ ∀ p ∈ L, Has w p.1 p.2.1 p.2.2 ∧ p.1 ∉ Fa ∧ p.1 ∉ Fx ∧ w0.heap.size ≤ p.1

theorem Both.still {w0 w w' : World} {ba bx : Nat} {A B : Ar Int} {L : Beside} (h : Both w0 w ba A bx B L) (m : Mod [] w w') : Both w0 w' ba A bx B L := by
  obtain ⟨Fa, Fx, ha, hx, hd, la, lx, hm, hL⟩ := h.out
  exact ⟨Fa, Fx, ha.mod m (by simp), hx.mod m (by simp), hd, la, lx, hm.trans m (by simp), fun p hp => ⟨(hL p hp).1.keep m (by simp), (hL p hp).2⟩⟩
theorem Both.stepA {w0 w w' : World} {ba bx : Nat} {A A' B : Ar Int} {L : Beside} {Fa Fx : List Nat} (ha : ArI.At w ba A Fa) (hx : Ref11.At w bx B Fx) (hd : ∀ b ∈ Fa, b ∉ Fx) (la : ∀ b ∈ Fa, w0.heap.size ≤ b) (lx : ∀ b ∈ Fx, w0.heap.size ≤ b) (hm : Mod [] w0 w) (hL : ∀ p ∈ L, Has w p.1 p.2.1 p.2.2 ∧ p.1 ∉ Fa ∧ p.1 ∉ Fx ∧ w0.heap.size ≤ p.1)
    (h : ArI.Left w w' ba A' Fa) : Both w0 w' ba A' bx B L := by
  obtain ⟨F', hat, hm', hs⟩ := h.out
  refine ⟨F', Fx, hat, hx.mod hm' (fun b hb hb' => hd b hb' hb), fun b hb hb' => ?_, fun b hb => ?_, lx, hm.trans hm' (fun b hb hlt => absurd (la b hb) (by omega)), fun p hp => ⟨(hL p hp).1.keep hm' (hL p hp).2.1, fun hb => ?_, (hL p hp).2.2⟩⟩
  · rcases hs b hb with h | h
    · exact hd b h hb'
    · have := hx.lt b hb'; omega
  · rcases hs b hb with h | h
    · exact la b h
    · exact Nat.le_trans hm.size h
  · rcases hs _ hb with h | h
    · exact (hL p hp).2.1 h
    · have := (hL p hp).1.lt; omega
theorem Both.stepX {w0 w w' : World} {ba bx : Nat} {A B B' : Ar Int} {L : Beside} {Fa Fx : List Nat} (ha : ArI.At w ba A Fa) (hx : Ref11.At w bx B Fx) (hd : ∀ b ∈ Fa, b ∉ Fx) (la : ∀ b ∈ Fa, w0.heap.size ≤ b) (lx : ∀ b ∈ Fx, w0.heap.size ≤ b) (hm : Mod [] w0 w) (hL : ∀ p ∈ L, Has w p.1 p.2.1 p.2.2 ∧ p.1 ∉ Fa ∧ p.1 ∉ Fx ∧ w0.heap.size ≤ p.1)
    (h : Ref11.Left w w' bx B' Fx) : Both w0 w' ba A bx B' L := by
  obtain ⟨F', hat, hm', hs⟩ := h.out
  refine ⟨Fa, F', ha.mod hm' (fun b hb hb' => hd b hb hb'), hat, fun b hb hb' => ?_, la, fun b hb => ?_, hm.trans hm' (fun b hb hlt => absurd (lx b hb) (by omega)), fun p hp => ⟨(hL p hp).1.keep hm' (hL p hp).2.2.1, (hL p hp).2.1, fun hb => ?_, (hL p hp).2.2.2⟩⟩
  · rcases hs b hb' with h | h
    · exact hd b hb h
    · have := ha.lt b hb; omega
  · rcases hs b hb with h | h
    · exact lx b h
    · exact Nat.le_trans hm.size h
  · rcases hs _ hb with h | h
    · exact (hL p hp).2.2.1 h
    · have := (hL p hp).1.lt; omega
theorem Both.mod {w0 w : World} {ba bx : Nat} {A B : Ar Int} {L : Beside} (h : Both w0 w ba A bx B L) : Mod [] w0 w := by
  obtain ⟨_, _, _, _, _, _, _, hm, _⟩ := h.out
  exact hm
theorem Both.ok {w0 w : World} {ba bx : Nat} {A B : Ar Int} {L : Beside} (h : Both w0 w ba A bx B L) : Ref11.Ok A := by
  obtain ⟨_, _, ha, _⟩ := h.out
  exact ha.ok
theorem Both.has {w0 w : World} {ba bx : Nat} {A B : Ar Int} {L : Beside} (h : Both w0 w ba A bx B L) {b : Nat} {cs : List Value} {t : TypeId} (hp : (b, cs, t) ∈ L) : Has w b cs t := by
  obtain ⟨_, _, _, _, _, _, _, _, hL⟩ := h.out
  exact (hL _ hp).1
theorem Both.add {w0 w : World} {ba bx : Nat} {A B : Ar Int} {L : Beside} (h : Both w0 w ba A bx B L) (cs : List Value) (t : TypeId) : Both w0 (w.alloc (.cells cs.toArray t)) ba A bx B ((w.heap.size, cs, t) :: L) := by
  obtain ⟨Fa, Fx, ha, hx, hd, la, lx, hm, hL⟩ := (h.still ((Mod.refl [] w).alloc (.cells cs.toArray t))).out
  obtain ⟨Fa', Fx', ha', hx', hd', la', lx', hm', hL'⟩ := h.out
  have m := (Mod.refl [] w).alloc (.cells cs.toArray t)
  refine ⟨Fa', Fx', ha'.mod m (by simp), hx'.mod m (by simp), hd', la', lx', hm'.trans m (by simp), fun p hp => ?_⟩
  rcases List.mem_cons.1 hp with rfl | hp
  · exact ⟨Has.new w cs t, fun hb => Nat.lt_irrefl _ (ha'.lt _ hb), fun hb => Nat.lt_irrefl _ (hx'.lt _ hb), hm'.size⟩
  · exact ⟨(hL' p hp).1.keep m (by simp), (hL' p hp).2⟩
theorem Both.drop {w0 w : World} {ba bx : Nat} {A B : Ar Int} {L L' : Beside} (h : Both w0 w ba A bx B L) (hs : ∀ p ∈ L', p ∈ L) : Both w0 w ba A bx B L' := by
  obtain ⟨Fa, Fx, ha, hx, hd, la, lx, hm, hL⟩ := h.out
  exact ⟨Fa, Fx, ha, hx, hd, la, lx, hm, fun p hp => hL p (hs p hp)⟩
theorem Both.fst {w0 w : World} {ba bx : Nat} {A B : Ar Int} {b : Nat} {cs : List Value} {t : TypeId} {L : Beside} (h : Both w0 w ba A bx B ((b, cs, t) :: L)) : Has w b cs t := h.has (by simp)
theorem Both.snd {w0 w : World} {ba bx : Nat} {A B : Ar Int} {b : Nat} {cs : List Value} {t : TypeId} {p : Nat × List Value × TypeId} {L : Beside} (h : Both w0 w ba A bx B (p :: (b, cs, t) :: L)) : Has w b cs t := h.has (by simp)
theorem Both.one {w0 w : World} {ba bx : Nat} {A B : Ar Int} {p : Nat × List Value × TypeId} {L : Beside} (h : Both w0 w ba A bx B (p :: L)) : Both w0 w ba A bx B [p] := h.drop (by intro q hq; rw [List.mem_singleton.1 hq]; simp)
/-- A cell of the first block beside is set; the others are other blocks. -/
theorem Both.set {w0 w : World} {ba bx b : Nat} {A B : Ar Int} {cs : List Value} {t : TypeId} {L : Beside} (h : Both w0 w ba A bx B ((b, cs, t) :: L)) (hL1 : ∀ p ∈ L, p.1 ≠ b) (i : Nat) (v : Value) :
    Both w0 (w.setCell ⟨b, i, none⟩ v) ba A bx B ((b, cs.set i v, t) :: L) := by
  obtain ⟨Fa, Fx, ha, hx, hd, la, lx, hm, hL⟩ := h.out
  have m : Mod [b] w (w.setCell ⟨b, i, none⟩ v) := (Mod.refl _ _).setCell _ _ (fun _ => by simp)
  obtain ⟨h1, h2, h3, h4⟩ := hL _ (List.mem_cons_self)
  refine ⟨Fa, Fx, ha.mod m (fun x hx1 hx2 => h2 (by rw [List.mem_singleton.1 hx2] at hx1; exact hx1)), hx.mod m (fun x hx1 hx2 => h3 (by rw [List.mem_singleton.1 hx2] at hx1; exact hx1)), hd, la, lx, hm.trans m (fun x hx1 hlt => by rw [List.mem_singleton.1 hx1] at hlt; simp only at h4; omega), fun p hp => ?_⟩
  rcases List.mem_cons.1 hp with rfl | hp
  · exact ⟨h1.set i v, h2, h3, h4⟩
  · exact ⟨(hL p (List.mem_cons_of_mem _ hp)).1.keep m (by simpa using hL1 p hp), (hL p (List.mem_cons_of_mem _ hp)).2⟩

/-! ### the calls -/
def PairOut (n : Int) (ok : Bool) (K : World → Prop) (e : Ending) (w' : World) : Prop := e = .returned (.tuple #[.int .i64 n, .bool ok]) ∧ K w'
def AggOut (n : Int) (ok : Bool) (K : World → Prop) (e : Ending) (w' : World) : Prop := e = .returned (.agg #[.int .i64 n, .bool ok]) ∧ K w'
def OneOut (v : Value) (K : World → Prop) (e : Ending) (w' : World) : Prop := e = .returned v ∧ K w'

theorem giveA {w0 w : World} {ba bx : Nat} {A B : Ar Int} {L : Beside} (h : Both w0 w ba A bx B L) (x : Int) :
    Calls Try.prog 18 #[.pointer (some ⟨ba, 0, none⟩), .int .i64 x] w (PairOut (natOr (A.give x).2) (A.give x).2.isSome fun w' => Both w0 w' ba (A.give x).1 bx B L) := by
  obtain ⟨Fa, Fx, ha, hx, hd, la, lx, hm, hL⟩ := h.out
  cases hf : A.free with
  | cons i l =>
    refine (ArI.give_old ha x i l hf).mono ?_
    rintro e w' ⟨rfl, hl⟩
    exact ⟨by simp [Ar.give, hf, natOr], Both.stepA ha hx hd la lx hm hL hl⟩
  | nil =>
    by_cases hr : A.cells.length < A.room
    · refine (ArI.give_new ha x hf hr).mono ?_
      rintro e w' ⟨rfl, hl⟩
      exact ⟨by simp [Ar.give, hf, natOr, hr], Both.stepA ha hx hd la lx hm hL hl⟩
    · refine (ArI.give_full ha x hf (by omega)).mono ?_
      rintro e w' ⟨rfl, hl⟩
      refine ⟨by simp [Ar.give, hf, natOr, hr], Both.stepA ha hx hd la lx hm hL ?_⟩
      simpa [Ar.give, hf, hr] using hl
theorem giveX {w0 w : World} {ba bx : Nat} {A B : Ar Int} {L : Beside} (h : Both w0 w ba A bx B L) (ok : Ref11.Ok B) (x : Int) :
    Calls Try.prog 19 #[.pointer (some ⟨bx, 0, none⟩), .int .i64 x] w (AggOut (natOr (B.give x).2) (B.give x).2.isSome fun w' => Both w0 w' ba A bx (B.give x).1 L) := by
  obtain ⟨Fa, Fx, ha, hx, hd, la, lx, hm, hL⟩ := h.out
  cases hf : B.free with
  | cons i l =>
    refine (Ref11.give_old hx ok x i l hf).mono ?_
    rintro e w' ⟨rfl, hl⟩
    exact ⟨by simp [Ar.give, hf, natOr], Both.stepX ha hx hd la lx hm hL hl⟩
  | nil =>
    by_cases hr : B.cells.length < B.room
    · refine (Ref11.give_new hx ok x hf hr).mono ?_
      rintro e w' ⟨rfl, hl⟩
      exact ⟨by simp [Ar.give, hf, natOr, hr], Both.stepX ha hx hd la lx hm hL hl⟩
    · refine (Ref11.give_full hx ok x hf (by omega)).mono ?_
      rintro e w' ⟨rfl, hl⟩
      refine ⟨by simp [Ar.give, hf, natOr, hr], ?_⟩
      simpa [Ar.give, hf, hr] using h.still hl
theorem freeA {w0 w : World} {ba bx : Nat} {A B : Ar Int} {L : Beside} (h : Both w0 w ba A bx B L) (n : Int) :
    Calls Try.prog 20 #[.pointer (some ⟨ba, 0, none⟩), .int .i64 n] w (PairOut (numOr (A.get n)) (A.get n).isSome fun w' => Both w0 w' ba (dropAt A n) bx B L) := by
  obtain ⟨Fa, Fx, ha, hx, hd, la, lx, hm, hL⟩ := h.out
  cases hg : A.get n with
  | some y =>
    refine (ArI.free_some ha n y hg).mono ?_
    rintro e w' ⟨rfl, hl⟩
    refine ⟨by simp [numOr], ?_⟩
    simpa [dropAt, hg] using Both.stepA ha hx hd la lx hm hL hl
  | none =>
    refine (ArI.free_none ha n hg).mono ?_
    rintro e w' ⟨rfl, rfl⟩
    exact ⟨by simp [numOr], by simpa [dropAt, hg] using h⟩
theorem dropX {w0 w : World} {ba bx : Nat} {A B : Ar Int} {L : Beside} (h : Both w0 w ba A bx B L) (ok : Ref11.Ok B) (n : Int) :
    Calls Try.prog 21 #[.pointer (some ⟨bx, 0, none⟩), .int .i64 n] w (AggOut (numOr (B.get n)) (B.get n).isSome fun w' => Both w0 w' ba A bx (dropAt B n) L) := by
  obtain ⟨Fa, Fx, ha, hx, hd, la, lx, hm, hL⟩ := h.out
  cases hg : B.get n with
  | some y =>
    refine (Ref11.drop_some hx ok n y hg).mono ?_
    rintro e w' ⟨rfl, hl⟩
    refine ⟨by simp [numOr], ?_⟩
    simpa [dropAt, hg] using Both.stepX ha hx hd la lx hm hL hl
  | none =>
    refine (Ref11.drop_none hx ok n hg).mono ?_
    rintro e w' ⟨rfl, hl⟩
    exact ⟨by simp [numOr], by simpa [dropAt, hg] using h.still hl⟩
theorem setA {w0 w : World} {ba bx : Nat} {A B : Ar Int} {L : Beside} (h : Both w0 w ba A bx B L) (n x : Int) :
    Calls Try.prog 22 #[.pointer (some ⟨ba, 0, none⟩), .int .i64 n, .int .i64 x] w (OneOut (.bool (A.get n).isSome) fun w' => Both w0 w' ba (putAt A n x) bx B L) := by
  obtain ⟨Fa, Fx, ha, hx, hd, la, lx, hm, hL⟩ := h.out
  cases hg : A.get n with
  | some y =>
    refine (ArI.set_some ha n x y hg).mono ?_
    rintro e w' ⟨rfl, hl⟩
    refine ⟨rfl, ?_⟩
    simpa [putAt, hg] using Both.stepA ha hx hd la lx hm hL hl
  | none =>
    refine (ArI.set_none ha n x hg).mono ?_
    rintro e w' ⟨rfl, rfl⟩
    exact ⟨rfl, by simpa [putAt, hg] using h⟩
theorem setX {w0 w : World} {ba bx : Nat} {A B : Ar Int} {L : Beside} (h : Both w0 w ba A bx B L) (ok : Ref11.Ok B) (n x : Int) :
    Calls Try.prog 23 #[.pointer (some ⟨bx, 0, none⟩), .int .i64 n, .int .i64 x] w (OneOut (.bool (B.get n).isSome) fun w' => Both w0 w' ba A bx (putAt B n x) L) := by
  obtain ⟨Fa, Fx, ha, hx, hd, la, lx, hm, hL⟩ := h.out
  cases hg : B.get n with
  | some y =>
    refine (Ref11.set_some hx ok n x y hg).mono ?_
    rintro e w' ⟨rfl, hl⟩
    refine ⟨rfl, ?_⟩
    simpa [putAt, hg] using Both.stepX ha hx hd la lx hm hL hl
  | none =>
    refine (Ref11.set_none hx ok n x hg).mono ?_
    rintro e w' ⟨rfl, hl⟩
    exact ⟨rfl, by simpa [putAt, hg] using h.still hl⟩
theorem atA {w0 w : World} {ba bx : Nat} {A B : Ar Int} {L : Beside} (h : Both w0 w ba A bx B L) (n : Int) :
    Calls Try.prog 24 #[.pointer (some ⟨ba, 0, none⟩), .int .i64 n] w (PairOut (numOr (A.get n)) (A.get n).isSome fun w' => Both w0 w' ba A bx B L) := by
  obtain ⟨Fa, Fx, ha, hx, hd, la, lx, hm, hL⟩ := h.out
  cases hg : A.get n with
  | some y =>
    refine (ArI.at_some ha n y hg).mono ?_
    rintro e w' ⟨rfl, rfl⟩
    exact ⟨by simp [numOr], h⟩
  | none =>
    refine (ArI.at_none ha n hg).mono ?_
    rintro e w' ⟨rfl, rfl⟩
    exact ⟨by simp [numOr], h⟩
theorem atX {w0 w : World} {ba bx : Nat} {A B : Ar Int} {L : Beside} (h : Both w0 w ba A bx B L) (ok : Ref11.Ok B) (n : Int) :
    Calls Try.prog 25 #[.pointer (some ⟨bx, 0, none⟩), .int .i64 n] w (AggOut (numOr (B.get n)) (B.get n).isSome fun w' => Both w0 w' ba A bx B L) := by
  obtain ⟨Fa, Fx, ha, hx, hd, la, lx, hm, hL⟩ := h.out
  cases hg : B.get n with
  | some y =>
    refine (Ref11.at_some hx ok n y hg).mono ?_
    rintro e w' ⟨rfl, hl⟩
    exact ⟨by simp [numOr], h.still hl⟩
  | none =>
    refine (Ref11.at_none hx ok n hg).mono ?_
    rintro e w' ⟨rfl, hl⟩
    exact ⟨by simp [numOr], h.still hl⟩
/-- A call answers a slice of so many numbers; nothing that was there changes. -/
def ListOut (l : List Nat) (w : World) (e : Ending) (w' : World) : Prop :=
  ∃ a c, e = .returned (.slice a l.length c) ∧ Reads w' 1 (.slice a l.length c) l.length (Ref11.nats l) ∧ Mod [] w w'
theorem liveA {w0 w : World} {ba bx : Nat} {A B : Ar Int} {L : Beside} (h : Both w0 w ba A bx B L) :
    Calls Try.prog 30 #[.pointer (some ⟨ba, 0, none⟩)] w (ListOut (ArI.live A) w) := by
  obtain ⟨Fa, Fx, ha, _⟩ := h.out
  refine (ArI.live_at ha).mono ?_
  rintro e w' ⟨a, c, rfl, h1, h2, _⟩
  exact ⟨a, c, rfl, Reads.own h1, h2⟩
theorem liveX {w0 w : World} {ba bx : Nat} {A B : Ar Int} {L : Beside} (h : Both w0 w ba A bx B L) (ok : Ref11.Ok B) :
    Calls Try.prog 26 #[.pointer (some ⟨bx, 0, none⟩)] w (ListOut (ArI.live B) w) := by
  obtain ⟨Fa, Fx, ha, hx, _⟩ := h.out
  refine (Ref11.live_at hx ok).mono ?_
  rintro e w' ⟨a, c, rfl, h1, h2, _⟩
  exact ⟨a, c, rfl, Reads.own h1, h2⟩
theorem lenA {w0 w : World} {ba bx : Nat} {A B : Ar Int} {L : Beside} (h : Both w0 w ba A bx B L) :
    Calls Try.prog 27 #[.pointer (some ⟨ba, 0, none⟩)] w fun e w' => e = .returned (.int .i64 A.count) ∧ w = w' := by
  obtain ⟨Fa, Fx, ha, _⟩ := h.out
  exact ArI.len_at ha
theorem roomA {w0 w : World} {ba bx : Nat} {A B : Ar Int} {L : Beside} (h : Both w0 w ba A bx B L) :
    Calls Try.prog 28 #[.pointer (some ⟨ba, 0, none⟩)] w fun e w' => e = .returned (.int .i64 A.room) ∧ w = w' := by
  obtain ⟨Fa, Fx, ha, _⟩ := h.out
  exact ArI.room_at ha
theorem roomX {w0 w : World} {ba bx : Nat} {A B : Ar Int} {L : Beside} (h : Both w0 w ba A bx B L) : w.cell? ⟨bx, 0, none⟩ = some (.int .i64 B.room) := by
  obtain ⟨Fa, Fx, ha, hx, _⟩ := h.out
  obtain ⟨sx, si, sf, X, I, hs, hb, _⟩ := hx.out
  exact hb.cell 0 rfl
/-- There are as many given as the count tells. -/
theorem filter_not_mem (l : List Nat) (n : Nat) : ∀ (free : List Nat), free.Nodup → (∀ i ∈ free, i < n) → l = List.range n → (l.filter fun i => decide (i ∉ free)).length + free.length = n := by
  intro free hnd hlt hl
  subst hl
  induction free with
  | nil => rw [List.filter_eq_self.2 (by simp)]; simp
  | cons a free ih =>
    have hnd' := List.nodup_cons.1 hnd
    have h1 := ih hnd'.2 (fun i hi => hlt i (List.mem_cons_of_mem _ hi))
    have h2 : ((List.range n).filter fun i => decide (i ∉ free)).length = ((List.range n).filter fun i => decide (i ∉ a :: free)).length + 1 := by
      have ha := hlt a (by simp)
      have e1 : ((List.range n).filter fun i => decide (i ∉ a :: free)) = ((List.range n).filter fun i => decide (i ∉ free)).erase a := by
        rw [List.Nodup.erase_eq_filter ((List.nodup_range).filter _), List.filter_filter]
        congr 1
        funext i
        by_cases hi : i = a <;> simp [hi]
      have hm : a ∈ (List.range n).filter fun i => decide (i ∉ free) := by
        rw [List.mem_filter]
        exact ⟨List.mem_range.2 ha, by simpa using hnd'.1⟩
      rw [e1, List.length_erase_of_mem hm]
      have := List.length_pos_of_mem hm
      omega
    simp only [List.length_cons]
    omega
theorem count_live {A : Ar Int} (ok : Ref11.Ok A) : A.count = (ArI.live A).length := by
  have hlt : ∀ i ∈ A.free, i < A.cells.length := fun i hi => (List.getElem?_eq_some_iff.1 ((ok.dead i).2 hi)).1
  have h := filter_not_mem (List.range A.cells.length) A.cells.length A.free ok.nodup hlt rfl
  have e : ArI.live A = (List.range A.cells.length).filter fun i => decide (i ∉ A.free) := by
    unfold ArI.live ArI.liveTo
    refine List.filter_congr fun i hi => ?_
    have hi' := List.mem_range.1 hi
    by_cases hf : i ∈ A.free
    · have := (ok.dead i).2 hf
      simp [this, hf]
    · have hne : A.cells[i]? ≠ some none := fun e => hf ((ok.dead i).1 e)
      rw [List.getElem?_eq_getElem hi'] at hne ⊢
      cases hc : A.cells[i] with
      | none => rw [hc] at hne; exact absurd rfl hne
      | some x => simp [hf]
  rw [e]
  unfold Ar.count
  omega
end Go.Proofs.Ytmkbinbggiocaaa
