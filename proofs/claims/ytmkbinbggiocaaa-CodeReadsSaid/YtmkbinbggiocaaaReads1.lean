/- CodeReads: where both readers stand; the operations that are read out of the list. -/
import Derived.Test.YtmkbinbggiocaaaNone45
import Derived.Test.YtmkbinbggiocaaaBack45
set_option linter.unusedVariables false
set_option linter.unusedSimpArgs false
namespace Go.Proofs.Ytmkbinbggiocaaa
open Go.RowKit
namespace Code
abbrev OpS := Int × Int × ByteArray
def encOpS (o : OpS) : List Value := [.int .i64 o.1, .int .i64 o.2.1, .string o.2.2]
theorem encOpS_len (o : OpS) : (encOpS o).length = 3 := rfl
theorem ops_cells {w : World} {ops : List OpS} {a : Option Addr} {c k : Nat} (h : Rd w 3 (.slice a ops.length c) ops.length (flat encOpS ops)) (hk : k < ops.length) :
    ∃ g o x, a = some ⟨g, o, none⟩ ∧ ops[k]? = some x ∧ ∀ w', Mod [] w w' → w'.cell? ⟨g, o + k * 3, none⟩ = some (.int .i64 x.1) ∧ w'.cell? ⟨g, o + k * 3 + 1, none⟩ = some (.int .i64 x.2.1) ∧ w'.cell? ⟨g, o + k * 3 + 2, none⟩ = some (.string x.2.2) := by
  have hpos : 0 < (flat encOpS ops).length := by rw [h.1]; omega
  obtain ⟨g, o, rfl, _, _, _⟩ := h.at hpos
  have k0 := flat_get encOpS_len ops k 0 hk (by omega)
  have k1 := flat_get encOpS_len ops k 1 hk (by omega)
  have k2 := flat_get encOpS_len ops k 2 hk (by omega)
  refine ⟨g, o, ops[k], rfl, List.getElem?_eq_getElem hk, fun w' m => ?_⟩
  have h' := h.still m
  exact ⟨by have := h'.cellAt (k * 3 + 0) (u := .int .i64 ops[k].1) (by rw [k0]; rfl); simpa using this, by have := h'.cellAt (k * 3 + 1) (u := .int .i64 ops[k].2.1) (by rw [k1]; rfl); simpa [Nat.add_assoc] using this, by have := h'.cellAt (k * 3 + 2) (u := .string ops[k].2.2) (by rw [k2]; rfl); simpa [Nat.add_assoc] using this⟩
theorem RAt.keep {F : List Nat} {w w' : World} {r c k : Nat} {a : Option Addr} {bs : List Int} {stop : Bool} (h : RAt w r a c bs k stop) (m : Mod F w w') (hr : r ∉ F) (ha : ∀ g, (Value.slice a bs.length c).ownBlock = some g → g ∉ F) : RAt w' r a c bs k stop :=
  ⟨h.has.keep m hr, own_keep h.own m ha, h.ne, h.le, h.big⟩
theorem XAt.keep {F : List Nat} {w0 w w' : World} {r k : Nat} {vb : Value} {bs : List Int} {stop : Bool} (h : XAt w0 w r vb bs k stop) (m : Mod F w w') (hr : r ∉ F) (hF : ∀ b ∈ F, w0.heap.size ≤ b) : XAt w0 w' r vb bs k stop :=
  ⟨h.has.keep m hr, h.rd, h.base.trans m (fun b hb hlt => by have := hF b hb; omega), h.new, h.le, h.big⟩
/-- Where both readers stand, and the bytes that were handed to the first one. -/
structure RX (w0 w : World) (r rx : Nat) (a ai : Option Addr) (c ci : Nat) (vb : Value) (bs : List Int) (k : Nat) (stop : Bool) : Prop where
  rt : RAt w r a c bs k stop
  xt : XAt w0 w rx vb bs k stop
  inn : w.ownsRow 0 5 1 (.slice ai bs.length ci) bs.length (u8s bs)
  rr : w0.heap.size ≤ r
  rrx : r < rx
  ra : ∀ g, (Value.slice a bs.length c).ownBlock = some g → g ≠ rx ∧ w0.heap.size ≤ g
  rin : ∀ g, (Value.slice ai bs.length ci).ownBlock = some g → g ≠ r ∧ g ≠ rx
theorem RX.mod {w0 w : World} {r rx c ci k : Nat} {a ai : Option Addr} {vb : Value} {bs : List Int} {stop : Bool} (h : RX w0 w r rx a ai c ci vb bs k stop) : Mod [] w0 w := h.xt.base
theorem RX.still {w0 w w' : World} {r rx c ci k : Nat} {a ai : Option Addr} {vb : Value} {bs : List Int} {stop : Bool} (h : RX w0 w r rx a ai c ci vb bs k stop) (m : Mod [] w w') : RX w0 w' r rx a ai c ci vb bs k stop :=
  ⟨h.rt.still m, h.xt.still m, own_keep h.inn m (by simp), h.rr, h.rrx, h.ra, h.rin⟩
/-- Both have gone on. -/
theorem RX.go {w0 w w1 w2 : World} {r rx c ci k k' : Nat} {a ai : Option Addr} {vb : Value} {bs : List Int} {stop s' : Bool} (h : RX w0 w r rx a ai c ci vb bs k stop) (m1 : Mod [r] w w1) (hR : RAt w1 r a c bs k' s') (m2 : Mod [rx] w1 w2) (hX : XAt w0 w2 rx vb bs k' s') : RX w0 w2 r rx a ai c ci vb bs k' s' := by
  have hne := h.rrx
  refine ⟨hR.keep m2 (by simp; omega) (fun g hg hm => (h.ra g hg).1 (by simpa using hm)), hX, ?_, h.rr, h.rrx, h.ra, h.rin⟩
  exact own_keep (own_keep h.inn m1 (fun g hg hm => (h.rin g hg).1 (by simpa using hm))) m2 (fun g hg hm => (h.rin g hg).2 (by simpa using hm))
/-- What the calls may do: the readers' blocks, and where these are as they shall be, they stay so. -/
def GS (r rx : Nat) (v vb : Value) (k : Nat) (stop : Bool) (w w' : World) : Prop :=
  Mod [r, rx] w w' ∧ ((Has w r [v, .int .i64 k, .bool stop] 160 ∧ Has w rx [vb, .int .i64 k, .bool stop] 75) → (Has w' r [v, .int .i64 k, .bool stop] 160 ∧ Has w' rx [vb, .int .i64 k, .bool stop] 75))
theorem GS.refl (r rx : Nat) (v vb : Value) (k : Nat) (stop : Bool) (w : World) : GS r rx v vb k stop w w := ⟨Mod.refl _ _, id⟩
theorem GS.trans (r rx : Nat) (v vb : Value) (k : Nat) (stop : Bool) (w1 w2 w3 : World) (h1 : GS r rx v vb k stop w1 w2) (h2 : GS r rx v vb k stop w2 w3) : GS r rx v vb k stop w1 w3 :=
  ⟨h1.1.trans h2.1 (fun b hb _ => hb), fun h => h2.2 (h1.2 h)⟩
instance (r rx : Nat) (v vb : Value) (k : Nat) (stop : Bool) (w : World) : Nonempty (Fut (GS r rx v vb k stop) w) := ⟨⟨w, GS.refl _ _ _ _ _ _ _⟩⟩
theorem GS.still {r rx : Nat} {v vb : Value} {k : Nat} {stop : Bool} {w w' : World} (m : Mod [] w w') : GS r rx v vb k stop w w' := ⟨m.of0, fun h => ⟨h.1.keep m (by simp), h.2.keep m (by simp)⟩⟩
theorem GS.left {r rx : Nat} {v vb : Value} {k : Nat} {stop : Bool} {w w' : World} (hne : r ≠ rx) (m : Mod [r] w w') (h : Has w' r [v, .int .i64 k, .bool stop] 160) : GS r rx v vb k stop w w' :=
  ⟨m.mono (by simp), fun h' => ⟨h, h'.2.keep m (by simp; omega)⟩⟩
theorem GS.right {r rx : Nat} {v vb : Value} {k : Nat} {stop : Bool} {w w' : World} (hne : r ≠ rx) (m : Mod [rx] w w') (h : Has w' rx [vb, .int .i64 k, .bool stop] 75) : GS r rx v vb k stop w w' :=
  ⟨m.mono (by simp), fun h' => ⟨h'.1.keep m (by simp; omega), h⟩⟩
theorem GS.cell {r rx : Nat} {v vb : Value} {k : Nat} {stop : Bool} {w w1 : World} (h : GS r rx v vb k stop w w1) {a : Addr} {u : Value} (f : ∀ m : Fut (GS r rx v vb k stop) w, m.v.cell? a = some u) : ∀ m : Fut (GS r rx v vb k stop) w1, m.v.cell? a = some u := fun m => f ⟨m.v, GS.trans _ _ _ _ _ _ _ _ _ h m.of⟩
end Code
end Go.Proofs.Ytmkbinbggiocaaa
