/- A slice that is read, wherever it begins, empty ones with whatever address let in; append from it. -/
import Derived.Test.YtjpfmkfikidgkaaGreatKit2
import Derived.Test.YtjpfmkfikidgkaaGreatFlat
set_option linter.unusedVariables false
set_option linter.unusedSimpArgs false
namespace Go.Proofs.YtjpfmkfikidgkaaGreat
open Go.RowKit

def Rd (w : World) (size : Nat) (v : Value) (n : Nat) (xs : List Value) : Prop :=
  xs.length = n * size ∧ ((v = .slice none 0 0 ∧ n = 0) ∨ ∃ ad c, v = .slice (some ad) n c ∧ n ≤ c ∧ c ≤ maxLen ∧ ∀ j u, xs[j]? = some u → w.cell? (ad.add j) = some u)
theorem Rd.keep {F : List Nat} {w w' : World} {size n : Nat} {v : Value} {xs : List Value} (h : Rd w size v n xs) (m : Mod F w w') (hb : ∀ g, v.ownBlock = some g → g ∉ F) : Rd w' size v n xs := by
  refine ⟨h.1, ?_⟩
  rcases h.2 with hn | ⟨ad, c, rfl, h1, h2, h3⟩
  · exact .inl hn
  · refine .inr ⟨ad, c, rfl, h1, h2, fun j u hu => ?_⟩
    have hc := h3 j u hu
    have hblk : (ad.add j).block = ad.block := by unfold Addr.add; split <;> rfl
    refine (World.cell?_of_block (m.block _ (World.block_lt_of_cell? w _ hc) ?_)).trans hc
    rw [hblk]; exact hb _ rfl
theorem Rd.still {w w' : World} {size n : Nat} {v : Value} {xs : List Value} (h : Rd w size v n xs) (m : Mod [] w w') : Rd w' size v n xs := h.keep m (by simp)
theorem Rd.nil (w : World) (size : Nat) : Rd w size (.slice none 0 0) 0 [] := ⟨by simp, .inl ⟨rfl, rfl⟩⟩
theorem Rd.ofReads {w : World} {size n : Nat} {v : Value} {xs : List Value} (h : Reads w size v n xs) : Rd w size v n xs := by
  refine ⟨h.1, ?_⟩
  rcases h.2 with hn | ⟨g, o, c, rfl, h1, h2, h3⟩
  · exact .inl hn
  · exact .inr ⟨⟨g, o, none⟩, c, rfl, h1, h2, fun j u hu => by rw [Addr.add_lit]; exact h3 j u hu⟩
theorem Rd.own {w : World} {base e size n : Nat} {v : Value} {xs : List Value} (h : w.ownsRow base e size v n xs) : Rd w size v n xs := Rd.ofReads (Reads.own h)
theorem Rd.val {w : World} {size n : Nat} {v : Value} {xs : List Value} (h : Rd w size v n xs) : ∃ a c, v = .slice a n c := by
  rcases h.2 with ⟨rfl, rfl⟩ | ⟨ad, c, rfl, _⟩
  · exact ⟨none, 0, rfl⟩
  · exact ⟨some ad, c, rfl⟩
theorem Rd.le {w : World} {size n : Nat} {v : Value} {xs : List Value} (h : Rd w size v n xs) : n ≤ 9223372036854775807 := by
  rcases h.2 with ⟨rfl, rfl⟩ | ⟨ad, c, rfl, h1, h2, _⟩
  · omega
  · simp only [maxLen] at h2; omega
/-- Where there is something to read, the row begins at a plain place. -/
theorem Rd.at {w : World} {size n c : Nat} {a : Option Addr} {xs : List Value} (h : Rd w size (.slice a n c) n xs) (hn : 0 < xs.length) :
    ∃ g o, a = some ⟨g, o, none⟩ ∧ n ≤ c ∧ c ≤ maxLen ∧ ∀ j u, xs[j]? = some u → w.cell? ⟨g, o + j, none⟩ = some u := by
  rcases h.2 with ⟨he, h0⟩ | ⟨ad, c', he, h1, h2, h3⟩
  · rw [h.1, h0] at hn; simp at hn
  · injection he with he _ hc
    subst he; subst hc
    obtain ⟨g, o, spot⟩ := ad
    have h00 := h3 0 xs[0] (List.getElem?_eq_getElem hn)
    have hspot : spot = none := by simpa [Addr.add] using World.cell?_spot h00
    subst hspot
    exact ⟨g, o, rfl, h1, h2, fun j u hu => by have := h3 j u hu; rwa [Addr.add_lit] at this⟩
theorem Rd.cellAt {w : World} {size n g o c : Nat} {xs : List Value} (h : Rd w size (.slice (some ⟨g, o, none⟩) n c) n xs) (j : Nat) {u : Value} (hu : xs[j]? = some u) : w.cell? ⟨g, o + j, none⟩ = some u := by
  obtain ⟨g', o', e, _, _, h3⟩ := h.at (by rcases Nat.lt_or_ge j xs.length with h' | h'; · omega
                                           · simp [List.getElem?_eq_none h'] at hu)
  simp only [Option.some.injEq, Addr.mk.injEq] at e
  obtain ⟨rfl, rfl, _⟩ := e
  exact h3 j u hu
theorem Rd.toReads {w : World} {size n c : Nat} {a : Option Addr} {xs : List Value} (h : Rd w size (.slice a n c) n xs) (hn : 0 < xs.length) : Reads w size (.slice a n c) n xs := by
  obtain ⟨g, o, rfl, h1, h2, h3⟩ := h.at hn
  exact ⟨h.1, .inr ⟨g, o, c, rfl, h1, h2, h3⟩⟩

section
variable {P : Program} {ops : Array Oper} {rest : List Oper} {o : Oper} {a : Act} {Q : Exit → Act → World → Prop}
/-- append(v, src...): v owned, src read; what is nil or empty let in. -/
theorem app_rd {W : World} (hgd : o.guard = none) (s x : Operand) (t e : TypeId) (z : Value) (size bytes : Nat)
    (ho : o.op = .call { callee := .builtin .append, args := #[s, x], argTypes := #[t, t] })
    (ht : P.underlying t = some (.slice e)) (hinfo : (P.info? e).map (fun i => (i.zero, i.size, i.bytes)) = some (some z, size, bytes)) (hz : z.cells.size = size) (hsz : 0 < size) (hb0 : 0 < bytes)
    (v v2 : Value) (n m : Nat) (xs news : List Value) (hs : a.eval s = v) (hx : a.eval x = v2) (h1 : ∀ u ∈ news, u.oneCell' = true)
    (HO : W.ownsRow 0 e size v n xs) (HR : Rd W size v2 m news) (hby : (n + m) * bytes ≤ 140737488355328)
    (h : ∀ a1 c1 w1, w1.ownsRow 0 e size (.slice a1 (n + m) c1) (n + m) (xs ++ news) → Mod v.ownBlock.toList W w1 → ((Value.slice a1 (n + m) c1).ownBlock = v.ownBlock ∨ ∃ b, (Value.slice a1 (n + m) c1).ownBlock = some b ∧ W.heap.size ≤ b) → wpList P ops Q rest (a.put o.dst (.slice a1 (n + m) c1)) w1) :
    wpList P ops Q (o :: rest) a W := by
  rcases HR.2 with ⟨rfl, rfl⟩ | ⟨ad, c, rfl, hc1, hc2, hc⟩
  · exact app_src hgd s x t e z size bytes ho ht hinfo hz hsz hb0 v _ n 0 xs news hs hx h1 HO ⟨HR.1, .inl ⟨rfl, rfl⟩⟩ hby h
  · obtain ⟨i0, hi, hzz⟩ := Option.map_eq_some_iff.1 hinfo
    simp only [Prod.mk.injEq] at hzz
    obtain ⟨hz0, hz1, hz2⟩ := hzz
    have hlen : n + m ≤ 140737488355328 := Nat.le_trans (Nat.le_mul_of_pos_right _ hb0) hby
    refine wpList_append_own_at W hgd s x t ho 0 e i0 z size bytes ht hi hz0 hz1 hz2 hz hsz v n xs hs HO ad m c news hx HR.1 hc h1 (by simp only [maxLen]; omega) hby (Nat.zero_le _) ?_
    intro v1 w1 hown hg _ hat
    obtain ⟨a1, c1, rfl⟩ : ∃ a1 c1, v1 = Value.slice a1 (n + m) c1 := by
      rcases hown.2 with ⟨rfl, h0⟩ | ⟨g, cap, cur, rfl, _⟩
      · exact ⟨none, 0, by rw [h0]⟩
      · exact ⟨_, _, rfl⟩
    refine h a1 c1 w1 hown ((Mod.refl _ W).grown hg fun b hb _ => by simp [hb]) ?_
    rcases hat with hat | hat
    · exact .inl hat
    · exact .inr ⟨_, hat, Nat.le_refl _⟩
end
/-- A row of the call's own making, as an answer: the slice, what it holds; nothing that was there has changed. -/
structure Made (w w' : World) (e size : Nat) (a : Option Addr) (n c : Nat) (xs : List Value) : Prop where
  own : w'.ownsRow 0 e size (.slice a n c) n xs
  mod : Mod [] w w'
  new : ∀ b, (Value.slice a n c).ownBlock = some b → w.heap.size ≤ b
def MadeOut (e size n : Nat) (xs : List Value) (w : World) (end_ : Ending) (w' : World) : Prop := ∃ a c, end_ = .returned (.slice a n c) ∧ Made w w' e size a n c xs
theorem Made.push {w w1 w2 : World} {e size n n' c c' : Nat} {a a' : Option Addr} {xs xs' : List Value} (h : Made w w1 e size a n c xs) (ho : w2.ownsRow 0 e size (.slice a' n' c') n' xs') (m : Mod (Value.slice a n c).ownBlock.toList w1 w2)
    (hn : (Value.slice a' n' c').ownBlock = (Value.slice a n c).ownBlock ∨ ∃ b, (Value.slice a' n' c').ownBlock = some b ∧ w1.heap.size ≤ b) : Made w w2 e size a' n' c' xs' :=
  ⟨ho, h.mod.ge m h.new, ge_of_old _ h.new hn h.mod.size⟩
theorem Made.still {w w1 w2 : World} {e size n c : Nat} {a : Option Addr} {xs : List Value} (h : Made w w1 e size a n c xs) (m : Mod [] w1 w2) : Made w w2 e size a n c xs :=
  ⟨own_keep h.own m (by simp), h.mod.trans m (by simp), h.new⟩
theorem Made.before {w0 w w1 : World} {e size n c : Nat} {a : Option Addr} {xs : List Value} (h : Made w w1 e size a n c xs) (m : Mod [] w0 w) : Made w0 w1 e size a n c xs :=
  ⟨h.own, m.trans h.mod (by simp), fun b hb => Nat.le_trans m.size (h.new b hb)⟩

/-! ### bytes -/
def u8s (l : List Int) : List Value := l.map fun x => .int .u8 x
theorem u8s_append (l m : List Int) : u8s (l ++ m) = u8s l ++ u8s m := by simp [u8s]
theorem u8s_length (l : List Int) : (u8s l).length = l.length := by simp [u8s]
theorem u8s_one (l : List Int) : ∀ u ∈ u8s l, u.oneCell' = true := by simp [u8s, Value.oneCell']
theorem u8s_get {l : List Int} {i : Nat} {x : Int} (h : l[i]? = some x) : (u8s l)[i]? = some (.int .u8 x) := by simp [u8s, h]
end Go.Proofs.YtjpfmkfikidgkaaGreat
