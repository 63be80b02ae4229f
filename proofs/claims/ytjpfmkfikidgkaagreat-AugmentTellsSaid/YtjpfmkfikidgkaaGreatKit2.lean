/- More small words on blocks that a call has made. -/
import Derived.Test.YtjpfmkfikidgkaaGreatKit
set_option linter.unusedVariables false
set_option linter.unusedSimpArgs false
namespace Go.Proofs.YtjpfmkfikidgkaaGreat
open Go.RowKit
theorem ge_of_new {v v1 : Value} {N : Nat} (M : Nat) (h0 : v.ownBlock = none) (h : v1.ownBlock = v.ownBlock ∨ ∃ b, v1.ownBlock = some b ∧ N ≤ b) (hM : M ≤ N) : ∀ b, v1.ownBlock = some b → M ≤ b := by
  intro b hb
  rcases h with h | ⟨b', h, hle⟩
  · rw [h, h0] at hb; cases hb
  · rw [hb] at h; injection h with e; omega
theorem ge_of_old {v v1 : Value} {N : Nat} (M : Nat) (h0 : ∀ b, v.ownBlock = some b → M ≤ b) (h : v1.ownBlock = v.ownBlock ∨ ∃ b, v1.ownBlock = some b ∧ N ≤ b) (hM : M ≤ N) : ∀ b, v1.ownBlock = some b → M ≤ b := by
  intro b hb
  rcases h with h | ⟨b', h, hle⟩
  · rw [h] at hb; exact h0 b hb
  · rw [hb] at h; injection h with e; omega
theorem Has.keepGe {w w' : World} {b M : Nat} {cs : List Value} {t : TypeId} {v : Value} (h : Has w b cs t) (m : Mod v.ownBlock.toList w w') (hv : ∀ g, v.ownBlock = some g → M ≤ g) (hb : b < M) : Has w' b cs t :=
  h.keep m fun hh => by have := hv b (by simpa using hh); omega
theorem Mod.ge {w w' w0 : World} {F : List Nat} {v : Value} (h : Mod F w0 w) (m : Mod v.ownBlock.toList w w') (hv : ∀ g, v.ownBlock = some g → w0.heap.size ≤ g) : Mod F w0 w' :=
  h.trans m fun b hb hlt => by have := hv b (by simpa using hb); omega
/-- Where what is left behind the first k begins: at the old place, if nothing is left of the capacity. -/
def offAt (c k o s : Nat) : Nat := if c = k then o else o + k * s
theorem slice_from {P : Program} (t e size : Nat) (ht : P.underlying t = some (.slice (P.elem t))) (hs : ∀ w : World, (sizeOf (P.elem t)).run P w = .ok size w) (g o n c k : Nat) (kk : Int) (hkk : kk = (k : Int)) (h : k ≤ n) :
    ∀ w : World, (Instr.slice t (.slice (some ⟨g, o, none⟩) n c) (some (.int .i64 kk)) none none).run P w = .ok (.slice (some ⟨g, offAt c k o size, none⟩) (n - k) (c - k)) w := by
  intro w
  subst hkk
  rw [run_slice_l w t (some ⟨g, o, none⟩) n c ht .i64 k (by omega) (by omega), hs]
  simp only [Result.andThen, sliced, Int.toNat_natCast, offAt]
  by_cases hc : c = k
  · simp [hc]
  · simp [hc, Addr.add_lit]
/-- A call answers a slice of its own making, and changes nothing that was there. -/
def RowOut (e size n : Nat) (xs : List Value) (w : World) (end_ : Ending) (w' : World) : Prop :=
  ∃ a c, end_ = .returned (.slice a n c) ∧ w'.ownsRow 0 e size (.slice a n c) n xs ∧ Mod [] w w' ∧ ∀ b, (Value.slice a n c).ownBlock = some b → w.heap.size ≤ b
end Go.Proofs.YtjpfmkfikidgkaaGreat
