/- Lists of numbers as bytes: code.list, Nats, Ints; the reference's Nat, Sign, Nats, Ints. -/
import Derived.Test.YtjpfmkfikidgkaaGreatCode1
set_option linter.unusedVariables false
set_option linter.unusedSimpArgs false
namespace Go.Proofs.YtjpfmkfikidgkaaGreat
open Go.RowKit
namespace Code
def listB {α : Type} (f : α → Nat) (l : List α) : List Int := natB l.length ++ l.flatMap fun x => natB (f x)
theorem natB_len10 {n : Nat} (h : n < 18446744073709551616) : (natB n).length ≤ 10 := natB_len 10 n (by omega) (by omega)
theorem flatB_len {α : Type} (f : α → Nat) (l : List α) (h : ∀ x ∈ l, f x < 18446744073709551616) : (l.flatMap fun x => natB (f x)).length ≤ 10 * l.length := by
  induction l with
  | nil => simp
  | cons a l ih =>
    have h1 := natB_len10 (h a (by simp))
    have h2 := ih fun x hx => h x (List.mem_cons_of_mem _ hx)
    simp only [List.flatMap_cons, List.length_append, List.length_cons]; omega
theorem flat_take {α β : Type} (f : α → List β) (l : List α) (k : Nat) (x : α) (h : l[k]? = some x) : (l.take (k + 1)).flatMap f = (l.take k).flatMap f ++ f x := by
  rw [List.take_add_one, h]; simp
theorem u8s_nil : u8s [] = [] := rfl

/-! ### list[uint64] -/
def vu64 (l : List Nat) : List Value := l.map fun (x : Nat) => Value.int .u64 (x : Int)
theorem vu64_get {l : List Nat} {i : Nat} {x : Nat} (h : l[i]? = some x) : (vu64 l)[i]? = some (.int .u64 x) := by simp [vu64, h]
theorem vu64_len (l : List Nat) : (vu64 l).length = l.length := by simp [vu64]
/-! ### list[int64] -/
def vi64 (l : List Int) : List Value := l.map fun (x : Int) => Value.int .i64 (x : Int)
theorem vi64_get {l : List Int} {i : Nat} {x : Int} (h : l[i]? = some x) : (vi64 l)[i]? = some (.int .i64 x) := by simp [vi64, h]
theorem vi64_len (l : List Int) : (vi64 l).length = l.length := by simp [vi64]
end Code
end Go.Proofs.YtjpfmkfikidgkaaGreat
