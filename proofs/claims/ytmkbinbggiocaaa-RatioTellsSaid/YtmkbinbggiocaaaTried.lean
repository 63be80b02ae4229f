/- ratio.tried: a function that is done, or left by a panic that is caught. -/
import Derived.Test.YtmkbinbggiocaaaFl5
import Derived.Defers
import Derived.Recover
import Derived.Laws.EntriesVeiled
set_option linter.unusedVariables false
set_option linter.unusedSimpArgs false
namespace Go.Proofs.Ytmkbinbggiocaaa
open Go.RowKit
namespace Ratio
/-- The panic by which parts leaves. -/
def wrongV : Value := .iface 216 (.agg #[])
def wrongP : PanicEntry := { v := wrongV, recovered := false }
theorem catch_idle (p : Addr) (w : World) :
    CallsD Try.prog 158 #[.pointer (some p)] .returning w fun e u' w' => e = .returned (.tuple #[]) ∧ u' = .returning ∧ w' = w := by
  refine callsD_of_wpS Try.func158 rfl fun c₀ cs hu => ?_
  apply wpS_seq
  apply wpS_region
  simp [wpOpsS, go_sem, recoverD, hu, Try.ntmps158, Exit.thenS]
  refine wpS_of_wp ?_
  have et : (#[Value.pointer (some p)] ++ ((Array.replicate 14 undef).setIfInBounds 3 Value.nilIface).setIfInBounds 0 Value.nilIface) = #[.pointer (some p), .nilIface, undef, undef, .nilIface, undef, undef, undef, undef, undef, undef, undef, undef, undef, undef] := by rfl
  rw [et]
  clear et
  go_wp2
  cases c₀
  simp_all [bodyPostS, results, Try.results158]
set_option maxRecDepth 100000 in
theorem catch_wrong (B : Nat) (x : Value) (w : World) (hc : w.cell? ⟨B, 0, none⟩ = some x) (hz : w.frozen? ⟨B, 0, none⟩ = false) (hB : B < w.heap.size) (older : List PanicEntry) :
    CallsD Try.prog 158 #[.pointer (some ⟨B, 0, none⟩)] (.panicking (wrongP :: older)) w fun e u' w' => e = .returned (.tuple #[]) ∧ u' = .panicking ({ v := wrongV, recovered := true } :: older) ∧ ∃ o, w' = (w.setCell ⟨B, 0, none⟩ (.bool false)).alloc o := by
  have hta : ∀ w : World, (Instr.typeAssert (.iface 216 (.agg #[])) 20 216 true).run Try.prog w = .ok (.tuple #[.agg #[], .bool true]) w := fun _ => by kernel_rfl
  refine callsD_of_wpS Try.func158 rfl fun c₀ cs hu => ?_
  unfold wrongP wrongV at hu
  apply wpS_seq
  apply wpS_region
  simp [wpOpsS, go_sem, recoverD, hu, Try.ntmps158, Exit.thenS]
  refine wpS_of_wp ?_
  have et : (#[Value.pointer (some ⟨B, 0, none⟩)] ++ ((Array.replicate 14 undef).setIfInBounds 3 wrongV).setIfInBounds 0 wrongV) = #[.pointer (some ⟨B, 0, none⟩), wrongV, undef, undef, wrongV, undef, undef, undef, undef, undef, undef, undef, undef, undef, undef] := by rfl
  unfold wrongV at et
  rw [et]
  clear et
  go_wp2
  simp only [bodyPostS, results, Try.results158, wrongV]
  simp
  exact ⟨_, rfl⟩
/-- What is done either ends, or leaves by the panic of parts. -/
def DoOut (b : Bool) (R : World → Prop) (e : Ending) (w' : World) : Prop := e = (if b then .returned (.tuple #[]) else .panicked [wrongP]) ∧ R w'
set_option maxRecDepth 100000 in
theorem tried_yes {w : World} {f : Nat} {caps : Array Value} {R : World → Prop} (hf : ∀ w : World, (callFunc f caps).run Try.prog w = .ok (.enter f caps) w) (hdo : Calls Try.prog f caps (w.alloc (.cells #[.bool false] 4)) (DoOut true R)) (hk : ∀ w', R w' → ∃ v, Has w' w.heap.size [v] 4) :
    Calls Try.prog 119 #[.func (.func f) #[] caps] w fun e w' => e = .returned (.bool true) ∧ ∃ w1, R w1 ∧ w' = w1.setCell ⟨w.heap.size, 0, none⟩ (.bool true) := by
  have hmf : ∀ (fn : Fn) (first cap : Array Value) (w : World), (Instr.makeFunc fn first cap).run Try.prog w = .ok (.func fn first cap) w := fun _ _ _ _ => rfl
  go_enter_defers Try.func119, Try.ntmps119
  go_wp2_with fail
  refine hdo.mono ?_
  rintro e w1 ⟨rfl, hR⟩
  simp only [if_true]
  obtain ⟨v, hB⟩ := hk w1 hR
  have b0 := hB.cell 0 rfl
  have bl := hB.lt
  have bz := hB.free 0
  have hR' := Lib.hid hR
  clear hR hB hk hdo
  go_wp2_with fail
  refine leaves_cons (f := 158) (args := #[.pointer (some ⟨w.heap.size, 0, none⟩)]) (by simp) (by simp [go_sem]) ?_
  refine (catch_idle ⟨w.heap.size, 0, none⟩ _).mono ?_
  rintro e u' w'' ⟨rfl, rfl, rfl⟩
  simp [Leaves, settle, results, Try.results119, go_sem, b0]
  exact ⟨w1, hR'.out, rfl⟩
set_option maxRecDepth 100000 in
theorem tried_no {w : World} {f : Nat} {caps : Array Value} {R : World → Prop} (hf : ∀ w : World, (callFunc f caps).run Try.prog w = .ok (.enter f caps) w) (hdo : Calls Try.prog f caps (w.alloc (.cells #[.bool false] 4)) (DoOut false R)) (hk : ∀ w', R w' → ∃ v, Has w' w.heap.size [v] 4) :
    Calls Try.prog 119 #[.func (.func f) #[] caps] w fun e w' => e = .returned (.bool false) ∧ ∃ w1 o, R w1 ∧ w' = (w1.setCell ⟨w.heap.size, 0, none⟩ (.bool false)).alloc o := by
  have hmf : ∀ (fn : Fn) (first cap : Array Value) (w : World), (Instr.makeFunc fn first cap).run Try.prog w = .ok (.func fn first cap) w := fun _ _ _ _ => rfl
  go_enter_defers Try.func119, Try.ntmps119
  go_wp2_with fail
  refine hdo.mono ?_
  rintro e w1 ⟨rfl, hR⟩
  simp only [Bool.false_eq_true, if_false]
  obtain ⟨v, hB⟩ := hk w1 hR
  have b0 := hB.cell 0 rfl
  have bl := hB.lt
  have bz := hB.free 0
  have hR' := Lib.hid hR
  clear hR hB hk hdo
  try go_wp2_with fail
  refine leaves_cons (f := 158) (args := #[.pointer (some ⟨w.heap.size, 0, none⟩)]) (by simp) (by simp [go_sem]) ?_
  refine (catch_wrong w.heap.size v _ b0 bz bl []).mono ?_
  rintro e u' w'' ⟨rfl, rfl, o, rfl⟩
  simp [Leaves, settle, results, Try.results119, go_sem, b0, bl]
  exact ⟨w1, hR'.out, o, rfl⟩
end Ratio
end Go.Proofs.Ytmkbinbggiocaaa
