/-
  No cell of these rows narrows 'for every input' (looked for: loops, veiled, ifaces, maps, wideKeys, modest, calm, conditions, laid).
  DERIVED. THE GIVEN ROWS OF THIS SEAT. 7 by the template 'for every input the law returns true; each argument reads behind the call as it read before'; 0 by the template 'total and deterministic' (their statements: YtkhbnopmeapfjaaTotals.lean).
  GIVEN WITH THE SEED: the statements are not yours to turn. If you find one false, say at which input.
  Laid BY PROGRAM, IN A SANDBOX (cutbox-rows.mjs): the forced cells as the released guide's own fill.sh prints them over the translation 6ed6e858c6463684… (all of the seat's roots in one cut). By AI agents, Wed Nov 11 2026. No macro, syntax, notation, axiom, sorry.
-/
import Derived.Test.YtkhbnopmeapfjaaChecked
import GoSem.Claim
import GoSem.ClaimJoined
import GoSem.ClaimMapViews
import Derived.JoinedTies
import Derived.KernelRfl
namespace Go.Proofs.Ytkhbnopmeapfjaa
/- THE CELL 'sum', in the pinned program and in every row, IS THE sha256 OF THE DUMP (.gsa) THAT YtkhbnopmeapfjaaProg.lean LOADS. Nothing in Lean hashes anything: it is a label: what it is worth is what the hold of that sum in a sandbox is worth. -/
noncomputable def Try.pinned : Pinned := { name := "ytkhbnopmeapfjaa", sum := "6ed6e858c64636846208fcc87d01051f6d9c384d8456d197e548855a598c2092", checked := Try.checked }
namespace Rows
def none {H : Type} : Left H := { results := [], args := [] }

/-- 'straitlaw16.NetTwice': WHATEVER THE INPUT: true; the input reads as it did. -/
def netTwiceSpec : ChangeSpec := { name := "netTwice", fn := fun _ => fun
  | [d1, d2] => { results := [.lit (.bool true)], args := [d1, d2] }
  | _ => none }
def netTwiceRow : OpenClaim := { program := "ytkhbnopmeapfjaa", sum := "6ed6e858c64636846208fcc87d01051f6d9c384d8456d197e548855a598c2092", func := "strait/straitlaw16.NetTwice", spec := "netTwice", unfollowed := true, recurses := true, plainKeys := false, apart := false }
def NetTwiceSaid : Prop := netTwiceRow.holds Try.pinned (OpenSpec.ofChange netTwiceSpec)

/-- ITS FALSE NEIGHBOUR: 'it returns false'. Refute it at one input. -/
def netTwiceWrong : ChangeSpec := { name := "netTwice", fn := fun _ => fun
  | [d1, d2] => { results := [.lit (.bool false)], args := [d1, d2] }
  | _ => none }
def NetTwiceWrongFalsely : Prop := netTwiceRow.holds Try.pinned (OpenSpec.ofChange netTwiceWrong)

/-- 'straitlaw16.NetTells': WHATEVER THE INPUT: true; the input reads as it did. -/
def netTellsSpec : ChangeSpec := { name := "netTells", fn := fun _ => fun
  | [d1, d2, d3] => { results := [.lit (.bool true)], args := [d1, d2, d3] }
  | _ => none }
def netTellsRow : OpenClaim := { program := "ytkhbnopmeapfjaa", sum := "6ed6e858c64636846208fcc87d01051f6d9c384d8456d197e548855a598c2092", func := "strait/straitlaw16.NetTells", spec := "netTells", unfollowed := true, recurses := true, plainKeys := false, apart := false }
def NetTellsSaid : Prop := netTellsRow.holds Try.pinned (OpenSpec.ofChange netTellsSpec)

/-- ITS FALSE NEIGHBOUR: 'it returns false'. Refute it at one input. -/
def netTellsWrong : ChangeSpec := { name := "netTells", fn := fun _ => fun
  | [d1, d2, d3] => { results := [.lit (.bool false)], args := [d1, d2, d3] }
  | _ => none }
def NetTellsWrongFalsely : Prop := netTellsRow.holds Try.pinned (OpenSpec.ofChange netTellsWrong)

/-- 'straitlaw19.CsrTells': WHATEVER THE INPUT: true; the input reads as it did. -/
def csrTellsSpec : ChangeSpec := { name := "csrTells", fn := fun _ => fun
  | [d1, d2, d3] => { results := [.lit (.bool true)], args := [d1, d2, d3] }
  | _ => none }
def csrTellsRow : OpenClaim := { program := "ytkhbnopmeapfjaa", sum := "6ed6e858c64636846208fcc87d01051f6d9c384d8456d197e548855a598c2092", func := "strait/straitlaw19.CsrTells", spec := "csrTells", unfollowed := true, recurses := true, plainKeys := false, apart := false }
def CsrTellsSaid : Prop := csrTellsRow.holds Try.pinned (OpenSpec.ofChange csrTellsSpec)

/-- ITS FALSE NEIGHBOUR: 'it returns false'. Refute it at one input. -/
def csrTellsWrong : ChangeSpec := { name := "csrTells", fn := fun _ => fun
  | [d1, d2, d3] => { results := [.lit (.bool false)], args := [d1, d2, d3] }
  | _ => none }
def CsrTellsWrongFalsely : Prop := csrTellsRow.holds Try.pinned (OpenSpec.ofChange csrTellsWrong)

/-- 'straitlaw19.CsrPairs': WHATEVER THE INPUT: true; the input reads as it did. -/
def csrPairsSpec : ChangeSpec := { name := "csrPairs", fn := fun _ => fun
  | [d1, d2, d3] => { results := [.lit (.bool true)], args := [d1, d2, d3] }
  | _ => none }
def csrPairsRow : OpenClaim := { program := "ytkhbnopmeapfjaa", sum := "6ed6e858c64636846208fcc87d01051f6d9c384d8456d197e548855a598c2092", func := "strait/straitlaw19.CsrPairs", spec := "csrPairs", unfollowed := true, recurses := true, plainKeys := false, apart := false }
def CsrPairsSaid : Prop := csrPairsRow.holds Try.pinned (OpenSpec.ofChange csrPairsSpec)

/-- ITS FALSE NEIGHBOUR: 'it returns false'. Refute it at one input. -/
def csrPairsWrong : ChangeSpec := { name := "csrPairs", fn := fun _ => fun
  | [d1, d2, d3] => { results := [.lit (.bool false)], args := [d1, d2, d3] }
  | _ => none }
def CsrPairsWrongFalsely : Prop := csrPairsRow.holds Try.pinned (OpenSpec.ofChange csrPairsWrong)

/-- 'straitlaw16.NetSame': WHATEVER THE INPUT: true; the input reads as it did. -/
def netSameSpec : ChangeSpec := { name := "netSame", fn := fun _ => fun
  | [d1, d2, d3] => { results := [.lit (.bool true)], args := [d1, d2, d3] }
  | _ => none }
def netSameRow : OpenClaim := { program := "ytkhbnopmeapfjaa", sum := "6ed6e858c64636846208fcc87d01051f6d9c384d8456d197e548855a598c2092", func := "strait/straitlaw16.NetSame", spec := "netSame", unfollowed := true, recurses := true, plainKeys := false, apart := false }
def NetSameSaid : Prop := netSameRow.holds Try.pinned (OpenSpec.ofChange netSameSpec)

/-- ITS FALSE NEIGHBOUR: 'it returns false'. Refute it at one input. -/
def netSameWrong : ChangeSpec := { name := "netSame", fn := fun _ => fun
  | [d1, d2, d3] => { results := [.lit (.bool false)], args := [d1, d2, d3] }
  | _ => none }
def NetSameWrongFalsely : Prop := netSameRow.holds Try.pinned (OpenSpec.ofChange netSameWrong)

/-- 'straitlaw40.ContractTells': WHATEVER THE INPUT: true; the input reads as it did. -/
def contractTellsSpec : ChangeSpec := { name := "contractTells", fn := fun _ => fun
  | [d1, d2, d3] => { results := [.lit (.bool true)], args := [d1, d2, d3] }
  | _ => none }
def contractTellsRow : OpenClaim := { program := "ytkhbnopmeapfjaa", sum := "6ed6e858c64636846208fcc87d01051f6d9c384d8456d197e548855a598c2092", func := "strait/straitlaw40.ContractTells", spec := "contractTells", unfollowed := true, recurses := true, plainKeys := false, apart := false }
def ContractTellsSaid : Prop := contractTellsRow.holds Try.pinned (OpenSpec.ofChange contractTellsSpec)

/-- ITS FALSE NEIGHBOUR: 'it returns false'. Refute it at one input. -/
def contractTellsWrong : ChangeSpec := { name := "contractTells", fn := fun _ => fun
  | [d1, d2, d3] => { results := [.lit (.bool false)], args := [d1, d2, d3] }
  | _ => none }
def ContractTellsWrongFalsely : Prop := contractTellsRow.holds Try.pinned (OpenSpec.ofChange contractTellsWrong)

/-- 'straitlaw23.ResidTwice': WHATEVER THE INPUT: true; the input reads as it did. -/
def residTwiceSpec : ChangeSpec := { name := "residTwice", fn := fun _ => fun
  | [d1, d2, d3] => { results := [.lit (.bool true)], args := [d1, d2, d3] }
  | _ => none }
def residTwiceRow : OpenClaim := { program := "ytkhbnopmeapfjaa", sum := "6ed6e858c64636846208fcc87d01051f6d9c384d8456d197e548855a598c2092", func := "strait/straitlaw23.ResidTwice", spec := "residTwice", unfollowed := true, recurses := true, plainKeys := false, apart := false }
def ResidTwiceSaid : Prop := residTwiceRow.holds Try.pinned (OpenSpec.ofChange residTwiceSpec)

/-- ITS FALSE NEIGHBOUR: 'it returns false'. Refute it at one input. -/
def residTwiceWrong : ChangeSpec := { name := "residTwice", fn := fun _ => fun
  | [d1, d2, d3] => { results := [.lit (.bool false)], args := [d1, d2, d3] }
  | _ => none }
def ResidTwiceWrongFalsely : Prop := residTwiceRow.holds Try.pinned (OpenSpec.ofChange residTwiceWrong)

/- THE SECOND FORM. 'bulk': how many values and letters a reading holds, each counted each time it is reached (what is shared counts as often as it is met; a slice's spare places count too). A statement '..UptoSaid' is the law's where the arguments, and the package variables that the reading takes, are together of bulk at most 1048576: NARROWER than '..Said'. Prove '..Said' where nothing that the law and all that it calls make is longer than what came in: it says more and counts as full. Else prove '..UptoSaid'. A law counts once. -/
mutual
def uptoBulk {H : Type} : DataW H → Nat
  | .lit (.string bytes) => bytes.length + 1
  | .lit _ => 1
  | .nil => 1
  | .ptr d => uptoBulk d + 1
  | .slice elems spare => uptoBulkAll elems + uptoBulkAll spare + 1
  | .agg parts => uptoBulkAll parts + 1
  | .iface _ d => uptoBulk d + 1
  | .map entries => uptoBulkEntries entries + 1
  | .held _ => 1
def uptoBulkAll {H : Type} : List (DataW H) → Nat
  | [] => 0
  | d :: r => uptoBulk d + uptoBulkAll r
def uptoBulkEntries {H : Type} : List (Lit × DataW H) → Nat
  | [] => 0
  | x :: r => uptoBulkEntry x + uptoBulkEntries r
def uptoBulkEntry {H : Type} : Lit × DataW H → Nat
  | (.string bytes, d) => bytes.length + uptoBulk d + 1
  | (_, d) => uptoBulk d + 1
 end
def uptoSmall : (H : Type) → List (DataW H) → Bool := fun _ ds => decide (uptoBulkAll ds ≤ 1048576)
def OpenSpec.upto (s : _root_.Go.ChangeSpec) : _root_.Go.OpenSpec := { _root_.Go.OpenSpec.ofChange s with cond := some uptoSmall }

/-- 'straitlaw16.NetTwice', WHERE WHAT IT READS IS OF BULK AT MOST 1048576: true; the input reads as it did. -/
def netTwiceUptoRow : OpenClaim := { program := "ytkhbnopmeapfjaa", sum := "6ed6e858c64636846208fcc87d01051f6d9c384d8456d197e548855a598c2092", func := "strait/straitlaw16.NetTwice", spec := "netTwice", unfollowed := true, recurses := true, plainKeys := false, apart := false, narrowed := true }
def NetTwiceUptoSaid : Prop := netTwiceUptoRow.holds Try.pinned (OpenSpec.upto netTwiceSpec)

/-- 'straitlaw16.NetTells', WHERE WHAT IT READS IS OF BULK AT MOST 1048576: true; the input reads as it did. -/
def netTellsUptoRow : OpenClaim := { program := "ytkhbnopmeapfjaa", sum := "6ed6e858c64636846208fcc87d01051f6d9c384d8456d197e548855a598c2092", func := "strait/straitlaw16.NetTells", spec := "netTells", unfollowed := true, recurses := true, plainKeys := false, apart := false, narrowed := true }
def NetTellsUptoSaid : Prop := netTellsUptoRow.holds Try.pinned (OpenSpec.upto netTellsSpec)

/-- 'straitlaw19.CsrTells', WHERE WHAT IT READS IS OF BULK AT MOST 1048576: true; the input reads as it did. -/
def csrTellsUptoRow : OpenClaim := { program := "ytkhbnopmeapfjaa", sum := "6ed6e858c64636846208fcc87d01051f6d9c384d8456d197e548855a598c2092", func := "strait/straitlaw19.CsrTells", spec := "csrTells", unfollowed := true, recurses := true, plainKeys := false, apart := false, narrowed := true }
def CsrTellsUptoSaid : Prop := csrTellsUptoRow.holds Try.pinned (OpenSpec.upto csrTellsSpec)

/-- 'straitlaw19.CsrPairs', WHERE WHAT IT READS IS OF BULK AT MOST 1048576: true; the input reads as it did. -/
def csrPairsUptoRow : OpenClaim := { program := "ytkhbnopmeapfjaa", sum := "6ed6e858c64636846208fcc87d01051f6d9c384d8456d197e548855a598c2092", func := "strait/straitlaw19.CsrPairs", spec := "csrPairs", unfollowed := true, recurses := true, plainKeys := false, apart := false, narrowed := true }
def CsrPairsUptoSaid : Prop := csrPairsUptoRow.holds Try.pinned (OpenSpec.upto csrPairsSpec)

/-- 'straitlaw16.NetSame', WHERE WHAT IT READS IS OF BULK AT MOST 1048576: true; the input reads as it did. -/
def netSameUptoRow : OpenClaim := { program := "ytkhbnopmeapfjaa", sum := "6ed6e858c64636846208fcc87d01051f6d9c384d8456d197e548855a598c2092", func := "strait/straitlaw16.NetSame", spec := "netSame", unfollowed := true, recurses := true, plainKeys := false, apart := false, narrowed := true }
def NetSameUptoSaid : Prop := netSameUptoRow.holds Try.pinned (OpenSpec.upto netSameSpec)

/-- 'straitlaw40.ContractTells', WHERE WHAT IT READS IS OF BULK AT MOST 1048576: true; the input reads as it did. -/
def contractTellsUptoRow : OpenClaim := { program := "ytkhbnopmeapfjaa", sum := "6ed6e858c64636846208fcc87d01051f6d9c384d8456d197e548855a598c2092", func := "strait/straitlaw40.ContractTells", spec := "contractTells", unfollowed := true, recurses := true, plainKeys := false, apart := false, narrowed := true }
def ContractTellsUptoSaid : Prop := contractTellsUptoRow.holds Try.pinned (OpenSpec.upto contractTellsSpec)

/-- 'straitlaw23.ResidTwice', WHERE WHAT IT READS IS OF BULK AT MOST 1048576: true; the input reads as it did. -/
def residTwiceUptoRow : OpenClaim := { program := "ytkhbnopmeapfjaa", sum := "6ed6e858c64636846208fcc87d01051f6d9c384d8456d197e548855a598c2092", func := "strait/straitlaw23.ResidTwice", spec := "residTwice", unfollowed := true, recurses := true, plainKeys := false, apart := false, narrowed := true }
def ResidTwiceUptoSaid : Prop := residTwiceUptoRow.holds Try.pinned (OpenSpec.upto residTwiceSpec)

end Rows
end Go.Proofs.Ytkhbnopmeapfjaa
