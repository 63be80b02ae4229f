/-
  No cell of these rows narrows 'for every input' (looked for: loops, veiled, ifaces, maps, wideKeys, modest, calm, conditions, laid).
  DERIVED. THE GIVEN ROWS OF THIS SEAT. 11 by the template 'for every input the law returns true; each argument reads behind the call as it read before'; 0 by the template 'total and deterministic' (their statements: YtjpfmkfikidgkaaGreatTotals.lean).
  GIVEN WITH THE SEED: the statements are not yours to turn. If you find one false, say at which input.
  Laid BY PROGRAM, IN A SANDBOX (cutbox-rows.mjs): the forced cells as the released guide's own fill.sh prints them over the translation 6721eeca718d75db… (all of the seat's roots in one cut). By AI agents, Wed Nov 11 2026. No macro, syntax, notation, axiom, sorry.
-/
import Derived.Test.YtjpfmkfikidgkaaGreatChecked
import GoSem.Claim
import GoSem.ClaimJoined
import GoSem.ClaimMapViews
import Derived.JoinedTies
import Derived.KernelRfl
namespace Go.Proofs.YtjpfmkfikidgkaaGreat
/- THE CELL 'sum', in the pinned program and in every row, IS THE sha256 OF THE DUMP (.gsa) THAT YtjpfmkfikidgkaaGreatProg.lean LOADS. Nothing in Lean hashes anything: it is a label: what it is worth is what the hold of that sum in a sandbox is worth. -/
noncomputable def Tryz.pinned : Pinned := { name := "ytjpfmkfikidgkaagreat", sum := "6721eeca718d75dbb53f3b2ac341e0515312bfc2262c3b3982964de576ac0954", checked := Tryz.checked }
namespace Rows
def none {H : Type} : Left H := { results := [], args := [] }

/-- 'straitlaw23.ResidPlays': WHATEVER THE INPUT: true; the input reads as it did. -/
def residPlaysSpec : ChangeSpec := { name := "residPlays", fn := fun _ => fun
  | [d1, d2, d3] => { results := [.lit (.bool true)], args := [d1, d2, d3] }
  | _ => none }
def residPlaysRow : OpenClaim := { program := "ytjpfmkfikidgkaagreat", sum := "6721eeca718d75dbb53f3b2ac341e0515312bfc2262c3b3982964de576ac0954", func := "strait/straitlaw23.ResidPlays", spec := "residPlays", unfollowed := true, recurses := true, plainKeys := false, apart := false }
def ResidPlaysSaid : Prop := residPlaysRow.holds Tryz.pinned (OpenSpec.ofChange residPlaysSpec)

/-- ITS FALSE NEIGHBOUR: 'it returns false'. Refute it at one input. -/
def residPlaysWrong : ChangeSpec := { name := "residPlays", fn := fun _ => fun
  | [d1, d2, d3] => { results := [.lit (.bool false)], args := [d1, d2, d3] }
  | _ => none }
def ResidPlaysWrongFalsely : Prop := residPlaysRow.holds Tryz.pinned (OpenSpec.ofChange residPlaysWrong)

/-- 'straitlaw28.FlowckTells': WHATEVER THE INPUT: true; the input reads as it did. -/
def flowckTellsSpec : ChangeSpec := { name := "flowckTells", fn := fun _ => fun
  | [d1, d2, d3] => { results := [.lit (.bool true)], args := [d1, d2, d3] }
  | _ => none }
def flowckTellsRow : OpenClaim := { program := "ytjpfmkfikidgkaagreat", sum := "6721eeca718d75dbb53f3b2ac341e0515312bfc2262c3b3982964de576ac0954", func := "strait/straitlaw28.FlowckTells", spec := "flowckTells", unfollowed := true, recurses := true, plainKeys := false, apart := false }
def FlowckTellsSaid : Prop := flowckTellsRow.holds Tryz.pinned (OpenSpec.ofChange flowckTellsSpec)

/-- ITS FALSE NEIGHBOUR: 'it returns false'. Refute it at one input. -/
def flowckTellsWrong : ChangeSpec := { name := "flowckTells", fn := fun _ => fun
  | [d1, d2, d3] => { results := [.lit (.bool false)], args := [d1, d2, d3] }
  | _ => none }
def FlowckTellsWrongFalsely : Prop := flowckTellsRow.holds Tryz.pinned (OpenSpec.ofChange flowckTellsWrong)

/-- 'straitlaw24.LevelFalls': WHATEVER THE INPUT: true; the input reads as it did. -/
def levelFallsSpec : ChangeSpec := { name := "levelFalls", fn := fun _ => fun
  | [d1, d2, d3] => { results := [.lit (.bool true)], args := [d1, d2, d3] }
  | _ => none }
def levelFallsRow : OpenClaim := { program := "ytjpfmkfikidgkaagreat", sum := "6721eeca718d75dbb53f3b2ac341e0515312bfc2262c3b3982964de576ac0954", func := "strait/straitlaw24.LevelFalls", spec := "levelFalls", unfollowed := true, recurses := true, plainKeys := false, apart := false }
def LevelFallsSaid : Prop := levelFallsRow.holds Tryz.pinned (OpenSpec.ofChange levelFallsSpec)

/-- ITS FALSE NEIGHBOUR: 'it returns false'. Refute it at one input. -/
def levelFallsWrong : ChangeSpec := { name := "levelFalls", fn := fun _ => fun
  | [d1, d2, d3] => { results := [.lit (.bool false)], args := [d1, d2, d3] }
  | _ => none }
def LevelFallsWrongFalsely : Prop := levelFallsRow.holds Tryz.pinned (OpenSpec.ofChange levelFallsWrong)

/-- 'straitlaw25.AugmentTells': WHATEVER THE INPUT: true; the input reads as it did. -/
def augmentTellsSpec : ChangeSpec := { name := "augmentTells", fn := fun _ => fun
  | [d1, d2, d3] => { results := [.lit (.bool true)], args := [d1, d2, d3] }
  | _ => none }
def augmentTellsRow : OpenClaim := { program := "ytjpfmkfikidgkaagreat", sum := "6721eeca718d75dbb53f3b2ac341e0515312bfc2262c3b3982964de576ac0954", func := "strait/straitlaw25.AugmentTells", spec := "augmentTells", unfollowed := true, recurses := true, plainKeys := false, apart := false }
def AugmentTellsSaid : Prop := augmentTellsRow.holds Tryz.pinned (OpenSpec.ofChange augmentTellsSpec)

/-- ITS FALSE NEIGHBOUR: 'it returns false'. Refute it at one input. -/
def augmentTellsWrong : ChangeSpec := { name := "augmentTells", fn := fun _ => fun
  | [d1, d2, d3] => { results := [.lit (.bool false)], args := [d1, d2, d3] }
  | _ => none }
def AugmentTellsWrongFalsely : Prop := augmentTellsRow.holds Tryz.pinned (OpenSpec.ofChange augmentTellsWrong)

/-- 'straitlaw37.MaorderTells': WHATEVER THE INPUT: true; the input reads as it did. -/
def maorderTellsSpec : ChangeSpec := { name := "maorderTells", fn := fun _ => fun
  | [d1, d2, d3] => { results := [.lit (.bool true)], args := [d1, d2, d3] }
  | _ => none }
def maorderTellsRow : OpenClaim := { program := "ytjpfmkfikidgkaagreat", sum := "6721eeca718d75dbb53f3b2ac341e0515312bfc2262c3b3982964de576ac0954", func := "strait/straitlaw37.MaorderTells", spec := "maorderTells", unfollowed := true, recurses := true, plainKeys := false, apart := false }
def MaorderTellsSaid : Prop := maorderTellsRow.holds Tryz.pinned (OpenSpec.ofChange maorderTellsSpec)

/-- ITS FALSE NEIGHBOUR: 'it returns false'. Refute it at one input. -/
def maorderTellsWrong : ChangeSpec := { name := "maorderTells", fn := fun _ => fun
  | [d1, d2, d3] => { results := [.lit (.bool false)], args := [d1, d2, d3] }
  | _ => none }
def MaorderTellsWrongFalsely : Prop := maorderTellsRow.holds Tryz.pinned (OpenSpec.ofChange maorderTellsWrong)

/-- 'straitlaw26.RelabelGoes': WHATEVER THE INPUT: true; the input reads as it did. -/
def relabelGoesSpec : ChangeSpec := { name := "relabelGoes", fn := fun _ => fun
  | [d1, d2, d3] => { results := [.lit (.bool true)], args := [d1, d2, d3] }
  | _ => none }
def relabelGoesRow : OpenClaim := { program := "ytjpfmkfikidgkaagreat", sum := "6721eeca718d75dbb53f3b2ac341e0515312bfc2262c3b3982964de576ac0954", func := "strait/straitlaw26.RelabelGoes", spec := "relabelGoes", unfollowed := true, recurses := true, plainKeys := false, apart := false }
def RelabelGoesSaid : Prop := relabelGoesRow.holds Tryz.pinned (OpenSpec.ofChange relabelGoesSpec)

/-- ITS FALSE NEIGHBOUR: 'it returns false'. Refute it at one input. -/
def relabelGoesWrong : ChangeSpec := { name := "relabelGoes", fn := fun _ => fun
  | [d1, d2, d3] => { results := [.lit (.bool false)], args := [d1, d2, d3] }
  | _ => none }
def RelabelGoesWrongFalsely : Prop := relabelGoesRow.holds Tryz.pinned (OpenSpec.ofChange relabelGoesWrong)

/-- 'straitlaw26.RelabelPlays': WHATEVER THE INPUT: true; the input reads as it did. -/
def relabelPlaysSpec : ChangeSpec := { name := "relabelPlays", fn := fun _ => fun
  | [d1, d2, d3] => { results := [.lit (.bool true)], args := [d1, d2, d3] }
  | _ => none }
def relabelPlaysRow : OpenClaim := { program := "ytjpfmkfikidgkaagreat", sum := "6721eeca718d75dbb53f3b2ac341e0515312bfc2262c3b3982964de576ac0954", func := "strait/straitlaw26.RelabelPlays", spec := "relabelPlays", unfollowed := true, recurses := true, plainKeys := false, apart := false }
def RelabelPlaysSaid : Prop := relabelPlaysRow.holds Tryz.pinned (OpenSpec.ofChange relabelPlaysSpec)

/-- ITS FALSE NEIGHBOUR: 'it returns false'. Refute it at one input. -/
def relabelPlaysWrong : ChangeSpec := { name := "relabelPlays", fn := fun _ => fun
  | [d1, d2, d3] => { results := [.lit (.bool false)], args := [d1, d2, d3] }
  | _ => none }
def RelabelPlaysWrongFalsely : Prop := relabelPlaysRow.holds Tryz.pinned (OpenSpec.ofChange relabelPlaysWrong)

/-- 'straitlaw25.AugmentLeast': WHATEVER THE INPUT: true; the input reads as it did. -/
def augmentLeastSpec : ChangeSpec := { name := "augmentLeast", fn := fun _ => fun
  | [d1, d2, d3] => { results := [.lit (.bool true)], args := [d1, d2, d3] }
  | _ => none }
def augmentLeastRow : OpenClaim := { program := "ytjpfmkfikidgkaagreat", sum := "6721eeca718d75dbb53f3b2ac341e0515312bfc2262c3b3982964de576ac0954", func := "strait/straitlaw25.AugmentLeast", spec := "augmentLeast", unfollowed := true, recurses := true, plainKeys := false, apart := false }
def AugmentLeastSaid : Prop := augmentLeastRow.holds Tryz.pinned (OpenSpec.ofChange augmentLeastSpec)

/-- ITS FALSE NEIGHBOUR: 'it returns false'. Refute it at one input. -/
def augmentLeastWrong : ChangeSpec := { name := "augmentLeast", fn := fun _ => fun
  | [d1, d2, d3] => { results := [.lit (.bool false)], args := [d1, d2, d3] }
  | _ => none }
def AugmentLeastWrongFalsely : Prop := augmentLeastRow.holds Tryz.pinned (OpenSpec.ofChange augmentLeastWrong)

/-- 'straitlaw39.ForestTells': WHATEVER THE INPUT: true; the input reads as it did. -/
def forestTellsSpec : ChangeSpec := { name := "forestTells", fn := fun _ => fun
  | [d1, d2, d3] => { results := [.lit (.bool true)], args := [d1, d2, d3] }
  | _ => none }
def forestTellsRow : OpenClaim := { program := "ytjpfmkfikidgkaagreat", sum := "6721eeca718d75dbb53f3b2ac341e0515312bfc2262c3b3982964de576ac0954", func := "strait/straitlaw39.ForestTells", spec := "forestTells", unfollowed := true, recurses := true, plainKeys := false, apart := false }
def ForestTellsSaid : Prop := forestTellsRow.holds Tryz.pinned (OpenSpec.ofChange forestTellsSpec)

/-- ITS FALSE NEIGHBOUR: 'it returns false'. Refute it at one input. -/
def forestTellsWrong : ChangeSpec := { name := "forestTells", fn := fun _ => fun
  | [d1, d2, d3] => { results := [.lit (.bool false)], args := [d1, d2, d3] }
  | _ => none }
def ForestTellsWrongFalsely : Prop := forestTellsRow.holds Tryz.pinned (OpenSpec.ofChange forestTellsWrong)

/-- 'straitlaw39.ForestKeeps': WHATEVER THE INPUT: true; the input reads as it did. -/
def forestKeepsSpec : ChangeSpec := { name := "forestKeeps", fn := fun _ => fun
  | [d1, d2, d3] => { results := [.lit (.bool true)], args := [d1, d2, d3] }
  | _ => none }
def forestKeepsRow : OpenClaim := { program := "ytjpfmkfikidgkaagreat", sum := "6721eeca718d75dbb53f3b2ac341e0515312bfc2262c3b3982964de576ac0954", func := "strait/straitlaw39.ForestKeeps", spec := "forestKeeps", unfollowed := true, recurses := true, plainKeys := false, apart := false }
def ForestKeepsSaid : Prop := forestKeepsRow.holds Tryz.pinned (OpenSpec.ofChange forestKeepsSpec)

/-- ITS FALSE NEIGHBOUR: 'it returns false'. Refute it at one input. -/
def forestKeepsWrong : ChangeSpec := { name := "forestKeeps", fn := fun _ => fun
  | [d1, d2, d3] => { results := [.lit (.bool false)], args := [d1, d2, d3] }
  | _ => none }
def ForestKeepsWrongFalsely : Prop := forestKeepsRow.holds Tryz.pinned (OpenSpec.ofChange forestKeepsWrong)

/-- 'straitlaw27.MaxflowBound': WHATEVER THE INPUT: true; the input reads as it did. -/
def maxflowBoundSpec : ChangeSpec := { name := "maxflowBound", fn := fun _ => fun
  | [d1, d2] => { results := [.lit (.bool true)], args := [d1, d2] }
  | _ => none }
def maxflowBoundRow : OpenClaim := { program := "ytjpfmkfikidgkaagreat", sum := "6721eeca718d75dbb53f3b2ac341e0515312bfc2262c3b3982964de576ac0954", func := "strait/straitlaw27.MaxflowBound", spec := "maxflowBound", unfollowed := true, recurses := true, plainKeys := false, apart := false }
def MaxflowBoundSaid : Prop := maxflowBoundRow.holds Tryz.pinned (OpenSpec.ofChange maxflowBoundSpec)

/-- ITS FALSE NEIGHBOUR: 'it returns false'. Refute it at one input. -/
def maxflowBoundWrong : ChangeSpec := { name := "maxflowBound", fn := fun _ => fun
  | [d1, d2] => { results := [.lit (.bool false)], args := [d1, d2] }
  | _ => none }
def MaxflowBoundWrongFalsely : Prop := maxflowBoundRow.holds Tryz.pinned (OpenSpec.ofChange maxflowBoundWrong)

/- THE SECOND FORM. 'bulk': how many values and letters a reading holds, each counted each time it is reached (what is shared counts as often as it is met; a slice's spare places count too). A statement '..UptoSaid' is the law's where the arguments, and the package variables that the reading takes, are together of bulk at most 1048576: NARROWER than '..Said'. Prove '..Said' where nothing that the law and all that it calls make is longer than what came in: it says more and counts as full. Else prove '..UptoSaid'. A law counts once. -/
mutual
def uptoBulk {H : Type} : DataW H → Nat
  | .lit (.string bytes) => bytes.length + 1
  | .lit _ => 1
  | .nil => 1
  | .ptr d => uptoBulk d + 1
  | .slice elems spare => uptoBulkAll elems + uptoBulkAll spare + 1
  | .agg parts => uptoBulkAll parts + 1
  | .iface _ d => uptoBulk d + 1
  | .map entries => uptoBulkEntries entries + 1
  | .held _ => 1
def uptoBulkAll {H : Type} : List (DataW H) → Nat
  | [] => 0
  | d :: r => uptoBulk d + uptoBulkAll r
def uptoBulkEntries {H : Type} : List (Lit × DataW H) → Nat
  | [] => 0
  | x :: r => uptoBulkEntry x + uptoBulkEntries r
def uptoBulkEntry {H : Type} : Lit × DataW H → Nat
  | (.string bytes, d) => bytes.length + uptoBulk d + 1
  | (_, d) => uptoBulk d + 1
 end
def uptoSmall : (H : Type) → List (DataW H) → Bool := fun _ ds => decide (uptoBulkAll ds ≤ 1048576)
def OpenSpec.upto (s : _root_.Go.ChangeSpec) : _root_.Go.OpenSpec := { _root_.Go.OpenSpec.ofChange s with cond := some uptoSmall }

/-- 'straitlaw23.ResidPlays', WHERE WHAT IT READS IS OF BULK AT MOST 1048576: true; the input reads as it did. -/
def residPlaysUptoRow : OpenClaim := { program := "ytjpfmkfikidgkaagreat", sum := "6721eeca718d75dbb53f3b2ac341e0515312bfc2262c3b3982964de576ac0954", func := "strait/straitlaw23.ResidPlays", spec := "residPlays", unfollowed := true, recurses := true, plainKeys := false, apart := false, narrowed := true }
def ResidPlaysUptoSaid : Prop := residPlaysUptoRow.holds Tryz.pinned (OpenSpec.upto residPlaysSpec)

/-- 'straitlaw28.FlowckTells', WHERE WHAT IT READS IS OF BULK AT MOST 1048576: true; the input reads as it did. -/
def flowckTellsUptoRow : OpenClaim := { program := "ytjpfmkfikidgkaagreat", sum := "6721eeca718d75dbb53f3b2ac341e0515312bfc2262c3b3982964de576ac0954", func := "strait/straitlaw28.FlowckTells", spec := "flowckTells", unfollowed := true, recurses := true, plainKeys := false, apart := false, narrowed := true }
def FlowckTellsUptoSaid : Prop := flowckTellsUptoRow.holds Tryz.pinned (OpenSpec.upto flowckTellsSpec)

/-- 'straitlaw24.LevelFalls', WHERE WHAT IT READS IS OF BULK AT MOST 1048576: true; the input reads as it did. -/
def levelFallsUptoRow : OpenClaim := { program := "ytjpfmkfikidgkaagreat", sum := "6721eeca718d75dbb53f3b2ac341e0515312bfc2262c3b3982964de576ac0954", func := "strait/straitlaw24.LevelFalls", spec := "levelFalls", unfollowed := true, recurses := true, plainKeys := false, apart := false, narrowed := true }
def LevelFallsUptoSaid : Prop := levelFallsUptoRow.holds Tryz.pinned (OpenSpec.upto levelFallsSpec)

/-- 'straitlaw25.AugmentTells', WHERE WHAT IT READS IS OF BULK AT MOST 1048576: true; the input reads as it did. -/
def augmentTellsUptoRow : OpenClaim := { program := "ytjpfmkfikidgkaagreat", sum := "6721eeca718d75dbb53f3b2ac341e0515312bfc2262c3b3982964de576ac0954", func := "strait/straitlaw25.AugmentTells", spec := "augmentTells", unfollowed := true, recurses := true, plainKeys := false, apart := false, narrowed := true }
def AugmentTellsUptoSaid : Prop := augmentTellsUptoRow.holds Tryz.pinned (OpenSpec.upto augmentTellsSpec)

/-- 'straitlaw37.MaorderTells', WHERE WHAT IT READS IS OF BULK AT MOST 1048576: true; the input reads as it did. -/
def maorderTellsUptoRow : OpenClaim := { program := "ytjpfmkfikidgkaagreat", sum := "6721eeca718d75dbb53f3b2ac341e0515312bfc2262c3b3982964de576ac0954", func := "strait/straitlaw37.MaorderTells", spec := "maorderTells", unfollowed := true, recurses := true, plainKeys := false, apart := false, narrowed := true }
def MaorderTellsUptoSaid : Prop := maorderTellsUptoRow.holds Tryz.pinned (OpenSpec.upto maorderTellsSpec)

/-- 'straitlaw26.RelabelGoes', WHERE WHAT IT READS IS OF BULK AT MOST 1048576: true; the input reads as it did. -/
def relabelGoesUptoRow : OpenClaim := { program := "ytjpfmkfikidgkaagreat", sum := "6721eeca718d75dbb53f3b2ac341e0515312bfc2262c3b3982964de576ac0954", func := "strait/straitlaw26.RelabelGoes", spec := "relabelGoes", unfollowed := true, recurses := true, plainKeys := false, apart := false, narrowed := true }
def RelabelGoesUptoSaid : Prop := relabelGoesUptoRow.holds Tryz.pinned (OpenSpec.upto relabelGoesSpec)

/-- 'straitlaw26.RelabelPlays', WHERE WHAT IT READS IS OF BULK AT MOST 1048576: true; the input reads as it did. -/
def relabelPlaysUptoRow : OpenClaim := { program := "ytjpfmkfikidgkaagreat", sum := "6721eeca718d75dbb53f3b2ac341e0515312bfc2262c3b3982964de576ac0954", func := "strait/straitlaw26.RelabelPlays", spec := "relabelPlays", unfollowed := true, recurses := true, plainKeys := false, apart := false, narrowed := true }
def RelabelPlaysUptoSaid : Prop := relabelPlaysUptoRow.holds Tryz.pinned (OpenSpec.upto relabelPlaysSpec)

/-- 'straitlaw25.AugmentLeast', WHERE WHAT IT READS IS OF BULK AT MOST 1048576: true; the input reads as it did. -/
def augmentLeastUptoRow : OpenClaim := { program := "ytjpfmkfikidgkaagreat", sum := "6721eeca718d75dbb53f3b2ac341e0515312bfc2262c3b3982964de576ac0954", func := "strait/straitlaw25.AugmentLeast", spec := "augmentLeast", unfollowed := true, recurses := true, plainKeys := false, apart := false, narrowed := true }
def AugmentLeastUptoSaid : Prop := augmentLeastUptoRow.holds Tryz.pinned (OpenSpec.upto augmentLeastSpec)

/-- 'straitlaw39.ForestTells', WHERE WHAT IT READS IS OF BULK AT MOST 1048576: true; the input reads as it did. -/
def forestTellsUptoRow : OpenClaim := { program := "ytjpfmkfikidgkaagreat", sum := "6721eeca718d75dbb53f3b2ac341e0515312bfc2262c3b3982964de576ac0954", func := "strait/straitlaw39.ForestTells", spec := "forestTells", unfollowed := true, recurses := true, plainKeys := false, apart := false, narrowed := true }
def ForestTellsUptoSaid : Prop := forestTellsUptoRow.holds Tryz.pinned (OpenSpec.upto forestTellsSpec)

/-- 'straitlaw39.ForestKeeps', WHERE WHAT IT READS IS OF BULK AT MOST 1048576: true; the input reads as it did. -/
def forestKeepsUptoRow : OpenClaim := { program := "ytjpfmkfikidgkaagreat", sum := "6721eeca718d75dbb53f3b2ac341e0515312bfc2262c3b3982964de576ac0954", func := "strait/straitlaw39.ForestKeeps", spec := "forestKeeps", unfollowed := true, recurses := true, plainKeys := false, apart := false, narrowed := true }
def ForestKeepsUptoSaid : Prop := forestKeepsUptoRow.holds Tryz.pinned (OpenSpec.upto forestKeepsSpec)

/-- 'straitlaw27.MaxflowBound', WHERE WHAT IT READS IS OF BULK AT MOST 1048576: true; the input reads as it did. -/
def maxflowBoundUptoRow : OpenClaim := { program := "ytjpfmkfikidgkaagreat", sum := "6721eeca718d75dbb53f3b2ac341e0515312bfc2262c3b3982964de576ac0954", func := "strait/straitlaw27.MaxflowBound", spec := "maxflowBound", unfollowed := true, recurses := true, plainKeys := false, apart := false, narrowed := true }
def MaxflowBoundUptoSaid : Prop := maxflowBoundUptoRow.holds Tryz.pinned (OpenSpec.upto maxflowBoundSpec)

end Rows
end Go.Proofs.YtjpfmkfikidgkaaGreat
