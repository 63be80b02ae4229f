/-
  No cell of these rows narrows 'for every input' (looked for: loops, veiled, ifaces, maps, wideKeys, modest, calm, conditions, laid).
  DERIVED. THE GIVEN ROWS OF THIS SEAT. 12 by the template 'for every input the law returns true; each argument reads behind the call as it read before'; 0 by the template 'total and deterministic' (their statements: YtmkbinbggiocaaaTotals.lean).
  GIVEN WITH THE SEED: the statements are not yours to turn. If you find one false, say at which input.
  Laid BY PROGRAM, IN A SANDBOX (cutbox-rows.mjs): the forced cells as the released guide's own fill.sh prints them over the translation cddb8b15a4b85853… (all of the seat's roots in one cut). By AI agents, Wed Nov 11 2026. No macro, syntax, notation, axiom, sorry.
-/
import Derived.Test.YtmkbinbggiocaaaChecked
import GoSem.Claim
import GoSem.ClaimJoined
import GoSem.ClaimMapViews
import Derived.JoinedTies
import Derived.KernelRfl
namespace Go.Proofs.Ytmkbinbggiocaaa
/- THE CELL 'sum', in the pinned program and in every row, IS THE sha256 OF THE DUMP (.gsa) THAT YtmkbinbggiocaaaProg.lean LOADS. Nothing in Lean hashes anything: it is a label: what it is worth is what the hold of that sum in a sandbox is worth. -/
noncomputable def Try.pinned : Pinned := { name := "ytmkbinbggiocaaa", sum := "cddb8b15a4b8585304d27244092e67505e73a30f58359bdc68b30255c7b1cda8", checked := Try.checked }
namespace Rows
def none {H : Type} : Left H := { results := [], args := [] }

/-- 'straitlaw11.ArenaPlays': WHATEVER THE INPUT: true; the input reads as it did. -/
def arenaPlaysSpec : ChangeSpec := { name := "arenaPlays", fn := fun _ => fun
  | [d1, d2] => { results := [.lit (.bool true)], args := [d1, d2] }
  | _ => none }
def arenaPlaysRow : OpenClaim := { program := "ytmkbinbggiocaaa", sum := "cddb8b15a4b8585304d27244092e67505e73a30f58359bdc68b30255c7b1cda8", func := "strait/straitlaw11.ArenaPlays", spec := "arenaPlays", apart := false }
def ArenaPlaysSaid : Prop := arenaPlaysRow.holds Try.pinned (OpenSpec.ofChange arenaPlaysSpec)

/-- ITS FALSE NEIGHBOUR: 'it returns false'. Refute it at one input. -/
def arenaPlaysWrong : ChangeSpec := { name := "arenaPlays", fn := fun _ => fun
  | [d1, d2] => { results := [.lit (.bool false)], args := [d1, d2] }
  | _ => none }
def ArenaPlaysWrongFalsely : Prop := arenaPlaysRow.holds Try.pinned (OpenSpec.ofChange arenaPlaysWrong)

/-- 'straitlaw11.ArenaApart': WHATEVER THE INPUT: true; the input reads as it did. -/
def arenaApartSpec : ChangeSpec := { name := "arenaApart", fn := fun _ => fun
  | [d1, d2] => { results := [.lit (.bool true)], args := [d1, d2] }
  | _ => none }
def arenaApartRow : OpenClaim := { program := "ytmkbinbggiocaaa", sum := "cddb8b15a4b8585304d27244092e67505e73a30f58359bdc68b30255c7b1cda8", func := "strait/straitlaw11.ArenaApart", spec := "arenaApart", apart := false }
def ArenaApartSaid : Prop := arenaApartRow.holds Try.pinned (OpenSpec.ofChange arenaApartSpec)

/-- ITS FALSE NEIGHBOUR: 'it returns false'. Refute it at one input. -/
def arenaApartWrong : ChangeSpec := { name := "arenaApart", fn := fun _ => fun
  | [d1, d2] => { results := [.lit (.bool false)], args := [d1, d2] }
  | _ => none }
def ArenaApartWrongFalsely : Prop := arenaApartRow.holds Try.pinned (OpenSpec.ofChange arenaApartWrong)

/-- 'straitlaw45.CodePuts': WHATEVER THE INPUT: true; the input reads as it did. -/
def codePutsSpec : ChangeSpec := { name := "codePuts", fn := fun _ => fun
  | [d1, d2] => { results := [.lit (.bool true)], args := [d1, d2] }
  | _ => none }
def codePutsRow : OpenClaim := { program := "ytmkbinbggiocaaa", sum := "cddb8b15a4b8585304d27244092e67505e73a30f58359bdc68b30255c7b1cda8", func := "strait/straitlaw45.CodePuts", spec := "codePuts", unfollowed := true, recurses := true, apart := false }
def CodePutsSaid : Prop := codePutsRow.holds Try.pinned (OpenSpec.ofChange codePutsSpec)

/-- ITS FALSE NEIGHBOUR: 'it returns false'. Refute it at one input. -/
def codePutsWrong : ChangeSpec := { name := "codePuts", fn := fun _ => fun
  | [d1, d2] => { results := [.lit (.bool false)], args := [d1, d2] }
  | _ => none }
def CodePutsWrongFalsely : Prop := codePutsRow.holds Try.pinned (OpenSpec.ofChange codePutsWrong)

/-- 'straitlaw45.CodeBack': WHATEVER THE INPUT: true; the input reads as it did. -/
def codeBackSpec : ChangeSpec := { name := "codeBack", fn := fun _ => fun
  | [d1, d2] => { results := [.lit (.bool true)], args := [d1, d2] }
  | _ => none }
def codeBackRow : OpenClaim := { program := "ytmkbinbggiocaaa", sum := "cddb8b15a4b8585304d27244092e67505e73a30f58359bdc68b30255c7b1cda8", func := "strait/straitlaw45.CodeBack", spec := "codeBack", unfollowed := true, recurses := true, apart := false }
def CodeBackSaid : Prop := codeBackRow.holds Try.pinned (OpenSpec.ofChange codeBackSpec)

/-- ITS FALSE NEIGHBOUR: 'it returns false'. Refute it at one input. -/
def codeBackWrong : ChangeSpec := { name := "codeBack", fn := fun _ => fun
  | [d1, d2] => { results := [.lit (.bool false)], args := [d1, d2] }
  | _ => none }
def CodeBackWrongFalsely : Prop := codeBackRow.holds Try.pinned (OpenSpec.ofChange codeBackWrong)

/-- 'straitlaw45.CodeReads': WHATEVER THE INPUT: true; the input reads as it did. -/
def codeReadsSpec : ChangeSpec := { name := "codeReads", fn := fun _ => fun
  | [d1, d2] => { results := [.lit (.bool true)], args := [d1, d2] }
  | _ => none }
def codeReadsRow : OpenClaim := { program := "ytmkbinbggiocaaa", sum := "cddb8b15a4b8585304d27244092e67505e73a30f58359bdc68b30255c7b1cda8", func := "strait/straitlaw45.CodeReads", spec := "codeReads", recurses := true, apart := false }
def CodeReadsSaid : Prop := codeReadsRow.holds Try.pinned (OpenSpec.ofChange codeReadsSpec)

/-- ITS FALSE NEIGHBOUR: 'it returns false'. Refute it at one input. -/
def codeReadsWrong : ChangeSpec := { name := "codeReads", fn := fun _ => fun
  | [d1, d2] => { results := [.lit (.bool false)], args := [d1, d2] }
  | _ => none }
def CodeReadsWrongFalsely : Prop := codeReadsRow.holds Try.pinned (OpenSpec.ofChange codeReadsWrong)

/-- 'straitlaw44.RatioShares': WHATEVER THE INPUT: true; the input reads as it did. -/
def ratioSharesSpec : ChangeSpec := { name := "ratioShares", fn := fun _ => fun
  | [d1, d2, d3] => { results := [.lit (.bool true)], args := [d1, d2, d3] }
  | _ => none }
def ratioSharesRow : OpenClaim := { program := "ytmkbinbggiocaaa", sum := "cddb8b15a4b8585304d27244092e67505e73a30f58359bdc68b30255c7b1cda8", func := "strait/straitlaw44.RatioShares", spec := "ratioShares", inPlace := ["math.Float64frombits", "math.Float64bits"], unfollowed := true, recurses := true, apart := false }
def RatioSharesSaid : Prop := ratioSharesRow.holds Try.pinned (OpenSpec.ofChange ratioSharesSpec)

/-- ITS FALSE NEIGHBOUR: 'it returns false'. Refute it at one input. -/
def ratioSharesWrong : ChangeSpec := { name := "ratioShares", fn := fun _ => fun
  | [d1, d2, d3] => { results := [.lit (.bool false)], args := [d1, d2, d3] }
  | _ => none }
def RatioSharesWrongFalsely : Prop := ratioSharesRow.holds Try.pinned (OpenSpec.ofChange ratioSharesWrong)

/-- 'straitlaw44.RatioTells': WHATEVER THE INPUT: true; the input reads as it did. -/
def ratioTellsSpec : ChangeSpec := { name := "ratioTells", fn := fun _ => fun
  | [d1, d2] => { results := [.lit (.bool true)], args := [d1, d2] }
  | _ => none }
def ratioTellsRow : OpenClaim := { program := "ytmkbinbggiocaaa", sum := "cddb8b15a4b8585304d27244092e67505e73a30f58359bdc68b30255c7b1cda8", func := "strait/straitlaw44.RatioTells", spec := "ratioTells", inPlace := ["math.Float64frombits", "math.Float64bits"], unfollowed := true, recurses := true, apart := false }
def RatioTellsSaid : Prop := ratioTellsRow.holds Try.pinned (OpenSpec.ofChange ratioTellsSpec)

/-- ITS FALSE NEIGHBOUR: 'it returns false'. Refute it at one input. -/
def ratioTellsWrong : ChangeSpec := { name := "ratioTells", fn := fun _ => fun
  | [d1, d2] => { results := [.lit (.bool false)], args := [d1, d2] }
  | _ => none }
def RatioTellsWrongFalsely : Prop := ratioTellsRow.holds Try.pinned (OpenSpec.ofChange ratioTellsWrong)

/-- 'straitlaw12.PheapFalls': WHATEVER THE INPUT: true; the input reads as it did. -/
def pheapFallsSpec : ChangeSpec := { name := "pheapFalls", fn := fun _ => fun
  | [d1, d2] => { results := [.lit (.bool true)], args := [d1, d2] }
  | _ => none }
def pheapFallsRow : OpenClaim := { program := "ytmkbinbggiocaaa", sum := "cddb8b15a4b8585304d27244092e67505e73a30f58359bdc68b30255c7b1cda8", func := "strait/straitlaw12.PheapFalls", spec := "pheapFalls", unfollowed := true, recurses := true, apart := false }
def PheapFallsSaid : Prop := pheapFallsRow.holds Try.pinned (OpenSpec.ofChange pheapFallsSpec)

/-- ITS FALSE NEIGHBOUR: 'it returns false'. Refute it at one input. -/
def pheapFallsWrong : ChangeSpec := { name := "pheapFalls", fn := fun _ => fun
  | [d1, d2] => { results := [.lit (.bool false)], args := [d1, d2] }
  | _ => none }
def PheapFallsWrongFalsely : Prop := pheapFallsRow.holds Try.pinned (OpenSpec.ofChange pheapFallsWrong)

/-- 'straitlaw12.PheapPlays': WHATEVER THE INPUT: true; the input reads as it did. -/
def pheapPlaysSpec : ChangeSpec := { name := "pheapPlays", fn := fun _ => fun
  | [d1, d2] => { results := [.lit (.bool true)], args := [d1, d2] }
  | _ => none }
def pheapPlaysRow : OpenClaim := { program := "ytmkbinbggiocaaa", sum := "cddb8b15a4b8585304d27244092e67505e73a30f58359bdc68b30255c7b1cda8", func := "strait/straitlaw12.PheapPlays", spec := "pheapPlays", unfollowed := true, recurses := true, apart := false }
def PheapPlaysSaid : Prop := pheapPlaysRow.holds Try.pinned (OpenSpec.ofChange pheapPlaysSpec)

/-- ITS FALSE NEIGHBOUR: 'it returns false'. Refute it at one input. -/
def pheapPlaysWrong : ChangeSpec := { name := "pheapPlays", fn := fun _ => fun
  | [d1, d2] => { results := [.lit (.bool false)], args := [d1, d2] }
  | _ => none }
def PheapPlaysWrongFalsely : Prop := pheapPlaysRow.holds Try.pinned (OpenSpec.ofChange pheapPlaysWrong)

/-- 'straitlaw12.PheapNone': WHATEVER THE INPUT: true; the input reads as it did. -/
def pheapNoneSpec : ChangeSpec := { name := "pheapNone", fn := fun _ => fun
  | [d1, d2] => { results := [.lit (.bool true)], args := [d1, d2] }
  | _ => none }
def pheapNoneRow : OpenClaim := { program := "ytmkbinbggiocaaa", sum := "cddb8b15a4b8585304d27244092e67505e73a30f58359bdc68b30255c7b1cda8", func := "strait/straitlaw12.PheapNone", spec := "pheapNone", unfollowed := true, recurses := true, apart := false }
def PheapNoneSaid : Prop := pheapNoneRow.holds Try.pinned (OpenSpec.ofChange pheapNoneSpec)

/-- ITS FALSE NEIGHBOUR: 'it returns false'. Refute it at one input. -/
def pheapNoneWrong : ChangeSpec := { name := "pheapNone", fn := fun _ => fun
  | [d1, d2] => { results := [.lit (.bool false)], args := [d1, d2] }
  | _ => none }
def PheapNoneWrongFalsely : Prop := pheapNoneRow.holds Try.pinned (OpenSpec.ofChange pheapNoneWrong)

/-- 'straitlaw46.CertPuts': WHATEVER THE INPUT: true; the input reads as it did. -/
def certPutsSpec : ChangeSpec := { name := "certPuts", fn := fun _ => fun
  | [d1, d2] => { results := [.lit (.bool true)], args := [d1, d2] }
  | _ => none }
def certPutsRow : OpenClaim := { program := "ytmkbinbggiocaaa", sum := "cddb8b15a4b8585304d27244092e67505e73a30f58359bdc68b30255c7b1cda8", func := "strait/straitlaw46.CertPuts", spec := "certPuts", unfollowed := true, recurses := true, apart := false }
def CertPutsSaid : Prop := certPutsRow.holds Try.pinned (OpenSpec.ofChange certPutsSpec)

/-- ITS FALSE NEIGHBOUR: 'it returns false'. Refute it at one input. -/
def certPutsWrong : ChangeSpec := { name := "certPuts", fn := fun _ => fun
  | [d1, d2] => { results := [.lit (.bool false)], args := [d1, d2] }
  | _ => none }
def CertPutsWrongFalsely : Prop := certPutsRow.holds Try.pinned (OpenSpec.ofChange certPutsWrong)

/-- 'straitlaw46.CertReads': WHATEVER THE INPUT: true; the input reads as it did. -/
def certReadsSpec : ChangeSpec := { name := "certReads", fn := fun _ => fun
  | [d1, d2] => { results := [.lit (.bool true)], args := [d1, d2] }
  | _ => none }
def certReadsRow : OpenClaim := { program := "ytmkbinbggiocaaa", sum := "cddb8b15a4b8585304d27244092e67505e73a30f58359bdc68b30255c7b1cda8", func := "strait/straitlaw46.CertReads", spec := "certReads", unfollowed := true, recurses := true, apart := false }
def CertReadsSaid : Prop := certReadsRow.holds Try.pinned (OpenSpec.ofChange certReadsSpec)

/-- ITS FALSE NEIGHBOUR: 'it returns false'. Refute it at one input. -/
def certReadsWrong : ChangeSpec := { name := "certReads", fn := fun _ => fun
  | [d1, d2] => { results := [.lit (.bool false)], args := [d1, d2] }
  | _ => none }
def CertReadsWrongFalsely : Prop := certReadsRow.holds Try.pinned (OpenSpec.ofChange certReadsWrong)

/- THE SECOND FORM. 'bulk': how many values and letters a reading holds, each counted each time it is reached (what is shared counts as often as it is met; a slice's spare places count too). A statement '..UptoSaid' is the law's where the arguments, and the package variables that the reading takes, are together of bulk at most 1048576: NARROWER than '..Said'. Prove '..Said' where nothing that the law and all that it calls make is longer than what came in: it says more and counts as full. Else prove '..UptoSaid'. A law counts once. -/
mutual
def uptoBulk {H : Type} : DataW H → Nat
  | .lit (.string bytes) => bytes.length + 1
  | .lit _ => 1
  | .nil => 1
  | .ptr d => uptoBulk d + 1
  | .slice elems spare => uptoBulkAll elems + uptoBulkAll spare + 1
  | .agg parts => uptoBulkAll parts + 1
  | .iface _ d => uptoBulk d + 1
  | .map entries => uptoBulkEntries entries + 1
  | .held _ => 1
def uptoBulkAll {H : Type} : List (DataW H) → Nat
  | [] => 0
  | d :: r => uptoBulk d + uptoBulkAll r
def uptoBulkEntries {H : Type} : List (Lit × DataW H) → Nat
  | [] => 0
  | x :: r => uptoBulkEntry x + uptoBulkEntries r
def uptoBulkEntry {H : Type} : Lit × DataW H → Nat
  | (.string bytes, d) => bytes.length + uptoBulk d + 1
  | (_, d) => uptoBulk d + 1
 end
def uptoSmall : (H : Type) → List (DataW H) → Bool := fun _ ds => decide (uptoBulkAll ds ≤ 1048576)
def OpenSpec.upto (s : _root_.Go.ChangeSpec) : _root_.Go.OpenSpec := { _root_.Go.OpenSpec.ofChange s with cond := some uptoSmall }

/-- 'straitlaw11.ArenaPlays', WHERE WHAT IT READS IS OF BULK AT MOST 1048576: true; the input reads as it did. -/
def arenaPlaysUptoRow : OpenClaim := { program := "ytmkbinbggiocaaa", sum := "cddb8b15a4b8585304d27244092e67505e73a30f58359bdc68b30255c7b1cda8", func := "strait/straitlaw11.ArenaPlays", spec := "arenaPlays", apart := false, narrowed := true }
def ArenaPlaysUptoSaid : Prop := arenaPlaysUptoRow.holds Try.pinned (OpenSpec.upto arenaPlaysSpec)

/-- 'straitlaw11.ArenaApart', WHERE WHAT IT READS IS OF BULK AT MOST 1048576: true; the input reads as it did. -/
def arenaApartUptoRow : OpenClaim := { program := "ytmkbinbggiocaaa", sum := "cddb8b15a4b8585304d27244092e67505e73a30f58359bdc68b30255c7b1cda8", func := "strait/straitlaw11.ArenaApart", spec := "arenaApart", apart := false, narrowed := true }
def ArenaApartUptoSaid : Prop := arenaApartUptoRow.holds Try.pinned (OpenSpec.upto arenaApartSpec)

/-- 'straitlaw45.CodePuts', WHERE WHAT IT READS IS OF BULK AT MOST 1048576: true; the input reads as it did. -/
def codePutsUptoRow : OpenClaim := { program := "ytmkbinbggiocaaa", sum := "cddb8b15a4b8585304d27244092e67505e73a30f58359bdc68b30255c7b1cda8", func := "strait/straitlaw45.CodePuts", spec := "codePuts", unfollowed := true, recurses := true, apart := false, narrowed := true }
def CodePutsUptoSaid : Prop := codePutsUptoRow.holds Try.pinned (OpenSpec.upto codePutsSpec)

/-- 'straitlaw45.CodeBack', WHERE WHAT IT READS IS OF BULK AT MOST 1048576: true; the input reads as it did. -/
def codeBackUptoRow : OpenClaim := { program := "ytmkbinbggiocaaa", sum := "cddb8b15a4b8585304d27244092e67505e73a30f58359bdc68b30255c7b1cda8", func := "strait/straitlaw45.CodeBack", spec := "codeBack", unfollowed := true, recurses := true, apart := false, narrowed := true }
def CodeBackUptoSaid : Prop := codeBackUptoRow.holds Try.pinned (OpenSpec.upto codeBackSpec)

/-- 'straitlaw45.CodeReads', WHERE WHAT IT READS IS OF BULK AT MOST 1048576: true; the input reads as it did. -/
def codeReadsUptoRow : OpenClaim := { program := "ytmkbinbggiocaaa", sum := "cddb8b15a4b8585304d27244092e67505e73a30f58359bdc68b30255c7b1cda8", func := "strait/straitlaw45.CodeReads", spec := "codeReads", recurses := true, apart := false, narrowed := true }
def CodeReadsUptoSaid : Prop := codeReadsUptoRow.holds Try.pinned (OpenSpec.upto codeReadsSpec)

/-- 'straitlaw44.RatioShares', WHERE WHAT IT READS IS OF BULK AT MOST 1048576: true; the input reads as it did. -/
def ratioSharesUptoRow : OpenClaim := { program := "ytmkbinbggiocaaa", sum := "cddb8b15a4b8585304d27244092e67505e73a30f58359bdc68b30255c7b1cda8", func := "strait/straitlaw44.RatioShares", spec := "ratioShares", inPlace := ["math.Float64frombits", "math.Float64bits"], unfollowed := true, recurses := true, apart := false, narrowed := true }
def RatioSharesUptoSaid : Prop := ratioSharesUptoRow.holds Try.pinned (OpenSpec.upto ratioSharesSpec)

/-- 'straitlaw44.RatioTells', WHERE WHAT IT READS IS OF BULK AT MOST 1048576: true; the input reads as it did. -/
def ratioTellsUptoRow : OpenClaim := { program := "ytmkbinbggiocaaa", sum := "cddb8b15a4b8585304d27244092e67505e73a30f58359bdc68b30255c7b1cda8", func := "strait/straitlaw44.RatioTells", spec := "ratioTells", inPlace := ["math.Float64frombits", "math.Float64bits"], unfollowed := true, recurses := true, apart := false, narrowed := true }
def RatioTellsUptoSaid : Prop := ratioTellsUptoRow.holds Try.pinned (OpenSpec.upto ratioTellsSpec)

/-- 'straitlaw12.PheapFalls', WHERE WHAT IT READS IS OF BULK AT MOST 1048576: true; the input reads as it did. -/
def pheapFallsUptoRow : OpenClaim := { program := "ytmkbinbggiocaaa", sum := "cddb8b15a4b8585304d27244092e67505e73a30f58359bdc68b30255c7b1cda8", func := "strait/straitlaw12.PheapFalls", spec := "pheapFalls", unfollowed := true, recurses := true, apart := false, narrowed := true }
def PheapFallsUptoSaid : Prop := pheapFallsUptoRow.holds Try.pinned (OpenSpec.upto pheapFallsSpec)

/-- 'straitlaw12.PheapPlays', WHERE WHAT IT READS IS OF BULK AT MOST 1048576: true; the input reads as it did. -/
def pheapPlaysUptoRow : OpenClaim := { program := "ytmkbinbggiocaaa", sum := "cddb8b15a4b8585304d27244092e67505e73a30f58359bdc68b30255c7b1cda8", func := "strait/straitlaw12.PheapPlays", spec := "pheapPlays", unfollowed := true, recurses := true, apart := false, narrowed := true }
def PheapPlaysUptoSaid : Prop := pheapPlaysUptoRow.holds Try.pinned (OpenSpec.upto pheapPlaysSpec)

/-- 'straitlaw12.PheapNone', WHERE WHAT IT READS IS OF BULK AT MOST 1048576: true; the input reads as it did. -/
def pheapNoneUptoRow : OpenClaim := { program := "ytmkbinbggiocaaa", sum := "cddb8b15a4b8585304d27244092e67505e73a30f58359bdc68b30255c7b1cda8", func := "strait/straitlaw12.PheapNone", spec := "pheapNone", unfollowed := true, recurses := true, apart := false, narrowed := true }
def PheapNoneUptoSaid : Prop := pheapNoneUptoRow.holds Try.pinned (OpenSpec.upto pheapNoneSpec)

/-- 'straitlaw46.CertPuts', WHERE WHAT IT READS IS OF BULK AT MOST 1048576: true; the input reads as it did. -/
def certPutsUptoRow : OpenClaim := { program := "ytmkbinbggiocaaa", sum := "cddb8b15a4b8585304d27244092e67505e73a30f58359bdc68b30255c7b1cda8", func := "strait/straitlaw46.CertPuts", spec := "certPuts", unfollowed := true, recurses := true, apart := false, narrowed := true }
def CertPutsUptoSaid : Prop := certPutsUptoRow.holds Try.pinned (OpenSpec.upto certPutsSpec)

/-- 'straitlaw46.CertReads', WHERE WHAT IT READS IS OF BULK AT MOST 1048576: true; the input reads as it did. -/
def certReadsUptoRow : OpenClaim := { program := "ytmkbinbggiocaaa", sum := "cddb8b15a4b8585304d27244092e67505e73a30f58359bdc68b30255c7b1cda8", func := "strait/straitlaw46.CertReads", spec := "certReads", unfollowed := true, recurses := true, apart := false, narrowed := true }
def CertReadsUptoSaid : Prop := certReadsUptoRow.holds Try.pinned (OpenSpec.upto certReadsSpec)

end Rows
end Go.Proofs.Ytmkbinbggiocaaa
