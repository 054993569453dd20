/-
  No cell of these rows narrows 'for every input' (looked for: loops, veiled, ifaces, maps, wideKeys, modest, calm, conditions, laid).
  DERIVED. THE GIVEN ROWS OF THIS SEAT. 5 by the template 'for every input the law returns true; each argument reads behind the call as it read before'; 0 by the template 'total and deterministic' (their statements: YthicilkmjamefaaTotals.lean).
  GIVEN WITH THE SEED: the statements are not yours to turn. If you find one false, say at which input.
  Laid BY PROGRAM, IN A SANDBOX (cutbox-rows.mjs): the forced cells as the released guide's own fill.sh prints them over the translation 4104071f9ec499fe… (all of the seat's roots in one cut). By AI agents, Wed Nov 11 2026. No macro, syntax, notation, axiom, sorry.
-/
import Derived.Test.YthicilkmjamefaaChecked
import GoSem.Claim
import GoSem.ClaimJoined
import GoSem.ClaimMapViews
import Derived.JoinedTies
import Derived.KernelRfl
namespace Go.Proofs.Ythicilkmjamefaa
/- THE CELL 'sum', in the pinned program and in every row, IS THE sha256 OF THE DUMP (.gsa) THAT YthicilkmjamefaaProg.lean LOADS. Nothing in Lean hashes anything: it is a label: what it is worth is what the hold of that sum in a sandbox is worth. -/
noncomputable def Try.pinned : Pinned := { name := "ythicilkmjamefaa", sum := "4104071f9ec499feb752781804e9ac86d8608f6d341fe96ceaf9435f2ddb7019", checked := Try.checked }
namespace Rows
def none {H : Type} : Left H := { results := [], args := [] }

/-- 'ganseylaw03.StacksCheck': WHATEVER THE INPUT: true; the input reads as it did. -/
def stacksCheckSpec : ChangeSpec := { name := "stacksCheck", fn := fun _ => fun
  | [d] => { results := [.lit (.bool true)], args := [d] }
  | _ => none }
def stacksCheckRow : OpenClaim := { program := "ythicilkmjamefaa", sum := "4104071f9ec499feb752781804e9ac86d8608f6d341fe96ceaf9435f2ddb7019", func := "gansey/ganseylaw03.StacksCheck", spec := "stacksCheck", unfollowed := true, recurses := true, plainKeys := false, apart := false }
def StacksCheckSaid : Prop := stacksCheckRow.holds Try.pinned (OpenSpec.ofChange stacksCheckSpec)

/-- ITS FALSE NEIGHBOUR: 'it returns false'. Refute it at one input. -/
def stacksCheckWrong : ChangeSpec := { name := "stacksCheck", fn := fun _ => fun
  | [d] => { results := [.lit (.bool false)], args := [d] }
  | _ => none }
def StacksCheckWrongFalsely : Prop := stacksCheckRow.holds Try.pinned (OpenSpec.ofChange stacksCheckWrong)

/-- 'ganseylaw18.ColoursCheck': WHATEVER THE INPUT: true; the input reads as it did. -/
def coloursCheckSpec : ChangeSpec := { name := "coloursCheck", fn := fun _ => fun
  | [d1, d2] => { results := [.lit (.bool true)], args := [d1, d2] }
  | _ => none }
def coloursCheckRow : OpenClaim := { program := "ythicilkmjamefaa", sum := "4104071f9ec499feb752781804e9ac86d8608f6d341fe96ceaf9435f2ddb7019", func := "gansey/ganseylaw18.ColoursCheck", spec := "coloursCheck", inPlace := ["internal/abi.NoEscape"], unfollowed := true, recurses := true, plainKeys := false, apart := false }
def ColoursCheckSaid : Prop := coloursCheckRow.holds Try.pinned (OpenSpec.ofChange coloursCheckSpec)

/-- ITS FALSE NEIGHBOUR: 'it returns false'. Refute it at one input. -/
def coloursCheckWrong : ChangeSpec := { name := "coloursCheck", fn := fun _ => fun
  | [d1, d2] => { results := [.lit (.bool false)], args := [d1, d2] }
  | _ => none }
def ColoursCheckWrongFalsely : Prop := coloursCheckRow.holds Try.pinned (OpenSpec.ofChange coloursCheckWrong)

/-- 'ganseylaw05.LoopsCheck': WHATEVER THE INPUT: true; the input reads as it did. -/
def loopsCheckSpec : ChangeSpec := { name := "loopsCheck", fn := fun _ => fun
  | [d] => { results := [.lit (.bool true)], args := [d] }
  | _ => none }
def loopsCheckRow : OpenClaim := { program := "ythicilkmjamefaa", sum := "4104071f9ec499feb752781804e9ac86d8608f6d341fe96ceaf9435f2ddb7019", func := "gansey/ganseylaw05.LoopsCheck", spec := "loopsCheck", unfollowed := true, recurses := true, plainKeys := false, apart := false }
def LoopsCheckSaid : Prop := loopsCheckRow.holds Try.pinned (OpenSpec.ofChange loopsCheckSpec)

/-- ITS FALSE NEIGHBOUR: 'it returns false'. Refute it at one input. -/
def loopsCheckWrong : ChangeSpec := { name := "loopsCheck", fn := fun _ => fun
  | [d] => { results := [.lit (.bool false)], args := [d] }
  | _ => none }
def LoopsCheckWrongFalsely : Prop := loopsCheckRow.holds Try.pinned (OpenSpec.ofChange loopsCheckWrong)

/-- 'ganseylaw41.JobsErrors': WHATEVER THE INPUT: true; the input reads as it did. -/
def jobsErrorsSpec : ChangeSpec := { name := "jobsErrors", fn := fun _ => fun
  | [d1, d2, d3] => { results := [.lit (.bool true)], args := [d1, d2, d3] }
  | _ => none }
def jobsErrorsRow : OpenClaim := { program := "ythicilkmjamefaa", sum := "4104071f9ec499feb752781804e9ac86d8608f6d341fe96ceaf9435f2ddb7019", func := "gansey/ganseylaw41.JobsErrors", spec := "jobsErrors", unfollowed := true, recurses := true, plainKeys := false, apart := false }
def JobsErrorsSaid : Prop := jobsErrorsRow.holds Try.pinned (OpenSpec.ofChange jobsErrorsSpec)

/-- ITS FALSE NEIGHBOUR: 'it returns false'. Refute it at one input. -/
def jobsErrorsWrong : ChangeSpec := { name := "jobsErrors", fn := fun _ => fun
  | [d1, d2, d3] => { results := [.lit (.bool false)], args := [d1, d2, d3] }
  | _ => none }
def JobsErrorsWrongFalsely : Prop := jobsErrorsRow.holds Try.pinned (OpenSpec.ofChange jobsErrorsWrong)

/-- 'ganseylaw42.StocksCheck': WHATEVER THE INPUT: true; the input reads as it did. -/
def stocksCheckSpec : ChangeSpec := { name := "stocksCheck", fn := fun _ => fun
  | [d1, d2, d3] => { results := [.lit (.bool true)], args := [d1, d2, d3] }
  | _ => none }
def stocksCheckRow : OpenClaim := { program := "ythicilkmjamefaa", sum := "4104071f9ec499feb752781804e9ac86d8608f6d341fe96ceaf9435f2ddb7019", func := "gansey/ganseylaw42.StocksCheck", spec := "stocksCheck", inPlace := ["slices.overlaps[gansey/stocks.Hold]"], unfollowed := true, recurses := true, plainKeys := false, apart := false }
def StocksCheckSaid : Prop := stocksCheckRow.holds Try.pinned (OpenSpec.ofChange stocksCheckSpec)

/-- ITS FALSE NEIGHBOUR: 'it returns false'. Refute it at one input. -/
def stocksCheckWrong : ChangeSpec := { name := "stocksCheck", fn := fun _ => fun
  | [d1, d2, d3] => { results := [.lit (.bool false)], args := [d1, d2, d3] }
  | _ => none }
def StocksCheckWrongFalsely : Prop := stocksCheckRow.holds Try.pinned (OpenSpec.ofChange stocksCheckWrong)

/- THE SECOND FORM. 'bulk': how many values and letters a reading holds, each counted each time it is reached (what is shared counts as often as it is met; a slice's spare places count too). A statement '..UptoSaid' is the law's where the arguments, and the package variables that the reading takes, are together of bulk at most 1048576: NARROWER than '..Said'. Prove '..Said' where nothing that the law and all that it calls make is longer than what came in: it says more and counts as full. Else prove '..UptoSaid'. A law counts once. -/
mutual
def uptoBulk {H : Type} : DataW H → Nat
  | .lit (.string bytes) => bytes.length + 1
  | .lit _ => 1
  | .nil => 1
  | .ptr d => uptoBulk d + 1
  | .slice elems spare => uptoBulkAll elems + uptoBulkAll spare + 1
  | .agg parts => uptoBulkAll parts + 1
  | .iface _ d => uptoBulk d + 1
  | .map entries => uptoBulkEntries entries + 1
  | .held _ => 1
def uptoBulkAll {H : Type} : List (DataW H) → Nat
  | [] => 0
  | d :: r => uptoBulk d + uptoBulkAll r
def uptoBulkEntries {H : Type} : List (Lit × DataW H) → Nat
  | [] => 0
  | x :: r => uptoBulkEntry x + uptoBulkEntries r
def uptoBulkEntry {H : Type} : Lit × DataW H → Nat
  | (.string bytes, d) => bytes.length + uptoBulk d + 1
  | (_, d) => uptoBulk d + 1
 end
def uptoSmall : (H : Type) → List (DataW H) → Bool := fun _ ds => decide (uptoBulkAll ds ≤ 1048576)
def OpenSpec.upto (s : _root_.Go.ChangeSpec) : _root_.Go.OpenSpec := { _root_.Go.OpenSpec.ofChange s with cond := some uptoSmall }

/-- 'ganseylaw03.StacksCheck', WHERE WHAT IT READS IS OF BULK AT MOST 1048576: true; the input reads as it did. -/
def stacksCheckUptoRow : OpenClaim := { program := "ythicilkmjamefaa", sum := "4104071f9ec499feb752781804e9ac86d8608f6d341fe96ceaf9435f2ddb7019", func := "gansey/ganseylaw03.StacksCheck", spec := "stacksCheck", unfollowed := true, recurses := true, plainKeys := false, apart := false, narrowed := true }
def StacksCheckUptoSaid : Prop := stacksCheckUptoRow.holds Try.pinned (OpenSpec.upto stacksCheckSpec)

/-- 'ganseylaw18.ColoursCheck', WHERE WHAT IT READS IS OF BULK AT MOST 1048576: true; the input reads as it did. -/
def coloursCheckUptoRow : OpenClaim := { program := "ythicilkmjamefaa", sum := "4104071f9ec499feb752781804e9ac86d8608f6d341fe96ceaf9435f2ddb7019", func := "gansey/ganseylaw18.ColoursCheck", spec := "coloursCheck", inPlace := ["internal/abi.NoEscape"], unfollowed := true, recurses := true, plainKeys := false, apart := false, narrowed := true }
def ColoursCheckUptoSaid : Prop := coloursCheckUptoRow.holds Try.pinned (OpenSpec.upto coloursCheckSpec)

/-- 'ganseylaw05.LoopsCheck', WHERE WHAT IT READS IS OF BULK AT MOST 1048576: true; the input reads as it did. -/
def loopsCheckUptoRow : OpenClaim := { program := "ythicilkmjamefaa", sum := "4104071f9ec499feb752781804e9ac86d8608f6d341fe96ceaf9435f2ddb7019", func := "gansey/ganseylaw05.LoopsCheck", spec := "loopsCheck", unfollowed := true, recurses := true, plainKeys := false, apart := false, narrowed := true }
def LoopsCheckUptoSaid : Prop := loopsCheckUptoRow.holds Try.pinned (OpenSpec.upto loopsCheckSpec)

/-- 'ganseylaw41.JobsErrors', WHERE WHAT IT READS IS OF BULK AT MOST 1048576: true; the input reads as it did. -/
def jobsErrorsUptoRow : OpenClaim := { program := "ythicilkmjamefaa", sum := "4104071f9ec499feb752781804e9ac86d8608f6d341fe96ceaf9435f2ddb7019", func := "gansey/ganseylaw41.JobsErrors", spec := "jobsErrors", unfollowed := true, recurses := true, plainKeys := false, apart := false, narrowed := true }
def JobsErrorsUptoSaid : Prop := jobsErrorsUptoRow.holds Try.pinned (OpenSpec.upto jobsErrorsSpec)

/-- 'ganseylaw42.StocksCheck', WHERE WHAT IT READS IS OF BULK AT MOST 1048576: true; the input reads as it did. -/
def stocksCheckUptoRow : OpenClaim := { program := "ythicilkmjamefaa", sum := "4104071f9ec499feb752781804e9ac86d8608f6d341fe96ceaf9435f2ddb7019", func := "gansey/ganseylaw42.StocksCheck", spec := "stocksCheck", inPlace := ["slices.overlaps[gansey/stocks.Hold]"], unfollowed := true, recurses := true, plainKeys := false, apart := false, narrowed := true }
def StocksCheckUptoSaid : Prop := stocksCheckUptoRow.holds Try.pinned (OpenSpec.upto stocksCheckSpec)

end Rows
end Go.Proofs.Ythicilkmjamefaa
