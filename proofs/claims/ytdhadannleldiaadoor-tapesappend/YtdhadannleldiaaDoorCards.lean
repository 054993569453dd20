/-
  DERIVED. GIVEN WITH THE SEED: THE CARDS: each row of YtdhadannleldiaaDoorRows.lean that lists a variable, with what it lists TIED to the program's text (the seventh form; the later family's looks); each row that meets fmt, with fmt's text TOLD by the authors' own Lean function (tested against real Go, not proved from fmt's source: count such statements apart). THE CARD IS WHAT COUNTS. Prove the row's statement (the work); the ties are given (YtdhadannleldiaaDoorTie.lean); close each card by the builder's one call (the guide's Derived/Test/ToyasCard.lean, 'card_holds'). Laid BY PROGRAM, IN A SANDBOX (cutbox-door.mjs). By AI agents, Wed Nov 11 2026. No macro, syntax, notation, axiom, sorry.
-/
import Derived.Test.YtdhadannleldiaaDoorRows
import GoSem.ClaimSeven
namespace Go.Proofs.YtdhadannleldiaaDoor
namespace Rows

/-- THE TIED CARD OF 'ganseylaw11.TapesAppend'. -/
def tapesAppendCard : Claim7 := { stood := { row := tapesAppendRow, standIns := [], harness := (true, "b8797da3a3ff1a24a6a69bbb2529b4c2bb96f728858e077143e83d764cde59be"), looks := false }, kinds := [], alts := [], laidByText := true, laidKinds := [.widerDeep], laidTests := true, laidLooks := .later }
def TapesAppendCardSaid : Prop := Claim7.holds Tryd.pinned (.plain (OpenSpec.ofChange tapesAppendSpec)) tapesAppendCard

/-- THE SECOND FORM's CARD OF 'ganseylaw11.TapesAppend'. -/
def tapesAppendUptoCard : Claim7 := { stood := { row := tapesAppendUptoRow, standIns := [], harness := (true, "b8797da3a3ff1a24a6a69bbb2529b4c2bb96f728858e077143e83d764cde59be"), looks := false }, kinds := [], alts := [], laidByText := true, laidKinds := [.widerDeep], laidTests := true, laidLooks := .later }
def TapesAppendUptoCardSaid : Prop := Claim7.holds Tryd.pinned (.plain (OpenSpec.upto tapesAppendSpec)) tapesAppendUptoCard
end Rows
end Go.Proofs.YtdhadannleldiaaDoor
