/-
  DERIVED. GIVEN WITH THE SEED: THE CARDS: each row of YtiohcegkkpeodaaDoorRows.lean that lists a variable, with what it lists TIED to the program's text (the seventh form; the later family's looks); each row that meets fmt, with fmt's text TOLD by the authors' own Lean function (tested against real Go, not proved from fmt's source: count such statements apart). THE CARD IS WHAT COUNTS. Prove the row's statement (the work); the ties are given (YtiohcegkkpeodaaDoorTie.lean); close each card by the builder's one call (the guide's Derived/Test/ToyasCard.lean, 'card_holds'). Laid BY PROGRAM, IN A SANDBOX (cutbox-door.mjs). By AI agents, Wed Nov 11 2026. No macro, syntax, notation, axiom, sorry.
-/
import Derived.Test.YtiohcegkkpeodaaDoorRows
import GoSem.ClaimSeven
namespace Go.Proofs.YtiohcegkkpeodaaDoor
namespace Rows

/-- THE TIED CARD OF 'polderlaw18.ClassesKnown'. -/
def classesKnownCard : Claim7 := { stood := { row := classesKnownRow, standIns := [], harness := (true, "830f0ccded5f6187198ed2480c424fc44f3e0e6612872d2de3895b97e4b4ebe6"), looks := false }, kinds := [], alts := [], laidByText := true, laidKinds := [.data], laidTests := true, laidLooks := .later }
def ClassesKnownCardSaid : Prop := Claim7.holds Tryd.pinned (.plain (OpenSpec.ofChange classesKnownSpec)) classesKnownCard

/-- THE TIED CARD OF 'polderlaw18.ClassesMerges'. -/
def classesMergesCard : Claim7 := { stood := { row := classesMergesRow, standIns := [], harness := (true, "830f0ccded5f6187198ed2480c424fc44f3e0e6612872d2de3895b97e4b4ebe6"), looks := false }, kinds := [], alts := [], laidByText := true, laidKinds := [.data], laidTests := true, laidLooks := .later }
def ClassesMergesCardSaid : Prop := Claim7.holds Tryd.pinned (.plain (OpenSpec.ofChange classesMergesSpec)) classesMergesCard

/-- THE SECOND FORM's CARD OF 'polderlaw18.ClassesKnown'. -/
def classesKnownUptoCard : Claim7 := { stood := { row := classesKnownUptoRow, standIns := [], harness := (true, "830f0ccded5f6187198ed2480c424fc44f3e0e6612872d2de3895b97e4b4ebe6"), looks := false }, kinds := [], alts := [], laidByText := true, laidKinds := [.data], laidTests := true, laidLooks := .later }
def ClassesKnownUptoCardSaid : Prop := Claim7.holds Tryd.pinned (.plain (OpenSpec.upto classesKnownSpec)) classesKnownUptoCard

/-- THE SECOND FORM's CARD OF 'polderlaw18.ClassesMerges'. -/
def classesMergesUptoCard : Claim7 := { stood := { row := classesMergesUptoRow, standIns := [], harness := (true, "830f0ccded5f6187198ed2480c424fc44f3e0e6612872d2de3895b97e4b4ebe6"), looks := false }, kinds := [], alts := [], laidByText := true, laidKinds := [.data], laidTests := true, laidLooks := .later }
def ClassesMergesUptoCardSaid : Prop := Claim7.holds Tryd.pinned (.plain (OpenSpec.upto classesMergesSpec)) classesMergesUptoCard
end Rows
end Go.Proofs.YtiohcegkkpeodaaDoor
