/-
  NARROWER THAN 'FOR EVERY INPUT', by the rows' own cells (each row's printed sentence says how): ClassesKnown: laid · ClassesMerges: laid.
  DERIVED. THE GIVEN ROWS OF THIS SEAT. 2 by the template 'for every input the law returns true; each argument reads behind the call as it read before'; 0 by the template 'total and deterministic' (their statements: YtiohcegkkpeodaaDoorTotals.lean).
  GIVEN WITH THE SEED: the statements are not yours to turn. If you find one false, say at which input.
  Laid BY PROGRAM, IN A SANDBOX (cutbox-rows.mjs): the forced cells as the released guide's own fill.sh prints them over the translation f6ba855141492c8b… (all of the seat's roots in one cut). By AI agents, Wed Nov 11 2026. No macro, syntax, notation, axiom, sorry.
-/
import Derived.Test.YtiohcegkkpeodaaDoorChecked
import GoSem.Claim
import GoSem.ClaimJoined
import GoSem.ClaimMapViews
import Derived.JoinedTies
import Derived.KernelRfl
namespace Go.Proofs.YtiohcegkkpeodaaDoor
/- THE CELL 'sum', in the pinned program and in every row, IS THE sha256 OF THE DUMP (.gsa) THAT YtiohcegkkpeodaaDoorProg.lean LOADS. Nothing in Lean hashes anything: it is a label: what it is worth is what the hold of that sum in a sandbox is worth. -/
noncomputable def Tryd.pinned : Pinned := { name := "ytiohcegkkpeodaadoor", sum := "f6ba855141492c8baf3f0bdda28a91c75636626a8808458e665a67670d2b2e09", checked := Tryd.checked }
namespace Rows
def none {H : Type} : Left H := { results := [], args := [] }

/- WHAT THE LISTED PACKAGE-LEVEL VARIABLES READ AS WHEN THE CALL BEGINS. Each datum BY PROGRAM (the guide's laid-datum.mjs) off the statement by which the dump's own 'gosem.cut.vars' lays the variable. In a bare row this is a premise. The card (YtiohcegkkpeodaaDoorCards.lean) ties it to the program's text. -/
def laid_polder_classes_none {H : Type} : DataW H := .agg [.lit (.int .i64 (-1)), .lit (.int .i64 (-1))]

/-- 'polderlaw18.ClassesKnown': WHATEVER THE INPUT: true; the input reads as it did. -/
def classesKnownSpec : ChangeSpec := { name := "classesKnown", fn := fun _ => fun
  | [] => { results := [.lit (.bool true)], args := [] }
  | _ => none }
def classesKnownRow : OpenClaim := { program := "ytiohcegkkpeodaadoor", sum := "f6ba855141492c8baf3f0bdda28a91c75636626a8808458e665a67670d2b2e09", func := "polder/polderlaw18.ClassesKnown", spec := "classesKnown", unfollowed := true, recurses := true, named := ["polder/classes.none"], apart := false, laid := [("polder/classes.none", laid_polder_classes_none)] }
def ClassesKnownSaid : Prop := classesKnownRow.holds Tryd.pinned (OpenSpec.ofChange classesKnownSpec)

/-- ITS FALSE NEIGHBOUR: 'it returns false'. Refute it at one input. -/
def classesKnownWrong : ChangeSpec := { name := "classesKnown", fn := fun _ => fun
  | [] => { results := [.lit (.bool false)], args := [] }
  | _ => none }
def ClassesKnownWrongFalsely : Prop := classesKnownRow.holds Tryd.pinned (OpenSpec.ofChange classesKnownWrong)

/-- 'polderlaw18.ClassesMerges': WHATEVER THE INPUT: true; the input reads as it did. -/
def classesMergesSpec : ChangeSpec := { name := "classesMerges", fn := fun _ => fun
  | [d1, d2, d3] => { results := [.lit (.bool true)], args := [d1, d2, d3] }
  | _ => none }
def classesMergesRow : OpenClaim := { program := "ytiohcegkkpeodaadoor", sum := "f6ba855141492c8baf3f0bdda28a91c75636626a8808458e665a67670d2b2e09", func := "polder/polderlaw18.ClassesMerges", spec := "classesMerges", unfollowed := true, recurses := true, named := ["polder/classes.none"], apart := false, laid := [("polder/classes.none", laid_polder_classes_none)] }
def ClassesMergesSaid : Prop := classesMergesRow.holds Tryd.pinned (OpenSpec.ofChange classesMergesSpec)

/-- ITS FALSE NEIGHBOUR: 'it returns false'. Refute it at one input. -/
def classesMergesWrong : ChangeSpec := { name := "classesMerges", fn := fun _ => fun
  | [d1, d2, d3] => { results := [.lit (.bool false)], args := [d1, d2, d3] }
  | _ => none }
def ClassesMergesWrongFalsely : Prop := classesMergesRow.holds Tryd.pinned (OpenSpec.ofChange classesMergesWrong)

/- THE SECOND FORM. 'bulk': how many values and letters a reading holds, each counted each time it is reached (what is shared counts as often as it is met; a slice's spare places count too). A statement '..UptoSaid' is the law's where the arguments, and the package variables that the reading takes, are together of bulk at most 1048576: NARROWER than '..Said'. Prove '..Said' where nothing that the law and all that it calls make is longer than what came in: it says more and counts as full. Else prove '..UptoSaid'. A law counts once. -/
mutual
def uptoBulk {H : Type} : DataW H → Nat
  | .lit (.string bytes) => bytes.length + 1
  | .lit _ => 1
  | .nil => 1
  | .ptr d => uptoBulk d + 1
  | .slice elems spare => uptoBulkAll elems + uptoBulkAll spare + 1
  | .agg parts => uptoBulkAll parts + 1
  | .iface _ d => uptoBulk d + 1
  | .map entries => uptoBulkEntries entries + 1
  | .held _ => 1
def uptoBulkAll {H : Type} : List (DataW H) → Nat
  | [] => 0
  | d :: r => uptoBulk d + uptoBulkAll r
def uptoBulkEntries {H : Type} : List (Lit × DataW H) → Nat
  | [] => 0
  | x :: r => uptoBulkEntry x + uptoBulkEntries r
def uptoBulkEntry {H : Type} : Lit × DataW H → Nat
  | (.string bytes, d) => bytes.length + uptoBulk d + 1
  | (_, d) => uptoBulk d + 1
 end
def uptoSmall : (H : Type) → List (DataW H) → Bool := fun _ ds => decide (uptoBulkAll ds ≤ 1048576)
def OpenSpec.upto (s : _root_.Go.ChangeSpec) : _root_.Go.OpenSpec := { _root_.Go.OpenSpec.ofChange s with cond := some uptoSmall }

/-- 'polderlaw18.ClassesKnown', WHERE WHAT IT READS IS OF BULK AT MOST 1048576: true; the input reads as it did. -/
def classesKnownUptoRow : OpenClaim := { program := "ytiohcegkkpeodaadoor", sum := "f6ba855141492c8baf3f0bdda28a91c75636626a8808458e665a67670d2b2e09", func := "polder/polderlaw18.ClassesKnown", spec := "classesKnown", unfollowed := true, recurses := true, named := ["polder/classes.none"], apart := false, laid := [("polder/classes.none", laid_polder_classes_none)], narrowed := true }
def ClassesKnownUptoSaid : Prop := classesKnownUptoRow.holds Tryd.pinned (OpenSpec.upto classesKnownSpec)

/-- 'polderlaw18.ClassesMerges', WHERE WHAT IT READS IS OF BULK AT MOST 1048576: true; the input reads as it did. -/
def classesMergesUptoRow : OpenClaim := { program := "ytiohcegkkpeodaadoor", sum := "f6ba855141492c8baf3f0bdda28a91c75636626a8808458e665a67670d2b2e09", func := "polder/polderlaw18.ClassesMerges", spec := "classesMerges", unfollowed := true, recurses := true, named := ["polder/classes.none"], apart := false, laid := [("polder/classes.none", laid_polder_classes_none)], narrowed := true }
def ClassesMergesUptoSaid : Prop := classesMergesUptoRow.holds Tryd.pinned (OpenSpec.upto classesMergesSpec)

end Rows
end Go.Proofs.YtiohcegkkpeodaaDoor
