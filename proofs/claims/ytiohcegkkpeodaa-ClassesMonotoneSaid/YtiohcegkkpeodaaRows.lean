/-
  No cell of these rows narrows 'for every input' (looked for: loops, veiled, ifaces, maps, wideKeys, modest, calm, conditions, laid).
  DERIVED. THE GIVEN ROWS OF THIS SEAT. 7 by the template 'for every input the law returns true; each argument reads behind the call as it read before'; 0 by the template 'total and deterministic' (their statements: YtiohcegkkpeodaaTotals.lean).
  GIVEN WITH THE SEED: the statements are not yours to turn. If you find one false, say at which input.
  Laid BY PROGRAM, IN A SANDBOX (cutbox-rows.mjs): the forced cells as the released guide's own fill.sh prints them over the translation e97a8617092f78bb… (all of the seat's roots in one cut). By AI agents, Wed Nov 11 2026. No macro, syntax, notation, axiom, sorry.
-/
import Derived.Test.YtiohcegkkpeodaaChecked
import GoSem.Claim
import GoSem.ClaimJoined
import GoSem.ClaimMapViews
import Derived.JoinedTies
import Derived.KernelRfl
namespace Go.Proofs.Ytiohcegkkpeodaa
/- THE CELL 'sum', in the pinned program and in every row, IS THE sha256 OF THE DUMP (.gsa) THAT YtiohcegkkpeodaaProg.lean LOADS. Nothing in Lean hashes anything: it is a label: what it is worth is what the hold of that sum in a sandbox is worth. -/
noncomputable def Try.pinned : Pinned := { name := "ytiohcegkkpeodaa", sum := "e97a8617092f78bb602536a5cb0573e78b5dd26938ea929aaece97671391de62", checked := Try.checked }
namespace Rows
def none {H : Type} : Left H := { results := [], args := [] }

/-- 'polderlaw18.ClassesWorst': WHATEVER THE INPUT: true; the input reads as it did. -/
def classesWorstSpec : ChangeSpec := { name := "classesWorst", fn := fun _ => fun
  | [d] => { results := [.lit (.bool true)], args := [d] }
  | _ => none }
def classesWorstRow : OpenClaim := { program := "ytiohcegkkpeodaa", sum := "e97a8617092f78bb602536a5cb0573e78b5dd26938ea929aaece97671391de62", func := "polder/polderlaw18.ClassesWorst", spec := "classesWorst", unfollowed := true, recurses := true, apart := false }
def ClassesWorstSaid : Prop := classesWorstRow.holds Try.pinned (OpenSpec.ofChange classesWorstSpec)

/-- ITS FALSE NEIGHBOUR: 'it returns false'. Refute it at one input. -/
def classesWorstWrong : ChangeSpec := { name := "classesWorst", fn := fun _ => fun
  | [d] => { results := [.lit (.bool false)], args := [d] }
  | _ => none }
def ClassesWorstWrongFalsely : Prop := classesWorstRow.holds Try.pinned (OpenSpec.ofChange classesWorstWrong)

/-- 'polderlaw18.ClassesSteps': WHATEVER THE INPUT: true; the input reads as it did. -/
def classesStepsSpec : ChangeSpec := { name := "classesSteps", fn := fun _ => fun
  | [d1, d2, d3] => { results := [.lit (.bool true)], args := [d1, d2, d3] }
  | _ => none }
def classesStepsRow : OpenClaim := { program := "ytiohcegkkpeodaa", sum := "e97a8617092f78bb602536a5cb0573e78b5dd26938ea929aaece97671391de62", func := "polder/polderlaw18.ClassesSteps", spec := "classesSteps", unfollowed := true, recurses := true, apart := false }
def ClassesStepsSaid : Prop := classesStepsRow.holds Try.pinned (OpenSpec.ofChange classesStepsSpec)

/-- ITS FALSE NEIGHBOUR: 'it returns false'. Refute it at one input. -/
def classesStepsWrong : ChangeSpec := { name := "classesSteps", fn := fun _ => fun
  | [d1, d2, d3] => { results := [.lit (.bool false)], args := [d1, d2, d3] }
  | _ => none }
def ClassesStepsWrongFalsely : Prop := classesStepsRow.holds Try.pinned (OpenSpec.ofChange classesStepsWrong)

/-- 'polderlaw18.ClassesBest': WHATEVER THE INPUT: true; the input reads as it did. -/
def classesBestSpec : ChangeSpec := { name := "classesBest", fn := fun _ => fun
  | [d1, d2] => { results := [.lit (.bool true)], args := [d1, d2] }
  | _ => none }
def classesBestRow : OpenClaim := { program := "ytiohcegkkpeodaa", sum := "e97a8617092f78bb602536a5cb0573e78b5dd26938ea929aaece97671391de62", func := "polder/polderlaw18.ClassesBest", spec := "classesBest", unfollowed := true, recurses := true, apart := false }
def ClassesBestSaid : Prop := classesBestRow.holds Try.pinned (OpenSpec.ofChange classesBestSpec)

/-- ITS FALSE NEIGHBOUR: 'it returns false'. Refute it at one input. -/
def classesBestWrong : ChangeSpec := { name := "classesBest", fn := fun _ => fun
  | [d1, d2] => { results := [.lit (.bool false)], args := [d1, d2] }
  | _ => none }
def ClassesBestWrongFalsely : Prop := classesBestRow.holds Try.pinned (OpenSpec.ofChange classesBestWrong)

/-- 'polderlaw18.ClassesLeast': WHATEVER THE INPUT: true; the input reads as it did. -/
def classesLeastSpec : ChangeSpec := { name := "classesLeast", fn := fun _ => fun
  | [d1, d2, d3] => { results := [.lit (.bool true)], args := [d1, d2, d3] }
  | _ => none }
def classesLeastRow : OpenClaim := { program := "ytiohcegkkpeodaa", sum := "e97a8617092f78bb602536a5cb0573e78b5dd26938ea929aaece97671391de62", func := "polder/polderlaw18.ClassesLeast", spec := "classesLeast", unfollowed := true, recurses := true, apart := false }
def ClassesLeastSaid : Prop := classesLeastRow.holds Try.pinned (OpenSpec.ofChange classesLeastSpec)

/-- ITS FALSE NEIGHBOUR: 'it returns false'. Refute it at one input. -/
def classesLeastWrong : ChangeSpec := { name := "classesLeast", fn := fun _ => fun
  | [d1, d2, d3] => { results := [.lit (.bool false)], args := [d1, d2, d3] }
  | _ => none }
def ClassesLeastWrongFalsely : Prop := classesLeastRow.holds Try.pinned (OpenSpec.ofChange classesLeastWrong)

/-- 'polderlaw18.ClassesTables': WHATEVER THE INPUT: true; the input reads as it did. -/
def classesTablesSpec : ChangeSpec := { name := "classesTables", fn := fun _ => fun
  | [d1, d2, d3] => { results := [.lit (.bool true)], args := [d1, d2, d3] }
  | _ => none }
def classesTablesRow : OpenClaim := { program := "ytiohcegkkpeodaa", sum := "e97a8617092f78bb602536a5cb0573e78b5dd26938ea929aaece97671391de62", func := "polder/polderlaw18.ClassesTables", spec := "classesTables", unfollowed := true, recurses := true, apart := false }
def ClassesTablesSaid : Prop := classesTablesRow.holds Try.pinned (OpenSpec.ofChange classesTablesSpec)

/-- ITS FALSE NEIGHBOUR: 'it returns false'. Refute it at one input. -/
def classesTablesWrong : ChangeSpec := { name := "classesTables", fn := fun _ => fun
  | [d1, d2, d3] => { results := [.lit (.bool false)], args := [d1, d2, d3] }
  | _ => none }
def ClassesTablesWrongFalsely : Prop := classesTablesRow.holds Try.pinned (OpenSpec.ofChange classesTablesWrong)

/-- 'polderlaw18.ClassesShares': WHATEVER THE INPUT: true; the input reads as it did. -/
def classesSharesSpec : ChangeSpec := { name := "classesShares", fn := fun _ => fun
  | [d1, d2] => { results := [.lit (.bool true)], args := [d1, d2] }
  | _ => none }
def classesSharesRow : OpenClaim := { program := "ytiohcegkkpeodaa", sum := "e97a8617092f78bb602536a5cb0573e78b5dd26938ea929aaece97671391de62", func := "polder/polderlaw18.ClassesShares", spec := "classesShares", unfollowed := true, recurses := true, apart := false }
def ClassesSharesSaid : Prop := classesSharesRow.holds Try.pinned (OpenSpec.ofChange classesSharesSpec)

/-- ITS FALSE NEIGHBOUR: 'it returns false'. Refute it at one input. -/
def classesSharesWrong : ChangeSpec := { name := "classesShares", fn := fun _ => fun
  | [d1, d2] => { results := [.lit (.bool false)], args := [d1, d2] }
  | _ => none }
def ClassesSharesWrongFalsely : Prop := classesSharesRow.holds Try.pinned (OpenSpec.ofChange classesSharesWrong)

/-- 'polderlaw18.ClassesMonotone': WHATEVER THE INPUT: true; the input reads as it did. -/
def classesMonotoneSpec : ChangeSpec := { name := "classesMonotone", fn := fun _ => fun
  | [d1, d2, d3] => { results := [.lit (.bool true)], args := [d1, d2, d3] }
  | _ => none }
def classesMonotoneRow : OpenClaim := { program := "ytiohcegkkpeodaa", sum := "e97a8617092f78bb602536a5cb0573e78b5dd26938ea929aaece97671391de62", func := "polder/polderlaw18.ClassesMonotone", spec := "classesMonotone", unfollowed := true, recurses := true, apart := false }
def ClassesMonotoneSaid : Prop := classesMonotoneRow.holds Try.pinned (OpenSpec.ofChange classesMonotoneSpec)

/-- ITS FALSE NEIGHBOUR: 'it returns false'. Refute it at one input. -/
def classesMonotoneWrong : ChangeSpec := { name := "classesMonotone", fn := fun _ => fun
  | [d1, d2, d3] => { results := [.lit (.bool false)], args := [d1, d2, d3] }
  | _ => none }
def ClassesMonotoneWrongFalsely : Prop := classesMonotoneRow.holds Try.pinned (OpenSpec.ofChange classesMonotoneWrong)

/- THE SECOND FORM. 'bulk': how many values and letters a reading holds, each counted each time it is reached (what is shared counts as often as it is met; a slice's spare places count too). A statement '..UptoSaid' is the law's where the arguments, and the package variables that the reading takes, are together of bulk at most 1048576: NARROWER than '..Said'. Prove '..Said' where nothing that the law and all that it calls make is longer than what came in: it says more and counts as full. Else prove '..UptoSaid'. A law counts once. -/
mutual
def uptoBulk {H : Type} : DataW H → Nat
  | .lit (.string bytes) => bytes.length + 1
  | .lit _ => 1
  | .nil => 1
  | .ptr d => uptoBulk d + 1
  | .slice elems spare => uptoBulkAll elems + uptoBulkAll spare + 1
  | .agg parts => uptoBulkAll parts + 1
  | .iface _ d => uptoBulk d + 1
  | .map entries => uptoBulkEntries entries + 1
  | .held _ => 1
def uptoBulkAll {H : Type} : List (DataW H) → Nat
  | [] => 0
  | d :: r => uptoBulk d + uptoBulkAll r
def uptoBulkEntries {H : Type} : List (Lit × DataW H) → Nat
  | [] => 0
  | x :: r => uptoBulkEntry x + uptoBulkEntries r
def uptoBulkEntry {H : Type} : Lit × DataW H → Nat
  | (.string bytes, d) => bytes.length + uptoBulk d + 1
  | (_, d) => uptoBulk d + 1
 end
def uptoSmall : (H : Type) → List (DataW H) → Bool := fun _ ds => decide (uptoBulkAll ds ≤ 1048576)
def OpenSpec.upto (s : _root_.Go.ChangeSpec) : _root_.Go.OpenSpec := { _root_.Go.OpenSpec.ofChange s with cond := some uptoSmall }

/-- 'polderlaw18.ClassesWorst', WHERE WHAT IT READS IS OF BULK AT MOST 1048576: true; the input reads as it did. -/
def classesWorstUptoRow : OpenClaim := { program := "ytiohcegkkpeodaa", sum := "e97a8617092f78bb602536a5cb0573e78b5dd26938ea929aaece97671391de62", func := "polder/polderlaw18.ClassesWorst", spec := "classesWorst", unfollowed := true, recurses := true, apart := false, narrowed := true }
def ClassesWorstUptoSaid : Prop := classesWorstUptoRow.holds Try.pinned (OpenSpec.upto classesWorstSpec)

/-- 'polderlaw18.ClassesSteps', WHERE WHAT IT READS IS OF BULK AT MOST 1048576: true; the input reads as it did. -/
def classesStepsUptoRow : OpenClaim := { program := "ytiohcegkkpeodaa", sum := "e97a8617092f78bb602536a5cb0573e78b5dd26938ea929aaece97671391de62", func := "polder/polderlaw18.ClassesSteps", spec := "classesSteps", unfollowed := true, recurses := true, apart := false, narrowed := true }
def ClassesStepsUptoSaid : Prop := classesStepsUptoRow.holds Try.pinned (OpenSpec.upto classesStepsSpec)

/-- 'polderlaw18.ClassesBest', WHERE WHAT IT READS IS OF BULK AT MOST 1048576: true; the input reads as it did. -/
def classesBestUptoRow : OpenClaim := { program := "ytiohcegkkpeodaa", sum := "e97a8617092f78bb602536a5cb0573e78b5dd26938ea929aaece97671391de62", func := "polder/polderlaw18.ClassesBest", spec := "classesBest", unfollowed := true, recurses := true, apart := false, narrowed := true }
def ClassesBestUptoSaid : Prop := classesBestUptoRow.holds Try.pinned (OpenSpec.upto classesBestSpec)

/-- 'polderlaw18.ClassesLeast', WHERE WHAT IT READS IS OF BULK AT MOST 1048576: true; the input reads as it did. -/
def classesLeastUptoRow : OpenClaim := { program := "ytiohcegkkpeodaa", sum := "e97a8617092f78bb602536a5cb0573e78b5dd26938ea929aaece97671391de62", func := "polder/polderlaw18.ClassesLeast", spec := "classesLeast", unfollowed := true, recurses := true, apart := false, narrowed := true }
def ClassesLeastUptoSaid : Prop := classesLeastUptoRow.holds Try.pinned (OpenSpec.upto classesLeastSpec)

/-- 'polderlaw18.ClassesTables', WHERE WHAT IT READS IS OF BULK AT MOST 1048576: true; the input reads as it did. -/
def classesTablesUptoRow : OpenClaim := { program := "ytiohcegkkpeodaa", sum := "e97a8617092f78bb602536a5cb0573e78b5dd26938ea929aaece97671391de62", func := "polder/polderlaw18.ClassesTables", spec := "classesTables", unfollowed := true, recurses := true, apart := false, narrowed := true }
def ClassesTablesUptoSaid : Prop := classesTablesUptoRow.holds Try.pinned (OpenSpec.upto classesTablesSpec)

/-- 'polderlaw18.ClassesShares', WHERE WHAT IT READS IS OF BULK AT MOST 1048576: true; the input reads as it did. -/
def classesSharesUptoRow : OpenClaim := { program := "ytiohcegkkpeodaa", sum := "e97a8617092f78bb602536a5cb0573e78b5dd26938ea929aaece97671391de62", func := "polder/polderlaw18.ClassesShares", spec := "classesShares", unfollowed := true, recurses := true, apart := false, narrowed := true }
def ClassesSharesUptoSaid : Prop := classesSharesUptoRow.holds Try.pinned (OpenSpec.upto classesSharesSpec)

/-- 'polderlaw18.ClassesMonotone', WHERE WHAT IT READS IS OF BULK AT MOST 1048576: true; the input reads as it did. -/
def classesMonotoneUptoRow : OpenClaim := { program := "ytiohcegkkpeodaa", sum := "e97a8617092f78bb602536a5cb0573e78b5dd26938ea929aaece97671391de62", func := "polder/polderlaw18.ClassesMonotone", spec := "classesMonotone", unfollowed := true, recurses := true, apart := false, narrowed := true }
def ClassesMonotoneUptoSaid : Prop := classesMonotoneUptoRow.holds Try.pinned (OpenSpec.upto classesMonotoneSpec)

end Rows
end Go.Proofs.Ytiohcegkkpeodaa
