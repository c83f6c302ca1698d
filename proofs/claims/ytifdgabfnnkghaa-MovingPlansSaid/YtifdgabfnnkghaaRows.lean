/-
  No cell of these rows narrows 'for every input' (looked for: loops, veiled, ifaces, maps, wideKeys, modest, calm, conditions, laid).
  DERIVED. THE GIVEN ROWS OF THIS SEAT. 5 by the template 'for every input the law returns true; each argument reads behind the call as it read before'; 0 by the template 'total and deterministic' (their statements: YtifdgabfnnkghaaTotals.lean).
  GIVEN WITH THE SEED: the statements are not yours to turn. If you find one false, say at which input.
  Laid BY PROGRAM, IN A SANDBOX (cutbox-rows.mjs): the forced cells as the released guide's own fill.sh prints them over the translation e1c252e71512c1ee… (all of the seat's roots in one cut). By AI agents, Wed Nov 11 2026. No macro, syntax, notation, axiom, sorry.
-/
import Derived.Test.YtifdgabfnnkghaaChecked
import GoSem.Claim
import GoSem.ClaimJoined
import GoSem.ClaimMapViews
import Derived.JoinedTies
import Derived.KernelRfl
namespace Go.Proofs.Ytifdgabfnnkghaa
/- THE CELL 'sum', in the pinned program and in every row, IS THE sha256 OF THE DUMP (.gsa) THAT YtifdgabfnnkghaaProg.lean LOADS. Nothing in Lean hashes anything: it is a label: what it is worth is what the hold of that sum in a sandbox is worth. -/
noncomputable def Try.pinned : Pinned := { name := "ytifdgabfnnkghaa", sum := "e1c252e71512c1eebe7d3c67eec7112454da0b4fb571652b5a836dd81576a10e", checked := Try.checked }
namespace Rows
def none {H : Type} : Left H := { results := [], args := [] }

/-- 'polderlaw24.MovingChecks': WHATEVER THE INPUT: true; the input reads as it did. -/
def movingChecksSpec : ChangeSpec := { name := "movingChecks", fn := fun _ => fun
  | [d1, d2, d3] => { results := [.lit (.bool true)], args := [d1, d2, d3] }
  | _ => none }
def movingChecksRow : OpenClaim := { program := "ytifdgabfnnkghaa", sum := "e1c252e71512c1eebe7d3c67eec7112454da0b4fb571652b5a836dd81576a10e", func := "polder/polderlaw24.MovingChecks", spec := "movingChecks", unfollowed := true, recurses := true, apart := false }
def MovingChecksSaid : Prop := movingChecksRow.holds Try.pinned (OpenSpec.ofChange movingChecksSpec)

/-- ITS FALSE NEIGHBOUR: 'it returns false'. Refute it at one input. -/
def movingChecksWrong : ChangeSpec := { name := "movingChecks", fn := fun _ => fun
  | [d1, d2, d3] => { results := [.lit (.bool false)], args := [d1, d2, d3] }
  | _ => none }
def MovingChecksWrongFalsely : Prop := movingChecksRow.holds Try.pinned (OpenSpec.ofChange movingChecksWrong)

/-- 'polderlaw24.MovingPlans': WHATEVER THE INPUT: true; the input reads as it did. -/
def movingPlansSpec : ChangeSpec := { name := "movingPlans", fn := fun _ => fun
  | [d1, d2, d3] => { results := [.lit (.bool true)], args := [d1, d2, d3] }
  | _ => none }
def movingPlansRow : OpenClaim := { program := "ytifdgabfnnkghaa", sum := "e1c252e71512c1eebe7d3c67eec7112454da0b4fb571652b5a836dd81576a10e", func := "polder/polderlaw24.MovingPlans", spec := "movingPlans", unfollowed := true, recurses := true, apart := false }
def MovingPlansSaid : Prop := movingPlansRow.holds Try.pinned (OpenSpec.ofChange movingPlansSpec)

/-- ITS FALSE NEIGHBOUR: 'it returns false'. Refute it at one input. -/
def movingPlansWrong : ChangeSpec := { name := "movingPlans", fn := fun _ => fun
  | [d1, d2, d3] => { results := [.lit (.bool false)], args := [d1, d2, d3] }
  | _ => none }
def MovingPlansWrongFalsely : Prop := movingPlansRow.holds Try.pinned (OpenSpec.ofChange movingPlansWrong)

/-- 'polderlaw24.MovingMakes': WHATEVER THE INPUT: true; the input reads as it did. -/
def movingMakesSpec : ChangeSpec := { name := "movingMakes", fn := fun _ => fun
  | [d1, d2, d3] => { results := [.lit (.bool true)], args := [d1, d2, d3] }
  | _ => none }
def movingMakesRow : OpenClaim := { program := "ytifdgabfnnkghaa", sum := "e1c252e71512c1eebe7d3c67eec7112454da0b4fb571652b5a836dd81576a10e", func := "polder/polderlaw24.MovingMakes", spec := "movingMakes", unfollowed := true, recurses := true, apart := false }
def MovingMakesSaid : Prop := movingMakesRow.holds Try.pinned (OpenSpec.ofChange movingMakesSpec)

/-- ITS FALSE NEIGHBOUR: 'it returns false'. Refute it at one input. -/
def movingMakesWrong : ChangeSpec := { name := "movingMakes", fn := fun _ => fun
  | [d1, d2, d3] => { results := [.lit (.bool false)], args := [d1, d2, d3] }
  | _ => none }
def MovingMakesWrongFalsely : Prop := movingMakesRow.holds Try.pinned (OpenSpec.ofChange movingMakesWrong)

/-- 'polderlaw24.MovingFewest': WHATEVER THE INPUT: true; the input reads as it did. -/
def movingFewestSpec : ChangeSpec := { name := "movingFewest", fn := fun _ => fun
  | [d1, d2, d3] => { results := [.lit (.bool true)], args := [d1, d2, d3] }
  | _ => none }
def movingFewestRow : OpenClaim := { program := "ytifdgabfnnkghaa", sum := "e1c252e71512c1eebe7d3c67eec7112454da0b4fb571652b5a836dd81576a10e", func := "polder/polderlaw24.MovingFewest", spec := "movingFewest", unfollowed := true, recurses := true, apart := false }
def MovingFewestSaid : Prop := movingFewestRow.holds Try.pinned (OpenSpec.ofChange movingFewestSpec)

/-- ITS FALSE NEIGHBOUR: 'it returns false'. Refute it at one input. -/
def movingFewestWrong : ChangeSpec := { name := "movingFewest", fn := fun _ => fun
  | [d1, d2, d3] => { results := [.lit (.bool false)], args := [d1, d2, d3] }
  | _ => none }
def MovingFewestWrongFalsely : Prop := movingFewestRow.holds Try.pinned (OpenSpec.ofChange movingFewestWrong)

/-- 'polderlaw24.MovingLower': WHATEVER THE INPUT: true; the input reads as it did. -/
def movingLowerSpec : ChangeSpec := { name := "movingLower", fn := fun _ => fun
  | [d1, d2] => { results := [.lit (.bool true)], args := [d1, d2] }
  | _ => none }
def movingLowerRow : OpenClaim := { program := "ytifdgabfnnkghaa", sum := "e1c252e71512c1eebe7d3c67eec7112454da0b4fb571652b5a836dd81576a10e", func := "polder/polderlaw24.MovingLower", spec := "movingLower", unfollowed := true, recurses := true, apart := false }
def MovingLowerSaid : Prop := movingLowerRow.holds Try.pinned (OpenSpec.ofChange movingLowerSpec)

/-- ITS FALSE NEIGHBOUR: 'it returns false'. Refute it at one input. -/
def movingLowerWrong : ChangeSpec := { name := "movingLower", fn := fun _ => fun
  | [d1, d2] => { results := [.lit (.bool false)], args := [d1, d2] }
  | _ => none }
def MovingLowerWrongFalsely : Prop := movingLowerRow.holds Try.pinned (OpenSpec.ofChange movingLowerWrong)

/- THE SECOND FORM. 'bulk': how many values and letters a reading holds, each counted each time it is reached (what is shared counts as often as it is met; a slice's spare places count too). A statement '..UptoSaid' is the law's where the arguments, and the package variables that the reading takes, are together of bulk at most 1048576: NARROWER than '..Said'. Prove '..Said' where nothing that the law and all that it calls make is longer than what came in: it says more and counts as full. Else prove '..UptoSaid'. A law counts once. -/
mutual
def uptoBulk {H : Type} : DataW H → Nat
  | .lit (.string bytes) => bytes.length + 1
  | .lit _ => 1
  | .nil => 1
  | .ptr d => uptoBulk d + 1
  | .slice elems spare => uptoBulkAll elems + uptoBulkAll spare + 1
  | .agg parts => uptoBulkAll parts + 1
  | .iface _ d => uptoBulk d + 1
  | .map entries => uptoBulkEntries entries + 1
  | .held _ => 1
def uptoBulkAll {H : Type} : List (DataW H) → Nat
  | [] => 0
  | d :: r => uptoBulk d + uptoBulkAll r
def uptoBulkEntries {H : Type} : List (Lit × DataW H) → Nat
  | [] => 0
  | x :: r => uptoBulkEntry x + uptoBulkEntries r
def uptoBulkEntry {H : Type} : Lit × DataW H → Nat
  | (.string bytes, d) => bytes.length + uptoBulk d + 1
  | (_, d) => uptoBulk d + 1
 end
def uptoSmall : (H : Type) → List (DataW H) → Bool := fun _ ds => decide (uptoBulkAll ds ≤ 1048576)
def OpenSpec.upto (s : _root_.Go.ChangeSpec) : _root_.Go.OpenSpec := { _root_.Go.OpenSpec.ofChange s with cond := some uptoSmall }

/-- 'polderlaw24.MovingChecks', WHERE WHAT IT READS IS OF BULK AT MOST 1048576: true; the input reads as it did. -/
def movingChecksUptoRow : OpenClaim := { program := "ytifdgabfnnkghaa", sum := "e1c252e71512c1eebe7d3c67eec7112454da0b4fb571652b5a836dd81576a10e", func := "polder/polderlaw24.MovingChecks", spec := "movingChecks", unfollowed := true, recurses := true, apart := false, narrowed := true }
def MovingChecksUptoSaid : Prop := movingChecksUptoRow.holds Try.pinned (OpenSpec.upto movingChecksSpec)

/-- 'polderlaw24.MovingPlans', WHERE WHAT IT READS IS OF BULK AT MOST 1048576: true; the input reads as it did. -/
def movingPlansUptoRow : OpenClaim := { program := "ytifdgabfnnkghaa", sum := "e1c252e71512c1eebe7d3c67eec7112454da0b4fb571652b5a836dd81576a10e", func := "polder/polderlaw24.MovingPlans", spec := "movingPlans", unfollowed := true, recurses := true, apart := false, narrowed := true }
def MovingPlansUptoSaid : Prop := movingPlansUptoRow.holds Try.pinned (OpenSpec.upto movingPlansSpec)

/-- 'polderlaw24.MovingMakes', WHERE WHAT IT READS IS OF BULK AT MOST 1048576: true; the input reads as it did. -/
def movingMakesUptoRow : OpenClaim := { program := "ytifdgabfnnkghaa", sum := "e1c252e71512c1eebe7d3c67eec7112454da0b4fb571652b5a836dd81576a10e", func := "polder/polderlaw24.MovingMakes", spec := "movingMakes", unfollowed := true, recurses := true, apart := false, narrowed := true }
def MovingMakesUptoSaid : Prop := movingMakesUptoRow.holds Try.pinned (OpenSpec.upto movingMakesSpec)

/-- 'polderlaw24.MovingFewest', WHERE WHAT IT READS IS OF BULK AT MOST 1048576: true; the input reads as it did. -/
def movingFewestUptoRow : OpenClaim := { program := "ytifdgabfnnkghaa", sum := "e1c252e71512c1eebe7d3c67eec7112454da0b4fb571652b5a836dd81576a10e", func := "polder/polderlaw24.MovingFewest", spec := "movingFewest", unfollowed := true, recurses := true, apart := false, narrowed := true }
def MovingFewestUptoSaid : Prop := movingFewestUptoRow.holds Try.pinned (OpenSpec.upto movingFewestSpec)

/-- 'polderlaw24.MovingLower', WHERE WHAT IT READS IS OF BULK AT MOST 1048576: true; the input reads as it did. -/
def movingLowerUptoRow : OpenClaim := { program := "ytifdgabfnnkghaa", sum := "e1c252e71512c1eebe7d3c67eec7112454da0b4fb571652b5a836dd81576a10e", func := "polder/polderlaw24.MovingLower", spec := "movingLower", unfollowed := true, recurses := true, apart := false, narrowed := true }
def MovingLowerUptoSaid : Prop := movingLowerUptoRow.holds Try.pinned (OpenSpec.upto movingLowerSpec)

end Rows
end Go.Proofs.Ytifdgabfnnkghaa
