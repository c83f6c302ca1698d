/-
  No cell of these rows narrows 'for every input' (looked for: loops, veiled, ifaces, maps, wideKeys, modest, calm, conditions, laid).
  DERIVED. THE GIVEN ROWS OF THIS SEAT. 5 by the template 'for every input the law returns true; each argument reads behind the call as it read before'; 0 by the template 'total and deterministic' (their statements: YtefnnfcfigcikaaGreatTotals.lean).
  GIVEN WITH THE SEED: the statements are not yours to turn. If you find one false, say at which input.
  Laid BY PROGRAM, IN A SANDBOX (cutbox-rows.mjs): the forced cells as the released guide's own fill.sh prints them over the translation d4f24abb5d761955… (all of the seat's roots in one cut). By AI agents, Wed Nov 11 2026. No macro, syntax, notation, axiom, sorry.
-/
import Derived.Test.YtefnnfcfigcikaaGreatChecked
import GoSem.Claim
import GoSem.ClaimJoined
import GoSem.ClaimMapViews
import Derived.JoinedTies
import Derived.KernelRfl
namespace Go.Proofs.YtefnnfcfigcikaaGreat
/- THE CELL 'sum', in the pinned program and in every row, IS THE sha256 OF THE DUMP (.gsa) THAT YtefnnfcfigcikaaGreatProg.lean LOADS. Nothing in Lean hashes anything: it is a label: what it is worth is what the hold of that sum in a sandbox is worth. -/
noncomputable def Tryz.pinned : Pinned := { name := "ytefnnfcfigcikaagreat", sum := "d4f24abb5d7619558ea50c366d45f32161fab6dde7ceeb0eee9ad235b23bad6f", checked := Tryz.checked }
namespace Rows
def none {H : Type} : Left H := { results := [], args := [] }

/-- 'polderlaw24.MovingWhole': WHATEVER THE INPUT: true; the input reads as it did. -/
def movingWholeSpec : ChangeSpec := { name := "movingWhole", fn := fun _ => fun
  | [d1, d2] => { results := [.lit (.bool true)], args := [d1, d2] }
  | _ => none }
def movingWholeRow : OpenClaim := { program := "ytefnnfcfigcikaagreat", sum := "d4f24abb5d7619558ea50c366d45f32161fab6dde7ceeb0eee9ad235b23bad6f", func := "polder/polderlaw24.MovingWhole", spec := "movingWhole", unfollowed := true, recurses := true, apart := false }
def MovingWholeSaid : Prop := movingWholeRow.holds Tryz.pinned (OpenSpec.ofChange movingWholeSpec)

/-- ITS FALSE NEIGHBOUR: 'it returns false'. Refute it at one input. -/
def movingWholeWrong : ChangeSpec := { name := "movingWhole", fn := fun _ => fun
  | [d1, d2] => { results := [.lit (.bool false)], args := [d1, d2] }
  | _ => none }
def MovingWholeWrongFalsely : Prop := movingWholeRow.holds Tryz.pinned (OpenSpec.ofChange movingWholeWrong)

/-- 'polderlaw13.HugeAdds': WHATEVER THE INPUT: true; the input reads as it did. -/
def hugeAddsSpec : ChangeSpec := { name := "hugeAdds", fn := fun _ => fun
  | [d] => { results := [.lit (.bool true)], args := [d] }
  | _ => none }
def hugeAddsRow : OpenClaim := { program := "ytefnnfcfigcikaagreat", sum := "d4f24abb5d7619558ea50c366d45f32161fab6dde7ceeb0eee9ad235b23bad6f", func := "polder/polderlaw13.HugeAdds", spec := "hugeAdds", unfollowed := true, recurses := true, apart := false }
def HugeAddsSaid : Prop := hugeAddsRow.holds Tryz.pinned (OpenSpec.ofChange hugeAddsSpec)

/-- ITS FALSE NEIGHBOUR: 'it returns false'. Refute it at one input. -/
def hugeAddsWrong : ChangeSpec := { name := "hugeAdds", fn := fun _ => fun
  | [d] => { results := [.lit (.bool false)], args := [d] }
  | _ => none }
def HugeAddsWrongFalsely : Prop := hugeAddsRow.holds Tryz.pinned (OpenSpec.ofChange hugeAddsWrong)

/-- 'polderlaw13.HugeJoins': WHATEVER THE INPUT: true; the input reads as it did. -/
def hugeJoinsSpec : ChangeSpec := { name := "hugeJoins", fn := fun _ => fun
  | [d1, d2, d3] => { results := [.lit (.bool true)], args := [d1, d2, d3] }
  | _ => none }
def hugeJoinsRow : OpenClaim := { program := "ytefnnfcfigcikaagreat", sum := "d4f24abb5d7619558ea50c366d45f32161fab6dde7ceeb0eee9ad235b23bad6f", func := "polder/polderlaw13.HugeJoins", spec := "hugeJoins", unfollowed := true, recurses := true, apart := false }
def HugeJoinsSaid : Prop := hugeJoinsRow.holds Tryz.pinned (OpenSpec.ofChange hugeJoinsSpec)

/-- ITS FALSE NEIGHBOUR: 'it returns false'. Refute it at one input. -/
def hugeJoinsWrong : ChangeSpec := { name := "hugeJoins", fn := fun _ => fun
  | [d1, d2, d3] => { results := [.lit (.bool false)], args := [d1, d2, d3] }
  | _ => none }
def HugeJoinsWrongFalsely : Prop := hugeJoinsRow.holds Tryz.pinned (OpenSpec.ofChange hugeJoinsWrong)

/-- 'polderlaw13.HugeBacks': WHATEVER THE INPUT: true; the input reads as it did. -/
def hugeBacksSpec : ChangeSpec := { name := "hugeBacks", fn := fun _ => fun
  | [d1, d2, d3] => { results := [.lit (.bool true)], args := [d1, d2, d3] }
  | _ => none }
def hugeBacksRow : OpenClaim := { program := "ytefnnfcfigcikaagreat", sum := "d4f24abb5d7619558ea50c366d45f32161fab6dde7ceeb0eee9ad235b23bad6f", func := "polder/polderlaw13.HugeBacks", spec := "hugeBacks", unfollowed := true, recurses := true, apart := false }
def HugeBacksSaid : Prop := hugeBacksRow.holds Tryz.pinned (OpenSpec.ofChange hugeBacksSpec)

/-- ITS FALSE NEIGHBOUR: 'it returns false'. Refute it at one input. -/
def hugeBacksWrong : ChangeSpec := { name := "hugeBacks", fn := fun _ => fun
  | [d1, d2, d3] => { results := [.lit (.bool false)], args := [d1, d2, d3] }
  | _ => none }
def HugeBacksWrongFalsely : Prop := hugeBacksRow.holds Tryz.pinned (OpenSpec.ofChange hugeBacksWrong)

/-- 'polderlaw13.HugeKeeps': WHATEVER THE INPUT: true; the input reads as it did. -/
def hugeKeepsSpec : ChangeSpec := { name := "hugeKeeps", fn := fun _ => fun
  | [d1, d2, d3] => { results := [.lit (.bool true)], args := [d1, d2, d3] }
  | _ => none }
def hugeKeepsRow : OpenClaim := { program := "ytefnnfcfigcikaagreat", sum := "d4f24abb5d7619558ea50c366d45f32161fab6dde7ceeb0eee9ad235b23bad6f", func := "polder/polderlaw13.HugeKeeps", spec := "hugeKeeps", unfollowed := true, recurses := true, apart := false }
def HugeKeepsSaid : Prop := hugeKeepsRow.holds Tryz.pinned (OpenSpec.ofChange hugeKeepsSpec)

/-- ITS FALSE NEIGHBOUR: 'it returns false'. Refute it at one input. -/
def hugeKeepsWrong : ChangeSpec := { name := "hugeKeeps", fn := fun _ => fun
  | [d1, d2, d3] => { results := [.lit (.bool false)], args := [d1, d2, d3] }
  | _ => none }
def HugeKeepsWrongFalsely : Prop := hugeKeepsRow.holds Tryz.pinned (OpenSpec.ofChange hugeKeepsWrong)

/- THE SECOND FORM. 'bulk': how many values and letters a reading holds, each counted each time it is reached (what is shared counts as often as it is met; a slice's spare places count too). A statement '..UptoSaid' is the law's where the arguments, and the package variables that the reading takes, are together of bulk at most 1048576: NARROWER than '..Said'. Prove '..Said' where nothing that the law and all that it calls make is longer than what came in: it says more and counts as full. Else prove '..UptoSaid'. A law counts once. -/
mutual
def uptoBulk {H : Type} : DataW H → Nat
  | .lit (.string bytes) => bytes.length + 1
  | .lit _ => 1
  | .nil => 1
  | .ptr d => uptoBulk d + 1
  | .slice elems spare => uptoBulkAll elems + uptoBulkAll spare + 1
  | .agg parts => uptoBulkAll parts + 1
  | .iface _ d => uptoBulk d + 1
  | .map entries => uptoBulkEntries entries + 1
  | .held _ => 1
def uptoBulkAll {H : Type} : List (DataW H) → Nat
  | [] => 0
  | d :: r => uptoBulk d + uptoBulkAll r
def uptoBulkEntries {H : Type} : List (Lit × DataW H) → Nat
  | [] => 0
  | x :: r => uptoBulkEntry x + uptoBulkEntries r
def uptoBulkEntry {H : Type} : Lit × DataW H → Nat
  | (.string bytes, d) => bytes.length + uptoBulk d + 1
  | (_, d) => uptoBulk d + 1
 end
def uptoSmall : (H : Type) → List (DataW H) → Bool := fun _ ds => decide (uptoBulkAll ds ≤ 1048576)
def OpenSpec.upto (s : _root_.Go.ChangeSpec) : _root_.Go.OpenSpec := { _root_.Go.OpenSpec.ofChange s with cond := some uptoSmall }

/-- 'polderlaw24.MovingWhole', WHERE WHAT IT READS IS OF BULK AT MOST 1048576: true; the input reads as it did. -/
def movingWholeUptoRow : OpenClaim := { program := "ytefnnfcfigcikaagreat", sum := "d4f24abb5d7619558ea50c366d45f32161fab6dde7ceeb0eee9ad235b23bad6f", func := "polder/polderlaw24.MovingWhole", spec := "movingWhole", unfollowed := true, recurses := true, apart := false, narrowed := true }
def MovingWholeUptoSaid : Prop := movingWholeUptoRow.holds Tryz.pinned (OpenSpec.upto movingWholeSpec)

/-- 'polderlaw13.HugeAdds', WHERE WHAT IT READS IS OF BULK AT MOST 1048576: true; the input reads as it did. -/
def hugeAddsUptoRow : OpenClaim := { program := "ytefnnfcfigcikaagreat", sum := "d4f24abb5d7619558ea50c366d45f32161fab6dde7ceeb0eee9ad235b23bad6f", func := "polder/polderlaw13.HugeAdds", spec := "hugeAdds", unfollowed := true, recurses := true, apart := false, narrowed := true }
def HugeAddsUptoSaid : Prop := hugeAddsUptoRow.holds Tryz.pinned (OpenSpec.upto hugeAddsSpec)

/-- 'polderlaw13.HugeJoins', WHERE WHAT IT READS IS OF BULK AT MOST 1048576: true; the input reads as it did. -/
def hugeJoinsUptoRow : OpenClaim := { program := "ytefnnfcfigcikaagreat", sum := "d4f24abb5d7619558ea50c366d45f32161fab6dde7ceeb0eee9ad235b23bad6f", func := "polder/polderlaw13.HugeJoins", spec := "hugeJoins", unfollowed := true, recurses := true, apart := false, narrowed := true }
def HugeJoinsUptoSaid : Prop := hugeJoinsUptoRow.holds Tryz.pinned (OpenSpec.upto hugeJoinsSpec)

/-- 'polderlaw13.HugeBacks', WHERE WHAT IT READS IS OF BULK AT MOST 1048576: true; the input reads as it did. -/
def hugeBacksUptoRow : OpenClaim := { program := "ytefnnfcfigcikaagreat", sum := "d4f24abb5d7619558ea50c366d45f32161fab6dde7ceeb0eee9ad235b23bad6f", func := "polder/polderlaw13.HugeBacks", spec := "hugeBacks", unfollowed := true, recurses := true, apart := false, narrowed := true }
def HugeBacksUptoSaid : Prop := hugeBacksUptoRow.holds Tryz.pinned (OpenSpec.upto hugeBacksSpec)

/-- 'polderlaw13.HugeKeeps', WHERE WHAT IT READS IS OF BULK AT MOST 1048576: true; the input reads as it did. -/
def hugeKeepsUptoRow : OpenClaim := { program := "ytefnnfcfigcikaagreat", sum := "d4f24abb5d7619558ea50c366d45f32161fab6dde7ceeb0eee9ad235b23bad6f", func := "polder/polderlaw13.HugeKeeps", spec := "hugeKeeps", unfollowed := true, recurses := true, apart := false, narrowed := true }
def HugeKeepsUptoSaid : Prop := hugeKeepsUptoRow.holds Tryz.pinned (OpenSpec.upto hugeKeepsSpec)

end Rows
end Go.Proofs.YtefnnfcfigcikaaGreat
