/-
  No cell of these rows narrows 'for every input' (looked for: loops, veiled, ifaces, maps, wideKeys, modest, calm, conditions, laid).
  DERIVED. THE GIVEN ROWS OF THIS SEAT. 4 by the template 'for every input the law returns true; each argument reads behind the call as it read before'; 0 by the template 'total and deterministic' (their statements: YtmpakobfedgdbaaTotals.lean).
  GIVEN WITH THE SEED: the statements are not yours to turn. If you find one false, say at which input.
  Laid BY PROGRAM, IN A SANDBOX (cutbox-rows.mjs): the forced cells as the released guide's own fill.sh prints them over the translation 9906848de2d8dd12… (all of the seat's roots in one cut). By AI agents, Wed Nov 11 2026. No macro, syntax, notation, axiom, sorry.
-/
import Derived.Test.YtmpakobfedgdbaaChecked
import GoSem.Claim
import GoSem.ClaimJoined
import GoSem.ClaimMapViews
import Derived.JoinedTies
import Derived.KernelRfl
namespace Go.Proofs.Ytmpakobfedgdbaa
/- THE CELL 'sum', in the pinned program and in every row, IS THE sha256 OF THE DUMP (.gsa) THAT YtmpakobfedgdbaaProg.lean LOADS. Nothing in Lean hashes anything: it is a label: what it is worth is what the hold of that sum in a sandbox is worth. -/
noncomputable def Try.pinned : Pinned := { name := "ytmpakobfedgdbaa", sum := "9906848de2d8dd12b92a191c39568b20714978f56c4a585dde52e2b49171f35b", checked := Try.checked }
namespace Rows
def none {H : Type} : Left H := { results := [], args := [] }

/-- 'polderlaw13.HugeSplits': WHATEVER THE INPUT: true; the input reads as it did. -/
def hugeSplitsSpec : ChangeSpec := { name := "hugeSplits", fn := fun _ => fun
  | [d1, d2] => { results := [.lit (.bool true)], args := [d1, d2] }
  | _ => none }
def hugeSplitsRow : OpenClaim := { program := "ytmpakobfedgdbaa", sum := "9906848de2d8dd12b92a191c39568b20714978f56c4a585dde52e2b49171f35b", func := "polder/polderlaw13.HugeSplits", spec := "hugeSplits", unfollowed := true, recurses := true, apart := false }
def HugeSplitsSaid : Prop := hugeSplitsRow.holds Try.pinned (OpenSpec.ofChange hugeSplitsSpec)

/-- ITS FALSE NEIGHBOUR: 'it returns false'. Refute it at one input. -/
def hugeSplitsWrong : ChangeSpec := { name := "hugeSplits", fn := fun _ => fun
  | [d1, d2] => { results := [.lit (.bool false)], args := [d1, d2] }
  | _ => none }
def HugeSplitsWrongFalsely : Prop := hugeSplitsRow.holds Try.pinned (OpenSpec.ofChange hugeSplitsWrong)

/-- 'polderlaw13.HugeChooses': WHATEVER THE INPUT: true; the input reads as it did. -/
def hugeChoosesSpec : ChangeSpec := { name := "hugeChooses", fn := fun _ => fun
  | [d1, d2] => { results := [.lit (.bool true)], args := [d1, d2] }
  | _ => none }
def hugeChoosesRow : OpenClaim := { program := "ytmpakobfedgdbaa", sum := "9906848de2d8dd12b92a191c39568b20714978f56c4a585dde52e2b49171f35b", func := "polder/polderlaw13.HugeChooses", spec := "hugeChooses", unfollowed := true, recurses := true, apart := false }
def HugeChoosesSaid : Prop := hugeChoosesRow.holds Try.pinned (OpenSpec.ofChange hugeChoosesSpec)

/-- ITS FALSE NEIGHBOUR: 'it returns false'. Refute it at one input. -/
def hugeChoosesWrong : ChangeSpec := { name := "hugeChooses", fn := fun _ => fun
  | [d1, d2] => { results := [.lit (.bool false)], args := [d1, d2] }
  | _ => none }
def HugeChoosesWrongFalsely : Prop := hugeChoosesRow.holds Try.pinned (OpenSpec.ofChange hugeChoosesWrong)

/-- 'polderlaw13.HugeFewest': WHATEVER THE INPUT: true; the input reads as it did. -/
def hugeFewestSpec : ChangeSpec := { name := "hugeFewest", fn := fun _ => fun
  | [d1, d2, d3] => { results := [.lit (.bool true)], args := [d1, d2, d3] }
  | _ => none }
def hugeFewestRow : OpenClaim := { program := "ytmpakobfedgdbaa", sum := "9906848de2d8dd12b92a191c39568b20714978f56c4a585dde52e2b49171f35b", func := "polder/polderlaw13.HugeFewest", spec := "hugeFewest", unfollowed := true, recurses := true, apart := false }
def HugeFewestSaid : Prop := hugeFewestRow.holds Try.pinned (OpenSpec.ofChange hugeFewestSpec)

/-- ITS FALSE NEIGHBOUR: 'it returns false'. Refute it at one input. -/
def hugeFewestWrong : ChangeSpec := { name := "hugeFewest", fn := fun _ => fun
  | [d1, d2, d3] => { results := [.lit (.bool false)], args := [d1, d2, d3] }
  | _ => none }
def HugeFewestWrongFalsely : Prop := hugeFewestRow.holds Try.pinned (OpenSpec.ofChange hugeFewestWrong)

/-- 'polderlaw13.HugeGroups': WHATEVER THE INPUT: true; the input reads as it did. -/
def hugeGroupsSpec : ChangeSpec := { name := "hugeGroups", fn := fun _ => fun
  | [d1, d2] => { results := [.lit (.bool true)], args := [d1, d2] }
  | _ => none }
def hugeGroupsRow : OpenClaim := { program := "ytmpakobfedgdbaa", sum := "9906848de2d8dd12b92a191c39568b20714978f56c4a585dde52e2b49171f35b", func := "polder/polderlaw13.HugeGroups", spec := "hugeGroups", unfollowed := true, recurses := true, apart := false }
def HugeGroupsSaid : Prop := hugeGroupsRow.holds Try.pinned (OpenSpec.ofChange hugeGroupsSpec)

/-- ITS FALSE NEIGHBOUR: 'it returns false'. Refute it at one input. -/
def hugeGroupsWrong : ChangeSpec := { name := "hugeGroups", fn := fun _ => fun
  | [d1, d2] => { results := [.lit (.bool false)], args := [d1, d2] }
  | _ => none }
def HugeGroupsWrongFalsely : Prop := hugeGroupsRow.holds Try.pinned (OpenSpec.ofChange hugeGroupsWrong)

/- THE SECOND FORM. 'bulk': how many values and letters a reading holds, each counted each time it is reached (what is shared counts as often as it is met; a slice's spare places count too). A statement '..UptoSaid' is the law's where the arguments, and the package variables that the reading takes, are together of bulk at most 1048576: NARROWER than '..Said'. Prove '..Said' where nothing that the law and all that it calls make is longer than what came in: it says more and counts as full. Else prove '..UptoSaid'. A law counts once. -/
mutual
def uptoBulk {H : Type} : DataW H → Nat
  | .lit (.string bytes) => bytes.length + 1
  | .lit _ => 1
  | .nil => 1
  | .ptr d => uptoBulk d + 1
  | .slice elems spare => uptoBulkAll elems + uptoBulkAll spare + 1
  | .agg parts => uptoBulkAll parts + 1
  | .iface _ d => uptoBulk d + 1
  | .map entries => uptoBulkEntries entries + 1
  | .held _ => 1
def uptoBulkAll {H : Type} : List (DataW H) → Nat
  | [] => 0
  | d :: r => uptoBulk d + uptoBulkAll r
def uptoBulkEntries {H : Type} : List (Lit × DataW H) → Nat
  | [] => 0
  | x :: r => uptoBulkEntry x + uptoBulkEntries r
def uptoBulkEntry {H : Type} : Lit × DataW H → Nat
  | (.string bytes, d) => bytes.length + uptoBulk d + 1
  | (_, d) => uptoBulk d + 1
 end
def uptoSmall : (H : Type) → List (DataW H) → Bool := fun _ ds => decide (uptoBulkAll ds ≤ 1048576)
def OpenSpec.upto (s : _root_.Go.ChangeSpec) : _root_.Go.OpenSpec := { _root_.Go.OpenSpec.ofChange s with cond := some uptoSmall }

/-- 'polderlaw13.HugeSplits', WHERE WHAT IT READS IS OF BULK AT MOST 1048576: true; the input reads as it did. -/
def hugeSplitsUptoRow : OpenClaim := { program := "ytmpakobfedgdbaa", sum := "9906848de2d8dd12b92a191c39568b20714978f56c4a585dde52e2b49171f35b", func := "polder/polderlaw13.HugeSplits", spec := "hugeSplits", unfollowed := true, recurses := true, apart := false, narrowed := true }
def HugeSplitsUptoSaid : Prop := hugeSplitsUptoRow.holds Try.pinned (OpenSpec.upto hugeSplitsSpec)

/-- 'polderlaw13.HugeChooses', WHERE WHAT IT READS IS OF BULK AT MOST 1048576: true; the input reads as it did. -/
def hugeChoosesUptoRow : OpenClaim := { program := "ytmpakobfedgdbaa", sum := "9906848de2d8dd12b92a191c39568b20714978f56c4a585dde52e2b49171f35b", func := "polder/polderlaw13.HugeChooses", spec := "hugeChooses", unfollowed := true, recurses := true, apart := false, narrowed := true }
def HugeChoosesUptoSaid : Prop := hugeChoosesUptoRow.holds Try.pinned (OpenSpec.upto hugeChoosesSpec)

/-- 'polderlaw13.HugeFewest', WHERE WHAT IT READS IS OF BULK AT MOST 1048576: true; the input reads as it did. -/
def hugeFewestUptoRow : OpenClaim := { program := "ytmpakobfedgdbaa", sum := "9906848de2d8dd12b92a191c39568b20714978f56c4a585dde52e2b49171f35b", func := "polder/polderlaw13.HugeFewest", spec := "hugeFewest", unfollowed := true, recurses := true, apart := false, narrowed := true }
def HugeFewestUptoSaid : Prop := hugeFewestUptoRow.holds Try.pinned (OpenSpec.upto hugeFewestSpec)

/-- 'polderlaw13.HugeGroups', WHERE WHAT IT READS IS OF BULK AT MOST 1048576: true; the input reads as it did. -/
def hugeGroupsUptoRow : OpenClaim := { program := "ytmpakobfedgdbaa", sum := "9906848de2d8dd12b92a191c39568b20714978f56c4a585dde52e2b49171f35b", func := "polder/polderlaw13.HugeGroups", spec := "hugeGroups", unfollowed := true, recurses := true, apart := false, narrowed := true }
def HugeGroupsUptoSaid : Prop := hugeGroupsUptoRow.holds Try.pinned (OpenSpec.upto hugeGroupsSpec)

end Rows
end Go.Proofs.Ytmpakobfedgdbaa
