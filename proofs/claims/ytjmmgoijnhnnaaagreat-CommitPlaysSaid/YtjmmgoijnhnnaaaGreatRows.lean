/-
  No cell of these rows narrows 'for every input' (looked for: loops, veiled, ifaces, maps, wideKeys, modest, calm, conditions, laid).
  DERIVED. THE GIVEN ROWS OF THIS SEAT. 7 by the template 'for every input the law returns true; each argument reads behind the call as it read before'; 0 by the template 'total and deterministic' (their statements: YtjmmgoijnhnnaaaGreatTotals.lean).
  GIVEN WITH THE SEED: the statements are not yours to turn. If you find one false, say at which input.
  Laid BY PROGRAM, IN A SANDBOX (cutbox-rows.mjs): the forced cells as the released guide's own fill.sh prints them over the translation bf309cd7379bdf76… (all of the seat's roots in one cut). By AI agents, Wed Nov 11 2026. No macro, syntax, notation, axiom, sorry.
-/
import Derived.Test.YtjmmgoijnhnnaaaGreatChecked
import GoSem.Claim
import GoSem.ClaimJoined
import GoSem.ClaimMapViews
import Derived.JoinedTies
import Derived.KernelRfl
namespace Go.Proofs.YtjmmgoijnhnnaaaGreat
/- THE CELL 'sum', in the pinned program and in every row, IS THE sha256 OF THE DUMP (.gsa) THAT YtjmmgoijnhnnaaaGreatProg.lean LOADS. Nothing in Lean hashes anything: it is a label: what it is worth is what the hold of that sum in a sandbox is worth. -/
noncomputable def Tryz.pinned : Pinned := { name := "ytjmmgoijnhnnaaagreat", sum := "bf309cd7379bdf762ca4a116be92e3a7d6b04646e7855c790a4118784531de3c", checked := Tryz.checked }
namespace Rows
def none {H : Type} : Left H := { results := [], args := [] }

/-- 'polderlaw12.CommitBytes': WHATEVER THE INPUT: true; the input reads as it did. -/
def commitBytesSpec : ChangeSpec := { name := "commitBytes", fn := fun _ => fun
  | [d1, d2, d3] => { results := [.lit (.bool true)], args := [d1, d2, d3] }
  | _ => none }
def commitBytesRow : OpenClaim := { program := "ytjmmgoijnhnnaaagreat", sum := "bf309cd7379bdf762ca4a116be92e3a7d6b04646e7855c790a4118784531de3c", func := "polder/polderlaw12.CommitBytes", spec := "commitBytes", inPlace := ["slices.overlaps[polder/api.SpSpan]"], unfollowed := true, recurses := true, apart := false }
def CommitBytesSaid : Prop := commitBytesRow.holds Tryz.pinned (OpenSpec.ofChange commitBytesSpec)

/-- ITS FALSE NEIGHBOUR: 'it returns false'. Refute it at one input. -/
def commitBytesWrong : ChangeSpec := { name := "commitBytes", fn := fun _ => fun
  | [d1, d2, d3] => { results := [.lit (.bool false)], args := [d1, d2, d3] }
  | _ => none }
def CommitBytesWrongFalsely : Prop := commitBytesRow.holds Tryz.pinned (OpenSpec.ofChange commitBytesWrong)

/-- 'polderlaw12.CommitNone': WHATEVER THE INPUT: true; the input reads as it did. -/
def commitNoneSpec : ChangeSpec := { name := "commitNone", fn := fun _ => fun
  | [d1, d2] => { results := [.lit (.bool true)], args := [d1, d2] }
  | _ => none }
def commitNoneRow : OpenClaim := { program := "ytjmmgoijnhnnaaagreat", sum := "bf309cd7379bdf762ca4a116be92e3a7d6b04646e7855c790a4118784531de3c", func := "polder/polderlaw12.CommitNone", spec := "commitNone", inPlace := ["slices.overlaps[polder/api.SpSpan]"], unfollowed := true, recurses := true, apart := false }
def CommitNoneSaid : Prop := commitNoneRow.holds Tryz.pinned (OpenSpec.ofChange commitNoneSpec)

/-- ITS FALSE NEIGHBOUR: 'it returns false'. Refute it at one input. -/
def commitNoneWrong : ChangeSpec := { name := "commitNone", fn := fun _ => fun
  | [d1, d2] => { results := [.lit (.bool false)], args := [d1, d2] }
  | _ => none }
def CommitNoneWrongFalsely : Prop := commitNoneRow.holds Tryz.pinned (OpenSpec.ofChange commitNoneWrong)

/-- 'polderlaw12.CommitBack': WHATEVER THE INPUT: true; the input reads as it did. -/
def commitBackSpec : ChangeSpec := { name := "commitBack", fn := fun _ => fun
  | [d] => { results := [.lit (.bool true)], args := [d] }
  | _ => none }
def commitBackRow : OpenClaim := { program := "ytjmmgoijnhnnaaagreat", sum := "bf309cd7379bdf762ca4a116be92e3a7d6b04646e7855c790a4118784531de3c", func := "polder/polderlaw12.CommitBack", spec := "commitBack", inPlace := ["slices.overlaps[polder/api.SpSpan]"], unfollowed := true, recurses := true, apart := false }
def CommitBackSaid : Prop := commitBackRow.holds Tryz.pinned (OpenSpec.ofChange commitBackSpec)

/-- ITS FALSE NEIGHBOUR: 'it returns false'. Refute it at one input. -/
def commitBackWrong : ChangeSpec := { name := "commitBack", fn := fun _ => fun
  | [d] => { results := [.lit (.bool false)], args := [d] }
  | _ => none }
def CommitBackWrongFalsely : Prop := commitBackRow.holds Tryz.pinned (OpenSpec.ofChange commitBackWrong)

/-- 'polderlaw12.CommitPlays': WHATEVER THE INPUT: true; the input reads as it did. -/
def commitPlaysSpec : ChangeSpec := { name := "commitPlays", fn := fun _ => fun
  | [d] => { results := [.lit (.bool true)], args := [d] }
  | _ => none }
def commitPlaysRow : OpenClaim := { program := "ytjmmgoijnhnnaaagreat", sum := "bf309cd7379bdf762ca4a116be92e3a7d6b04646e7855c790a4118784531de3c", func := "polder/polderlaw12.CommitPlays", spec := "commitPlays", inPlace := ["slices.overlaps[polder/api.SpSpan]"], unfollowed := true, recurses := true, apart := false }
def CommitPlaysSaid : Prop := commitPlaysRow.holds Tryz.pinned (OpenSpec.ofChange commitPlaysSpec)

/-- ITS FALSE NEIGHBOUR: 'it returns false'. Refute it at one input. -/
def commitPlaysWrong : ChangeSpec := { name := "commitPlays", fn := fun _ => fun
  | [d] => { results := [.lit (.bool false)], args := [d] }
  | _ => none }
def CommitPlaysWrongFalsely : Prop := commitPlaysRow.holds Tryz.pinned (OpenSpec.ofChange commitPlaysWrong)

/-- 'polderlaw12.CommitFits': WHATEVER THE INPUT: true; the input reads as it did. -/
def commitFitsSpec : ChangeSpec := { name := "commitFits", fn := fun _ => fun
  | [d] => { results := [.lit (.bool true)], args := [d] }
  | _ => none }
def commitFitsRow : OpenClaim := { program := "ytjmmgoijnhnnaaagreat", sum := "bf309cd7379bdf762ca4a116be92e3a7d6b04646e7855c790a4118784531de3c", func := "polder/polderlaw12.CommitFits", spec := "commitFits", inPlace := ["slices.overlaps[polder/api.SpSpan]"], unfollowed := true, recurses := true, apart := false }
def CommitFitsSaid : Prop := commitFitsRow.holds Tryz.pinned (OpenSpec.ofChange commitFitsSpec)

/-- ITS FALSE NEIGHBOUR: 'it returns false'. Refute it at one input. -/
def commitFitsWrong : ChangeSpec := { name := "commitFits", fn := fun _ => fun
  | [d] => { results := [.lit (.bool false)], args := [d] }
  | _ => none }
def CommitFitsWrongFalsely : Prop := commitFitsRow.holds Tryz.pinned (OpenSpec.ofChange commitFitsWrong)

/-- 'polderlaw12.CommitKeeps': WHATEVER THE INPUT: true; the input reads as it did. -/
def commitKeepsSpec : ChangeSpec := { name := "commitKeeps", fn := fun _ => fun
  | [d1, d2] => { results := [.lit (.bool true)], args := [d1, d2] }
  | _ => none }
def commitKeepsRow : OpenClaim := { program := "ytjmmgoijnhnnaaagreat", sum := "bf309cd7379bdf762ca4a116be92e3a7d6b04646e7855c790a4118784531de3c", func := "polder/polderlaw12.CommitKeeps", spec := "commitKeeps", inPlace := ["slices.overlaps[polder/api.SpSpan]"], unfollowed := true, recurses := true, apart := false }
def CommitKeepsSaid : Prop := commitKeepsRow.holds Tryz.pinned (OpenSpec.ofChange commitKeepsSpec)

/-- ITS FALSE NEIGHBOUR: 'it returns false'. Refute it at one input. -/
def commitKeepsWrong : ChangeSpec := { name := "commitKeeps", fn := fun _ => fun
  | [d1, d2] => { results := [.lit (.bool false)], args := [d1, d2] }
  | _ => none }
def CommitKeepsWrongFalsely : Prop := commitKeepsRow.holds Tryz.pinned (OpenSpec.ofChange commitKeepsWrong)

/-- 'polderlaw12.CommitChecks': WHATEVER THE INPUT: true; the input reads as it did. -/
def commitChecksSpec : ChangeSpec := { name := "commitChecks", fn := fun _ => fun
  | [d1, d2] => { results := [.lit (.bool true)], args := [d1, d2] }
  | _ => none }
def commitChecksRow : OpenClaim := { program := "ytjmmgoijnhnnaaagreat", sum := "bf309cd7379bdf762ca4a116be92e3a7d6b04646e7855c790a4118784531de3c", func := "polder/polderlaw12.CommitChecks", spec := "commitChecks", inPlace := ["slices.overlaps[polder/api.SpSpan]"], unfollowed := true, recurses := true, apart := false }
def CommitChecksSaid : Prop := commitChecksRow.holds Tryz.pinned (OpenSpec.ofChange commitChecksSpec)

/-- ITS FALSE NEIGHBOUR: 'it returns false'. Refute it at one input. -/
def commitChecksWrong : ChangeSpec := { name := "commitChecks", fn := fun _ => fun
  | [d1, d2] => { results := [.lit (.bool false)], args := [d1, d2] }
  | _ => none }
def CommitChecksWrongFalsely : Prop := commitChecksRow.holds Tryz.pinned (OpenSpec.ofChange commitChecksWrong)

/- THE SECOND FORM. 'bulk': how many values and letters a reading holds, each counted each time it is reached (what is shared counts as often as it is met; a slice's spare places count too). A statement '..UptoSaid' is the law's where the arguments, and the package variables that the reading takes, are together of bulk at most 1048576: NARROWER than '..Said'. Prove '..Said' where nothing that the law and all that it calls make is longer than what came in: it says more and counts as full. Else prove '..UptoSaid'. A law counts once. -/
mutual
def uptoBulk {H : Type} : DataW H → Nat
  | .lit (.string bytes) => bytes.length + 1
  | .lit _ => 1
  | .nil => 1
  | .ptr d => uptoBulk d + 1
  | .slice elems spare => uptoBulkAll elems + uptoBulkAll spare + 1
  | .agg parts => uptoBulkAll parts + 1
  | .iface _ d => uptoBulk d + 1
  | .map entries => uptoBulkEntries entries + 1
  | .held _ => 1
def uptoBulkAll {H : Type} : List (DataW H) → Nat
  | [] => 0
  | d :: r => uptoBulk d + uptoBulkAll r
def uptoBulkEntries {H : Type} : List (Lit × DataW H) → Nat
  | [] => 0
  | x :: r => uptoBulkEntry x + uptoBulkEntries r
def uptoBulkEntry {H : Type} : Lit × DataW H → Nat
  | (.string bytes, d) => bytes.length + uptoBulk d + 1
  | (_, d) => uptoBulk d + 1
 end
def uptoSmall : (H : Type) → List (DataW H) → Bool := fun _ ds => decide (uptoBulkAll ds ≤ 1048576)
def OpenSpec.upto (s : _root_.Go.ChangeSpec) : _root_.Go.OpenSpec := { _root_.Go.OpenSpec.ofChange s with cond := some uptoSmall }

/-- 'polderlaw12.CommitBytes', WHERE WHAT IT READS IS OF BULK AT MOST 1048576: true; the input reads as it did. -/
def commitBytesUptoRow : OpenClaim := { program := "ytjmmgoijnhnnaaagreat", sum := "bf309cd7379bdf762ca4a116be92e3a7d6b04646e7855c790a4118784531de3c", func := "polder/polderlaw12.CommitBytes", spec := "commitBytes", inPlace := ["slices.overlaps[polder/api.SpSpan]"], unfollowed := true, recurses := true, apart := false, narrowed := true }
def CommitBytesUptoSaid : Prop := commitBytesUptoRow.holds Tryz.pinned (OpenSpec.upto commitBytesSpec)

/-- 'polderlaw12.CommitNone', WHERE WHAT IT READS IS OF BULK AT MOST 1048576: true; the input reads as it did. -/
def commitNoneUptoRow : OpenClaim := { program := "ytjmmgoijnhnnaaagreat", sum := "bf309cd7379bdf762ca4a116be92e3a7d6b04646e7855c790a4118784531de3c", func := "polder/polderlaw12.CommitNone", spec := "commitNone", inPlace := ["slices.overlaps[polder/api.SpSpan]"], unfollowed := true, recurses := true, apart := false, narrowed := true }
def CommitNoneUptoSaid : Prop := commitNoneUptoRow.holds Tryz.pinned (OpenSpec.upto commitNoneSpec)

/-- 'polderlaw12.CommitBack', WHERE WHAT IT READS IS OF BULK AT MOST 1048576: true; the input reads as it did. -/
def commitBackUptoRow : OpenClaim := { program := "ytjmmgoijnhnnaaagreat", sum := "bf309cd7379bdf762ca4a116be92e3a7d6b04646e7855c790a4118784531de3c", func := "polder/polderlaw12.CommitBack", spec := "commitBack", inPlace := ["slices.overlaps[polder/api.SpSpan]"], unfollowed := true, recurses := true, apart := false, narrowed := true }
def CommitBackUptoSaid : Prop := commitBackUptoRow.holds Tryz.pinned (OpenSpec.upto commitBackSpec)

/-- 'polderlaw12.CommitPlays', WHERE WHAT IT READS IS OF BULK AT MOST 1048576: true; the input reads as it did. -/
def commitPlaysUptoRow : OpenClaim := { program := "ytjmmgoijnhnnaaagreat", sum := "bf309cd7379bdf762ca4a116be92e3a7d6b04646e7855c790a4118784531de3c", func := "polder/polderlaw12.CommitPlays", spec := "commitPlays", inPlace := ["slices.overlaps[polder/api.SpSpan]"], unfollowed := true, recurses := true, apart := false, narrowed := true }
def CommitPlaysUptoSaid : Prop := commitPlaysUptoRow.holds Tryz.pinned (OpenSpec.upto commitPlaysSpec)

/-- 'polderlaw12.CommitFits', WHERE WHAT IT READS IS OF BULK AT MOST 1048576: true; the input reads as it did. -/
def commitFitsUptoRow : OpenClaim := { program := "ytjmmgoijnhnnaaagreat", sum := "bf309cd7379bdf762ca4a116be92e3a7d6b04646e7855c790a4118784531de3c", func := "polder/polderlaw12.CommitFits", spec := "commitFits", inPlace := ["slices.overlaps[polder/api.SpSpan]"], unfollowed := true, recurses := true, apart := false, narrowed := true }
def CommitFitsUptoSaid : Prop := commitFitsUptoRow.holds Tryz.pinned (OpenSpec.upto commitFitsSpec)

/-- 'polderlaw12.CommitKeeps', WHERE WHAT IT READS IS OF BULK AT MOST 1048576: true; the input reads as it did. -/
def commitKeepsUptoRow : OpenClaim := { program := "ytjmmgoijnhnnaaagreat", sum := "bf309cd7379bdf762ca4a116be92e3a7d6b04646e7855c790a4118784531de3c", func := "polder/polderlaw12.CommitKeeps", spec := "commitKeeps", inPlace := ["slices.overlaps[polder/api.SpSpan]"], unfollowed := true, recurses := true, apart := false, narrowed := true }
def CommitKeepsUptoSaid : Prop := commitKeepsUptoRow.holds Tryz.pinned (OpenSpec.upto commitKeepsSpec)

/-- 'polderlaw12.CommitChecks', WHERE WHAT IT READS IS OF BULK AT MOST 1048576: true; the input reads as it did. -/
def commitChecksUptoRow : OpenClaim := { program := "ytjmmgoijnhnnaaagreat", sum := "bf309cd7379bdf762ca4a116be92e3a7d6b04646e7855c790a4118784531de3c", func := "polder/polderlaw12.CommitChecks", spec := "commitChecks", inPlace := ["slices.overlaps[polder/api.SpSpan]"], unfollowed := true, recurses := true, apart := false, narrowed := true }
def CommitChecksUptoSaid : Prop := commitChecksUptoRow.holds Tryz.pinned (OpenSpec.upto commitChecksSpec)

end Rows
end Go.Proofs.YtjmmgoijnhnnaaaGreat
