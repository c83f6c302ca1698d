/-
  No cell of these rows narrows 'for every input' (looked for: loops, veiled, ifaces, maps, wideKeys, modest, calm, conditions, laid).
  DERIVED. THE GIVEN ROWS OF THIS SEAT. 14 by the template 'for every input the law returns true; each argument reads behind the call as it read before'; 0 by the template 'total and deterministic' (their statements: YtfmnlpgboolpmaaTotals.lean).
  GIVEN WITH THE SEED: the statements are not yours to turn. If you find one false, say at which input.
  Laid BY PROGRAM, IN A SANDBOX (cutbox-rows.mjs): the forced cells as the released guide's own fill.sh prints them over the translation ffc7028c5f766a44… (all of the seat's roots in one cut). By AI agents, Wed Nov 11 2026. No macro, syntax, notation, axiom, sorry.
-/
import Derived.Test.YtfmnlpgboolpmaaChecked
import GoSem.Claim
import GoSem.ClaimJoined
import GoSem.ClaimMapViews
import Derived.JoinedTies
import Derived.KernelRfl
namespace Go.Proofs.Ytfmnlpgboolpmaa
/- THE CELL 'sum', in the pinned program and in every row, IS THE sha256 OF THE DUMP (.gsa) THAT YtfmnlpgboolpmaaProg.lean LOADS. Nothing in Lean hashes anything: it is a label: what it is worth is what the hold of that sum in a sandbox is worth. -/
noncomputable def Try.pinned : Pinned := { name := "ytfmnlpgboolpmaa", sum := "ffc7028c5f766a44cef2b28df23686b12489030717931eb3d890437a06148b9e", checked := Try.checked }
namespace Rows
def none {H : Type} : Left H := { results := [], args := [] }

/-- 'polderlaw11.GuardsNumbers': WHATEVER THE INPUT: true; the input reads as it did. -/
def guardsNumbersSpec : ChangeSpec := { name := "guardsNumbers", fn := fun _ => fun
  | [d1, d2, d3] => { results := [.lit (.bool true)], args := [d1, d2, d3] }
  | _ => none }
def guardsNumbersRow : OpenClaim := { program := "ytfmnlpgboolpmaa", sum := "ffc7028c5f766a44cef2b28df23686b12489030717931eb3d890437a06148b9e", func := "polder/polderlaw11.GuardsNumbers", spec := "guardsNumbers", unfollowed := true, recurses := true, apart := false }
def GuardsNumbersSaid : Prop := guardsNumbersRow.holds Try.pinned (OpenSpec.ofChange guardsNumbersSpec)

/-- ITS FALSE NEIGHBOUR: 'it returns false'. Refute it at one input. -/
def guardsNumbersWrong : ChangeSpec := { name := "guardsNumbers", fn := fun _ => fun
  | [d1, d2, d3] => { results := [.lit (.bool false)], args := [d1, d2, d3] }
  | _ => none }
def GuardsNumbersWrongFalsely : Prop := guardsNumbersRow.holds Try.pinned (OpenSpec.ofChange guardsNumbersWrong)

/-- 'polderlaw11.GuardsHits': WHATEVER THE INPUT: true; the input reads as it did. -/
def guardsHitsSpec : ChangeSpec := { name := "guardsHits", fn := fun _ => fun
  | [d1, d2, d3] => { results := [.lit (.bool true)], args := [d1, d2, d3] }
  | _ => none }
def guardsHitsRow : OpenClaim := { program := "ytfmnlpgboolpmaa", sum := "ffc7028c5f766a44cef2b28df23686b12489030717931eb3d890437a06148b9e", func := "polder/polderlaw11.GuardsHits", spec := "guardsHits", unfollowed := true, recurses := true, apart := false }
def GuardsHitsSaid : Prop := guardsHitsRow.holds Try.pinned (OpenSpec.ofChange guardsHitsSpec)

/-- ITS FALSE NEIGHBOUR: 'it returns false'. Refute it at one input. -/
def guardsHitsWrong : ChangeSpec := { name := "guardsHits", fn := fun _ => fun
  | [d1, d2, d3] => { results := [.lit (.bool false)], args := [d1, d2, d3] }
  | _ => none }
def GuardsHitsWrongFalsely : Prop := guardsHitsRow.holds Try.pinned (OpenSpec.ofChange guardsHitsWrong)

/-- 'polderlaw11.GuardsSeen': WHATEVER THE INPUT: true; the input reads as it did. -/
def guardsSeenSpec : ChangeSpec := { name := "guardsSeen", fn := fun _ => fun
  | [d1, d2, d3] => { results := [.lit (.bool true)], args := [d1, d2, d3] }
  | _ => none }
def guardsSeenRow : OpenClaim := { program := "ytfmnlpgboolpmaa", sum := "ffc7028c5f766a44cef2b28df23686b12489030717931eb3d890437a06148b9e", func := "polder/polderlaw11.GuardsSeen", spec := "guardsSeen", unfollowed := true, recurses := true, apart := false }
def GuardsSeenSaid : Prop := guardsSeenRow.holds Try.pinned (OpenSpec.ofChange guardsSeenSpec)

/-- ITS FALSE NEIGHBOUR: 'it returns false'. Refute it at one input. -/
def guardsSeenWrong : ChangeSpec := { name := "guardsSeen", fn := fun _ => fun
  | [d1, d2, d3] => { results := [.lit (.bool false)], args := [d1, d2, d3] }
  | _ => none }
def GuardsSeenWrongFalsely : Prop := guardsSeenRow.holds Try.pinned (OpenSpec.ofChange guardsSeenWrong)

/-- 'polderlaw11.GuardsSets': WHATEVER THE INPUT: true; the input reads as it did. -/
def guardsSetsSpec : ChangeSpec := { name := "guardsSets", fn := fun _ => fun
  | [d] => { results := [.lit (.bool true)], args := [d] }
  | _ => none }
def guardsSetsRow : OpenClaim := { program := "ytfmnlpgboolpmaa", sum := "ffc7028c5f766a44cef2b28df23686b12489030717931eb3d890437a06148b9e", func := "polder/polderlaw11.GuardsSets", spec := "guardsSets", unfollowed := true, recurses := true, apart := false }
def GuardsSetsSaid : Prop := guardsSetsRow.holds Try.pinned (OpenSpec.ofChange guardsSetsSpec)

/-- ITS FALSE NEIGHBOUR: 'it returns false'. Refute it at one input. -/
def guardsSetsWrong : ChangeSpec := { name := "guardsSets", fn := fun _ => fun
  | [d] => { results := [.lit (.bool false)], args := [d] }
  | _ => none }
def GuardsSetsWrongFalsely : Prop := guardsSetsRow.holds Try.pinned (OpenSpec.ofChange guardsSetsWrong)

/-- 'polderlaw11.GuardsLeast': WHATEVER THE INPUT: true; the input reads as it did. -/
def guardsLeastSpec : ChangeSpec := { name := "guardsLeast", fn := fun _ => fun
  | [d1, d2] => { results := [.lit (.bool true)], args := [d1, d2] }
  | _ => none }
def guardsLeastRow : OpenClaim := { program := "ytfmnlpgboolpmaa", sum := "ffc7028c5f766a44cef2b28df23686b12489030717931eb3d890437a06148b9e", func := "polder/polderlaw11.GuardsLeast", spec := "guardsLeast", unfollowed := true, recurses := true, apart := false }
def GuardsLeastSaid : Prop := guardsLeastRow.holds Try.pinned (OpenSpec.ofChange guardsLeastSpec)

/-- ITS FALSE NEIGHBOUR: 'it returns false'. Refute it at one input. -/
def guardsLeastWrong : ChangeSpec := { name := "guardsLeast", fn := fun _ => fun
  | [d1, d2] => { results := [.lit (.bool false)], args := [d1, d2] }
  | _ => none }
def GuardsLeastWrongFalsely : Prop := guardsLeastRow.holds Try.pinned (OpenSpec.ofChange guardsLeastWrong)

/-- 'polderlaw11.GuardsParts': WHATEVER THE INPUT: true; the input reads as it did. -/
def guardsPartsSpec : ChangeSpec := { name := "guardsParts", fn := fun _ => fun
  | [d] => { results := [.lit (.bool true)], args := [d] }
  | _ => none }
def guardsPartsRow : OpenClaim := { program := "ytfmnlpgboolpmaa", sum := "ffc7028c5f766a44cef2b28df23686b12489030717931eb3d890437a06148b9e", func := "polder/polderlaw11.GuardsParts", spec := "guardsParts", unfollowed := true, recurses := true, apart := false }
def GuardsPartsSaid : Prop := guardsPartsRow.holds Try.pinned (OpenSpec.ofChange guardsPartsSpec)

/-- ITS FALSE NEIGHBOUR: 'it returns false'. Refute it at one input. -/
def guardsPartsWrong : ChangeSpec := { name := "guardsParts", fn := fun _ => fun
  | [d] => { results := [.lit (.bool false)], args := [d] }
  | _ => none }
def GuardsPartsWrongFalsely : Prop := guardsPartsRow.holds Try.pinned (OpenSpec.ofChange guardsPartsWrong)

/-- 'polderlaw03.SpansOf': WHATEVER THE INPUT: true; the input reads as it did. -/
def spansOfSpec : ChangeSpec := { name := "spansOf", fn := fun _ => fun
  | [d] => { results := [.lit (.bool true)], args := [d] }
  | _ => none }
def spansOfRow : OpenClaim := { program := "ytfmnlpgboolpmaa", sum := "ffc7028c5f766a44cef2b28df23686b12489030717931eb3d890437a06148b9e", func := "polder/polderlaw03.SpansOf", spec := "spansOf", unfollowed := true, recurses := true, apart := false }
def SpansOfSaid : Prop := spansOfRow.holds Try.pinned (OpenSpec.ofChange spansOfSpec)

/-- ITS FALSE NEIGHBOUR: 'it returns false'. Refute it at one input. -/
def spansOfWrong : ChangeSpec := { name := "spansOf", fn := fun _ => fun
  | [d] => { results := [.lit (.bool false)], args := [d] }
  | _ => none }
def SpansOfWrongFalsely : Prop := spansOfRow.holds Try.pinned (OpenSpec.ofChange spansOfWrong)

/-- 'polderlaw03.SpansWalks': WHATEVER THE INPUT: true; the input reads as it did. -/
def spansWalksSpec : ChangeSpec := { name := "spansWalks", fn := fun _ => fun
  | [d1, d2, d3] => { results := [.lit (.bool true)], args := [d1, d2, d3] }
  | _ => none }
def spansWalksRow : OpenClaim := { program := "ytfmnlpgboolpmaa", sum := "ffc7028c5f766a44cef2b28df23686b12489030717931eb3d890437a06148b9e", func := "polder/polderlaw03.SpansWalks", spec := "spansWalks", unfollowed := true, recurses := true, apart := false }
def SpansWalksSaid : Prop := spansWalksRow.holds Try.pinned (OpenSpec.ofChange spansWalksSpec)

/-- ITS FALSE NEIGHBOUR: 'it returns false'. Refute it at one input. -/
def spansWalksWrong : ChangeSpec := { name := "spansWalks", fn := fun _ => fun
  | [d1, d2, d3] => { results := [.lit (.bool false)], args := [d1, d2, d3] }
  | _ => none }
def SpansWalksWrongFalsely : Prop := spansWalksRow.holds Try.pinned (OpenSpec.ofChange spansWalksWrong)

/-- 'polderlaw03.SpansPieces': WHATEVER THE INPUT: true; the input reads as it did. -/
def spansPiecesSpec : ChangeSpec := { name := "spansPieces", fn := fun _ => fun
  | [d1, d2] => { results := [.lit (.bool true)], args := [d1, d2] }
  | _ => none }
def spansPiecesRow : OpenClaim := { program := "ytfmnlpgboolpmaa", sum := "ffc7028c5f766a44cef2b28df23686b12489030717931eb3d890437a06148b9e", func := "polder/polderlaw03.SpansPieces", spec := "spansPieces", unfollowed := true, recurses := true, apart := false }
def SpansPiecesSaid : Prop := spansPiecesRow.holds Try.pinned (OpenSpec.ofChange spansPiecesSpec)

/-- ITS FALSE NEIGHBOUR: 'it returns false'. Refute it at one input. -/
def spansPiecesWrong : ChangeSpec := { name := "spansPieces", fn := fun _ => fun
  | [d1, d2] => { results := [.lit (.bool false)], args := [d1, d2] }
  | _ => none }
def SpansPiecesWrongFalsely : Prop := spansPiecesRow.holds Try.pinned (OpenSpec.ofChange spansPiecesWrong)

/-- 'polderlaw03.SpansAsks': WHATEVER THE INPUT: true; the input reads as it did. -/
def spansAsksSpec : ChangeSpec := { name := "spansAsks", fn := fun _ => fun
  | [d1, d2] => { results := [.lit (.bool true)], args := [d1, d2] }
  | _ => none }
def spansAsksRow : OpenClaim := { program := "ytfmnlpgboolpmaa", sum := "ffc7028c5f766a44cef2b28df23686b12489030717931eb3d890437a06148b9e", func := "polder/polderlaw03.SpansAsks", spec := "spansAsks", unfollowed := true, recurses := true, apart := false }
def SpansAsksSaid : Prop := spansAsksRow.holds Try.pinned (OpenSpec.ofChange spansAsksSpec)

/-- ITS FALSE NEIGHBOUR: 'it returns false'. Refute it at one input. -/
def spansAsksWrong : ChangeSpec := { name := "spansAsks", fn := fun _ => fun
  | [d1, d2] => { results := [.lit (.bool false)], args := [d1, d2] }
  | _ => none }
def SpansAsksWrongFalsely : Prop := spansAsksRow.holds Try.pinned (OpenSpec.ofChange spansAsksWrong)

/-- 'polderlaw03.SpansPlaces': WHATEVER THE INPUT: true; the input reads as it did. -/
def spansPlacesSpec : ChangeSpec := { name := "spansPlaces", fn := fun _ => fun
  | [d1, d2, d3] => { results := [.lit (.bool true)], args := [d1, d2, d3] }
  | _ => none }
def spansPlacesRow : OpenClaim := { program := "ytfmnlpgboolpmaa", sum := "ffc7028c5f766a44cef2b28df23686b12489030717931eb3d890437a06148b9e", func := "polder/polderlaw03.SpansPlaces", spec := "spansPlaces", unfollowed := true, recurses := true, apart := false }
def SpansPlacesSaid : Prop := spansPlacesRow.holds Try.pinned (OpenSpec.ofChange spansPlacesSpec)

/-- ITS FALSE NEIGHBOUR: 'it returns false'. Refute it at one input. -/
def spansPlacesWrong : ChangeSpec := { name := "spansPlaces", fn := fun _ => fun
  | [d1, d2, d3] => { results := [.lit (.bool false)], args := [d1, d2, d3] }
  | _ => none }
def SpansPlacesWrongFalsely : Prop := spansPlacesRow.holds Try.pinned (OpenSpec.ofChange spansPlacesWrong)

/-- 'polderlaw03.SpansLeast': WHATEVER THE INPUT: true; the input reads as it did. -/
def spansLeastSpec : ChangeSpec := { name := "spansLeast", fn := fun _ => fun
  | [d1, d2, d3] => { results := [.lit (.bool true)], args := [d1, d2, d3] }
  | _ => none }
def spansLeastRow : OpenClaim := { program := "ytfmnlpgboolpmaa", sum := "ffc7028c5f766a44cef2b28df23686b12489030717931eb3d890437a06148b9e", func := "polder/polderlaw03.SpansLeast", spec := "spansLeast", unfollowed := true, recurses := true, apart := false }
def SpansLeastSaid : Prop := spansLeastRow.holds Try.pinned (OpenSpec.ofChange spansLeastSpec)

/-- ITS FALSE NEIGHBOUR: 'it returns false'. Refute it at one input. -/
def spansLeastWrong : ChangeSpec := { name := "spansLeast", fn := fun _ => fun
  | [d1, d2, d3] => { results := [.lit (.bool false)], args := [d1, d2, d3] }
  | _ => none }
def SpansLeastWrongFalsely : Prop := spansLeastRow.holds Try.pinned (OpenSpec.ofChange spansLeastWrong)

/-- 'polderlaw03.SpansSets': WHATEVER THE INPUT: true; the input reads as it did. -/
def spansSetsSpec : ChangeSpec := { name := "spansSets", fn := fun _ => fun
  | [d1, d2, d3] => { results := [.lit (.bool true)], args := [d1, d2, d3] }
  | _ => none }
def spansSetsRow : OpenClaim := { program := "ytfmnlpgboolpmaa", sum := "ffc7028c5f766a44cef2b28df23686b12489030717931eb3d890437a06148b9e", func := "polder/polderlaw03.SpansSets", spec := "spansSets", unfollowed := true, recurses := true, apart := false }
def SpansSetsSaid : Prop := spansSetsRow.holds Try.pinned (OpenSpec.ofChange spansSetsSpec)

/-- ITS FALSE NEIGHBOUR: 'it returns false'. Refute it at one input. -/
def spansSetsWrong : ChangeSpec := { name := "spansSets", fn := fun _ => fun
  | [d1, d2, d3] => { results := [.lit (.bool false)], args := [d1, d2, d3] }
  | _ => none }
def SpansSetsWrongFalsely : Prop := spansSetsRow.holds Try.pinned (OpenSpec.ofChange spansSetsWrong)

/-- 'polderlaw03.SpansLaws': WHATEVER THE INPUT: true; the input reads as it did. -/
def spansLawsSpec : ChangeSpec := { name := "spansLaws", fn := fun _ => fun
  | [d1, d2, d3] => { results := [.lit (.bool true)], args := [d1, d2, d3] }
  | _ => none }
def spansLawsRow : OpenClaim := { program := "ytfmnlpgboolpmaa", sum := "ffc7028c5f766a44cef2b28df23686b12489030717931eb3d890437a06148b9e", func := "polder/polderlaw03.SpansLaws", spec := "spansLaws", unfollowed := true, recurses := true, apart := false }
def SpansLawsSaid : Prop := spansLawsRow.holds Try.pinned (OpenSpec.ofChange spansLawsSpec)

/-- ITS FALSE NEIGHBOUR: 'it returns false'. Refute it at one input. -/
def spansLawsWrong : ChangeSpec := { name := "spansLaws", fn := fun _ => fun
  | [d1, d2, d3] => { results := [.lit (.bool false)], args := [d1, d2, d3] }
  | _ => none }
def SpansLawsWrongFalsely : Prop := spansLawsRow.holds Try.pinned (OpenSpec.ofChange spansLawsWrong)

/- THE SECOND FORM. 'bulk': how many values and letters a reading holds, each counted each time it is reached (what is shared counts as often as it is met; a slice's spare places count too). A statement '..UptoSaid' is the law's where the arguments, and the package variables that the reading takes, are together of bulk at most 1048576: NARROWER than '..Said'. Prove '..Said' where nothing that the law and all that it calls make is longer than what came in: it says more and counts as full. Else prove '..UptoSaid'. A law counts once. -/
mutual
def uptoBulk {H : Type} : DataW H → Nat
  | .lit (.string bytes) => bytes.length + 1
  | .lit _ => 1
  | .nil => 1
  | .ptr d => uptoBulk d + 1
  | .slice elems spare => uptoBulkAll elems + uptoBulkAll spare + 1
  | .agg parts => uptoBulkAll parts + 1
  | .iface _ d => uptoBulk d + 1
  | .map entries => uptoBulkEntries entries + 1
  | .held _ => 1
def uptoBulkAll {H : Type} : List (DataW H) → Nat
  | [] => 0
  | d :: r => uptoBulk d + uptoBulkAll r
def uptoBulkEntries {H : Type} : List (Lit × DataW H) → Nat
  | [] => 0
  | x :: r => uptoBulkEntry x + uptoBulkEntries r
def uptoBulkEntry {H : Type} : Lit × DataW H → Nat
  | (.string bytes, d) => bytes.length + uptoBulk d + 1
  | (_, d) => uptoBulk d + 1
 end
def uptoSmall : (H : Type) → List (DataW H) → Bool := fun _ ds => decide (uptoBulkAll ds ≤ 1048576)
def OpenSpec.upto (s : _root_.Go.ChangeSpec) : _root_.Go.OpenSpec := { _root_.Go.OpenSpec.ofChange s with cond := some uptoSmall }

/-- 'polderlaw11.GuardsNumbers', WHERE WHAT IT READS IS OF BULK AT MOST 1048576: true; the input reads as it did. -/
def guardsNumbersUptoRow : OpenClaim := { program := "ytfmnlpgboolpmaa", sum := "ffc7028c5f766a44cef2b28df23686b12489030717931eb3d890437a06148b9e", func := "polder/polderlaw11.GuardsNumbers", spec := "guardsNumbers", unfollowed := true, recurses := true, apart := false, narrowed := true }
def GuardsNumbersUptoSaid : Prop := guardsNumbersUptoRow.holds Try.pinned (OpenSpec.upto guardsNumbersSpec)

/-- 'polderlaw11.GuardsHits', WHERE WHAT IT READS IS OF BULK AT MOST 1048576: true; the input reads as it did. -/
def guardsHitsUptoRow : OpenClaim := { program := "ytfmnlpgboolpmaa", sum := "ffc7028c5f766a44cef2b28df23686b12489030717931eb3d890437a06148b9e", func := "polder/polderlaw11.GuardsHits", spec := "guardsHits", unfollowed := true, recurses := true, apart := false, narrowed := true }
def GuardsHitsUptoSaid : Prop := guardsHitsUptoRow.holds Try.pinned (OpenSpec.upto guardsHitsSpec)

/-- 'polderlaw11.GuardsSeen', WHERE WHAT IT READS IS OF BULK AT MOST 1048576: true; the input reads as it did. -/
def guardsSeenUptoRow : OpenClaim := { program := "ytfmnlpgboolpmaa", sum := "ffc7028c5f766a44cef2b28df23686b12489030717931eb3d890437a06148b9e", func := "polder/polderlaw11.GuardsSeen", spec := "guardsSeen", unfollowed := true, recurses := true, apart := false, narrowed := true }
def GuardsSeenUptoSaid : Prop := guardsSeenUptoRow.holds Try.pinned (OpenSpec.upto guardsSeenSpec)

/-- 'polderlaw11.GuardsSets', WHERE WHAT IT READS IS OF BULK AT MOST 1048576: true; the input reads as it did. -/
def guardsSetsUptoRow : OpenClaim := { program := "ytfmnlpgboolpmaa", sum := "ffc7028c5f766a44cef2b28df23686b12489030717931eb3d890437a06148b9e", func := "polder/polderlaw11.GuardsSets", spec := "guardsSets", unfollowed := true, recurses := true, apart := false, narrowed := true }
def GuardsSetsUptoSaid : Prop := guardsSetsUptoRow.holds Try.pinned (OpenSpec.upto guardsSetsSpec)

/-- 'polderlaw11.GuardsLeast', WHERE WHAT IT READS IS OF BULK AT MOST 1048576: true; the input reads as it did. -/
def guardsLeastUptoRow : OpenClaim := { program := "ytfmnlpgboolpmaa", sum := "ffc7028c5f766a44cef2b28df23686b12489030717931eb3d890437a06148b9e", func := "polder/polderlaw11.GuardsLeast", spec := "guardsLeast", unfollowed := true, recurses := true, apart := false, narrowed := true }
def GuardsLeastUptoSaid : Prop := guardsLeastUptoRow.holds Try.pinned (OpenSpec.upto guardsLeastSpec)

/-- 'polderlaw11.GuardsParts', WHERE WHAT IT READS IS OF BULK AT MOST 1048576: true; the input reads as it did. -/
def guardsPartsUptoRow : OpenClaim := { program := "ytfmnlpgboolpmaa", sum := "ffc7028c5f766a44cef2b28df23686b12489030717931eb3d890437a06148b9e", func := "polder/polderlaw11.GuardsParts", spec := "guardsParts", unfollowed := true, recurses := true, apart := false, narrowed := true }
def GuardsPartsUptoSaid : Prop := guardsPartsUptoRow.holds Try.pinned (OpenSpec.upto guardsPartsSpec)

/-- 'polderlaw03.SpansOf', WHERE WHAT IT READS IS OF BULK AT MOST 1048576: true; the input reads as it did. -/
def spansOfUptoRow : OpenClaim := { program := "ytfmnlpgboolpmaa", sum := "ffc7028c5f766a44cef2b28df23686b12489030717931eb3d890437a06148b9e", func := "polder/polderlaw03.SpansOf", spec := "spansOf", unfollowed := true, recurses := true, apart := false, narrowed := true }
def SpansOfUptoSaid : Prop := spansOfUptoRow.holds Try.pinned (OpenSpec.upto spansOfSpec)

/-- 'polderlaw03.SpansWalks', WHERE WHAT IT READS IS OF BULK AT MOST 1048576: true; the input reads as it did. -/
def spansWalksUptoRow : OpenClaim := { program := "ytfmnlpgboolpmaa", sum := "ffc7028c5f766a44cef2b28df23686b12489030717931eb3d890437a06148b9e", func := "polder/polderlaw03.SpansWalks", spec := "spansWalks", unfollowed := true, recurses := true, apart := false, narrowed := true }
def SpansWalksUptoSaid : Prop := spansWalksUptoRow.holds Try.pinned (OpenSpec.upto spansWalksSpec)

/-- 'polderlaw03.SpansPieces', WHERE WHAT IT READS IS OF BULK AT MOST 1048576: true; the input reads as it did. -/
def spansPiecesUptoRow : OpenClaim := { program := "ytfmnlpgboolpmaa", sum := "ffc7028c5f766a44cef2b28df23686b12489030717931eb3d890437a06148b9e", func := "polder/polderlaw03.SpansPieces", spec := "spansPieces", unfollowed := true, recurses := true, apart := false, narrowed := true }
def SpansPiecesUptoSaid : Prop := spansPiecesUptoRow.holds Try.pinned (OpenSpec.upto spansPiecesSpec)

/-- 'polderlaw03.SpansAsks', WHERE WHAT IT READS IS OF BULK AT MOST 1048576: true; the input reads as it did. -/
def spansAsksUptoRow : OpenClaim := { program := "ytfmnlpgboolpmaa", sum := "ffc7028c5f766a44cef2b28df23686b12489030717931eb3d890437a06148b9e", func := "polder/polderlaw03.SpansAsks", spec := "spansAsks", unfollowed := true, recurses := true, apart := false, narrowed := true }
def SpansAsksUptoSaid : Prop := spansAsksUptoRow.holds Try.pinned (OpenSpec.upto spansAsksSpec)

/-- 'polderlaw03.SpansPlaces', WHERE WHAT IT READS IS OF BULK AT MOST 1048576: true; the input reads as it did. -/
def spansPlacesUptoRow : OpenClaim := { program := "ytfmnlpgboolpmaa", sum := "ffc7028c5f766a44cef2b28df23686b12489030717931eb3d890437a06148b9e", func := "polder/polderlaw03.SpansPlaces", spec := "spansPlaces", unfollowed := true, recurses := true, apart := false, narrowed := true }
def SpansPlacesUptoSaid : Prop := spansPlacesUptoRow.holds Try.pinned (OpenSpec.upto spansPlacesSpec)

/-- 'polderlaw03.SpansLeast', WHERE WHAT IT READS IS OF BULK AT MOST 1048576: true; the input reads as it did. -/
def spansLeastUptoRow : OpenClaim := { program := "ytfmnlpgboolpmaa", sum := "ffc7028c5f766a44cef2b28df23686b12489030717931eb3d890437a06148b9e", func := "polder/polderlaw03.SpansLeast", spec := "spansLeast", unfollowed := true, recurses := true, apart := false, narrowed := true }
def SpansLeastUptoSaid : Prop := spansLeastUptoRow.holds Try.pinned (OpenSpec.upto spansLeastSpec)

/-- 'polderlaw03.SpansSets', WHERE WHAT IT READS IS OF BULK AT MOST 1048576: true; the input reads as it did. -/
def spansSetsUptoRow : OpenClaim := { program := "ytfmnlpgboolpmaa", sum := "ffc7028c5f766a44cef2b28df23686b12489030717931eb3d890437a06148b9e", func := "polder/polderlaw03.SpansSets", spec := "spansSets", unfollowed := true, recurses := true, apart := false, narrowed := true }
def SpansSetsUptoSaid : Prop := spansSetsUptoRow.holds Try.pinned (OpenSpec.upto spansSetsSpec)

/-- 'polderlaw03.SpansLaws', WHERE WHAT IT READS IS OF BULK AT MOST 1048576: true; the input reads as it did. -/
def spansLawsUptoRow : OpenClaim := { program := "ytfmnlpgboolpmaa", sum := "ffc7028c5f766a44cef2b28df23686b12489030717931eb3d890437a06148b9e", func := "polder/polderlaw03.SpansLaws", spec := "spansLaws", unfollowed := true, recurses := true, apart := false, narrowed := true }
def SpansLawsUptoSaid : Prop := spansLawsUptoRow.holds Try.pinned (OpenSpec.upto spansLawsSpec)

end Rows
end Go.Proofs.Ytfmnlpgboolpmaa
