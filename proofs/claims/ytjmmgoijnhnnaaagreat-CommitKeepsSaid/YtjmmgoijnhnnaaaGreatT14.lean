/- Words for memory that all walks of this seat share: a slice that reads as a list of integers or of structs of integers; how such readings are carried into worlds that have grown. -/
import Derived.Below
import Derived.Laws.OwnMore
import Derived.Laws.MakeOwn
import Derived.Laws.CopyOwn
import Derived.Deep.RegionLaw
import Derived.Deep.AppendLies
import Derived.Deep.Draws
import Derived.Deep.QuietTactic
import Derived.BigQuiet
import Derived.Lib.Hide
import Derived.WalkKit
import Derived.WalkSpells
import Derived.WalkLawsBesides
import Derived.Maps.AppendAt
import Derived.StillTailTactics
import Derived.Deep.RegionHeld3
import Derived.Deep.DeepCutAuto
import Derived.Deep.DeepFit
import Derived.ChangeSame
import Derived.Deep.Slices
import Derived.Deep.Fields
import Derived.Lib.SmallJoins
import Derived.OpenShut
import Derived.ProofKit
import Derived.OpenVars
import Derived.JoinedOf
import Derived.Test.YtjmmgoijnhnnaaaGreatT13
namespace Go.Pol
open Go Go.RowKit
theorem mul_abs (a d : Int) (s t : Nat) (ha : -s ≤ a ∧ a ≤ s) (hd : -t ≤ d ∧ d ≤ t) : -((s * t : Nat) : Int) ≤ a * d ∧ a * d ≤ ((s * t : Nat) : Int) := by
 have h : (a * d).natAbs ≤ s * t := by rw [Int.natAbs_mul]; exact Nat.mul_le_mul (by omega) (by omega)
 omega
theorem mul_wrap64 (a d : Int) (ha : -10000 ≤ a ∧ a ≤ 10000) (hd : -10000 ≤ d ∧ d ≤ 10000) : wrap64 (a * d) = a * d := by
 have := mul_abs a d 10000 10000 (by omega) (by omega)
 exact IntWalk.wrap64_in _ (by omega)
end Go.Pol
