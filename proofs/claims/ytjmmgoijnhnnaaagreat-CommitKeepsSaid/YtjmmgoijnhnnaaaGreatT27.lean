/- Plain law of layer 12 (commit): what the kinds of the pages of a range are; what a change makes of them, and of how many are committed. -/
import Derived.Test.YtjmmgoijnhnnaaaGreatT26
namespace Go.Pol
open Go Go.RowKit
theorem bec_refused {V : Vm} {a n : Int} {call : Nat} {fr tk : Int} (h1 : 0 ≤ a) (h2 : 1 ≤ n) (h3 : a + n ≤ 1024) (hk : ∀ p : Nat, a ≤ p → (p : Int) < a + n → kd V p = fr ∧ (V.pg p).huge = false) (he : (bec V a n call fr tk).1 ≠ 0) : refB V.rf call = true := by
 cases h : refB V.rf call with
 | true => rfl
 | false => exact absurd (bec_go h1 h2 h3 hk h) he
end Go.Pol
