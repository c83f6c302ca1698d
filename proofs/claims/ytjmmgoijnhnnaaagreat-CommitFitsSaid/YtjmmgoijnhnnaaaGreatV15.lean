/- Words for slices of structs: their cells as one flat list. -/
import Derived.Test.YtjmmgoijnhnnaaaGreatV14
namespace Go.Pol
open Go Go.RowKit
section
variable {α : Type} {enc : α → List Value} {sz : Nat}
theorem fl_snoc (a : List α) (x : α) : fl enc (a ++ [x]) = fl enc a ++ enc x := by simp [fl]
end
end Go.Pol
