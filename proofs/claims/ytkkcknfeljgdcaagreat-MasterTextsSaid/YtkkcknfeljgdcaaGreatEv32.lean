/- Arguments as symbols. -/
import Derived.Test.YtkkcknfeljgdcaaGreatEv31
namespace Go.Ev
open Go Go.RowKit

/-- symbols for a list of cells -/
abbrev syOf (cs : List Value) (h : ∀ x ∈ cs, oneCell x = true) : Sy := ⟨fun k => (cs[k]?).getD (.bool true), fun k => by
  cases hk : cs[k]? with
  | none => rfl
  | some v => exact h v (List.mem_of_getElem? hk)⟩

end Go.Ev
