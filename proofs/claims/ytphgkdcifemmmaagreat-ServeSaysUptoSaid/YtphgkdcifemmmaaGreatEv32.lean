/- Arguments as symbols. -/
import Derived.Test.YtphgkdcifemmmaaGreatEv31
namespace Go.Ev
open Go Go.RowKit
theorem okWide_one {P : Program} {w : World} {r : Reach} {base : Nat} {t : TypeId} {v : Value} (h : Cell.okWide P w r base t v) : oneCell v = true := by
  cases v <;> first
    | rfl
    | (unfold Cell.okWide at h
       split at h <;> first
         | (rename_i h1 h2; cases h2; done)
         | (rename_i h2; cases h2; done)
         | (unfold Cell.ok at h
            split at h <;> first
              | (rename_i h1 h2; cases h2; done)
              | (rename_i h2; cases h2; done)
              | (exact h.elim)))
abbrev syOf (cs : List Value) (h : ∀ x ∈ cs, oneCell x = true) : Sy := ⟨fun k => (cs[k]?).getD (.bool true), fun k => by
  cases hk : cs[k]? with
  | none => rfl
  | some v => exact h v (List.mem_of_getElem? hk)⟩
end Go.Ev
