/- Arguments as symbols. -/
import Derived.Test.YthbphkakekdfkaaGreatDoorEv31
namespace Go.Ev
open Go Go.RowKit
theorem okWide_one {P : Program} {w : World} {r : Reach} {base : Nat} {t : TypeId} {v : Value} (h : Cell.okWide P w r base t v) : oneCell v = true := by
  cases v <;> first
    | rfl
    | (unfold Cell.okWide at h
       split at h <;> first
         | (rename_i h1 h2; cases h2; done)
         | (rename_i h2; cases h2; done)
         | (unfold Cell.ok at h
            split at h <;> first
              | (rename_i h1 h2; cases h2; done)
              | (rename_i h2; cases h2; done)
              | (exact h.elim)))
theorem okWide_struct {P : Program} {w : World} {r : Reach} {base : Nat} {t : TypeId} {v : Value} {fs : Array Field} (ht : P.underlying t = some (.struct fs)) (h : Value.okWide P w r base t v) :
    ∃ cs : List Value, v = .agg ⟨cs⟩ ∧ cs.length = P.cellsOf t ∧ ∀ x ∈ cs, oneCell x = true := by
  unfold Value.okWide at h
  rw [ht] at h
  obtain ⟨cs, rfl, h1, ts, h2, h3, h4⟩ := h
  refine ⟨cs.toList, rfl, by simpa using h1, ?_⟩
  intro x hx
  obtain ⟨i, hi, rfl⟩ := List.mem_iff_getElem.1 hx
  obtain ⟨u, _, g⟩ := h4 i _ (by rw [← Array.getElem?_toList]; exact List.getElem?_eq_getElem hi)
  exact okWide_one g
abbrev syOf (cs : List Value) (h : ∀ x ∈ cs, oneCell x = true) : Sy := ⟨fun k => (cs[k]?).getD (.bool true), fun k => by
  cases hk : cs[k]? with
  | none => rfl
  | some v => exact h v (List.mem_of_getElem? hk)⟩
def syms (k : Nat) : Nat → List Value
  | 0 => []
  | n + 1 => .chan (some k) :: syms (k + 1) n
theorem syms_VR {cs : List Value} {h : ∀ x ∈ cs, oneCell x = true} {ρ : Ren} : ∀ (l : List Value) (k : Nat), cs.drop k = l → @VRs (syOf cs h) ρ (syms k l.length) l
  | [], k, _ => @VRs.nil (syOf cs h) ρ
  | v :: l, k, hd => by
    have hk : cs[k]? = some v := by
      have := congrArg (·[0]?) hd
      simpa using this
    have h1 : @VR (syOf cs h) ρ (.chan (some k)) v := by
      have := @VR.sym (syOf cs h) ρ k
      have hv : @Sy.val (syOf cs h) k = v := by
        show (cs[k]?).getD (.bool true) = v
        rw [hk]; rfl
      rw [hv] at this
      exact this
    have h2 := syms_VR (h := h) (ρ := ρ) l (k + 1) (by rw [← List.drop_drop, hd]; rfl)
    exact @VRs.cons (syOf cs h) ρ _ _ _ _ h1 h2
theorem struct_VR {cs : List Value} {h : ∀ x ∈ cs, oneCell x = true} {n : Nat} (hn : cs.length = n) : @VRs (syOf cs h) nowhere [.agg ⟨syms 0 n⟩] [.agg ⟨cs⟩] := by
  have := syms_VR (h := h) (ρ := nowhere) cs 0 (by simp)
  rw [hn] at this
  exact @VRs.cons (syOf cs h) nowhere _ _ _ _ (@VR.agg (syOf cs h) nowhere _ _ this) (@VRs.nil (syOf cs h) nowhere)
end Go.Ev
