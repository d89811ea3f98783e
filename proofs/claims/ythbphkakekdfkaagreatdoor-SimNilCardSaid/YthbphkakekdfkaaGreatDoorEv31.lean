/- Calls with symbols; comparisons of integers. -/
import Derived.Test.YthbphkakekdfkaaGreatDoorEv30
namespace Go.Ev
open Go Go.RowKit
section
variable {E : Env} {P : Program}
theorem VRs.syms [Sy] {ρ : Ren} : ∀ {l : List Value}, l.all leafyS = true → VRs ρ l (l.map sub)
  | [], _ => .nil
  | v :: l, h => by
    simp only [List.all_cons, Bool.and_eq_true] at h
    exact .cons (sub_VR h.1) (VRs.syms h.2)
theorem calls_sym [Sy] (hE : EnvOk E P) (hX : ExtOk E P) (hN : ExtNext E) (hS : SumOk E P) (hg : E.g = 0) {n : Nat} {f : FuncId} {args args' : List Value} (ha : VRs nowhere args args') (u : Value)
    (e : ansIs (fun v => clean v && veq 20 v u) ((evalN E n).call f args AH0) = true) (w : World) :
    Calls P f ⟨args'⟩ w fun e w' => e = .returned u ∧ Below w.heap.size w w' := by
  cases hc : (evalN E n).call f args AH0 with
  | none => rw [hc] at e; cases e
  | some vH =>
    obtain ⟨v, H'⟩ := vH
    rw [hc] at e
    simp only [ansIs, Bool.and_eq_true] at e
    refine Calls.mono' (calls_of hE hX hN hS hg ha hc w) ?_
    rintro e' w' ⟨ρ', v', rfl, hp, hv⟩
    have h1 := clean_eq hv e.1
    have h2 := veq_eq 20 e.2
    rw [h1, h2]
    exact ⟨rfl, hp.below (Nat.le_refl _) (fun c _ b p o h => by cases h)⟩
end
section
variable {E : Env} {t : TypeId} {k : IntKind} {a b : Int}
end
end Go.Ev
