/- What the evaluator answers, a call answers. -/
import Derived.Test.YthbphkakekdfkaaGreatDoorEv27
namespace Go.Ev
open Go Go.RowKit
section
variable {E : Env} {P : Program} {ρ ρ' : Ren} {w w' : World} {H H' : AH}
theorem leafy_eq [Sy] {v v' : Value} (h : VR ρ v v') (hl : leafy v = true) : v' = v := by
  cases h <;> first
    | rfl
    | (simp [leafy] at hl; done)
    | skip
  rename_i fn fs fs' cs cs' hn hf hc
  cases fn <;> simp [leafy] at hl
  obtain ⟨rfl, rfl⟩ := hl
  cases hf; cases hc; rfl
theorem leafys_eq [Sy] : ∀ {l l' : List Value}, VRs ρ l l' → l.all leafy = true → l' = l
  | [], _, .nil, _ => rfl
  | v :: l, _, .cons h t, hl => by
    simp only [List.all_cons, Bool.and_eq_true] at hl
    rw [leafy_eq h hl.1, leafys_eq t hl.2]
theorem clean_eq [Sy] {v v' : Value} (h : VR ρ v v') (hl : clean v = true) : v' = v := by
  unfold clean at hl
  split at hl
  · cases h with | agg h => rw [leafys_eq h hl]
  · cases h with | tuple h => rw [leafys_eq h hl]
  · exact leafy_eq h hl
theorem envOf_ok [Sy] (hm : P.follows .mixedOrders = true) (hn : ∀ (f : Nat) (fn : Func), P.funcs[f]? = some fn → (fn.name == "runtime.NumGoroutine") = false) : EnvOk (envOf P) P where
  fn := fun f fn h => by
    simp only [envOf, Tr.get_ofList, Nat.zero_le, if_true, Nat.sub_zero] at h
    simpa using h
  name := fun f fn h => by
    simp only [envOf, Tr.get_ofList, Nat.zero_le, if_true, Nat.sub_zero] at h
    exact hn f fn (by simpa using h)
  ty := fun t i h => by
    simp only [envOf, Tr.get_ofListO, Nat.zero_le, if_true, Nat.sub_zero] at h
    rw [List.getElem?_map] at h
    cases hr : (List.range P.types.size)[t]? with
    | none => rw [hr] at h; simp at h
    | some t' =>
      have htt : t' = t := by
        have := List.getElem?_range (n := P.types.size) (i := t)
        by_cases hlt : t < P.types.size
        · rw [List.getElem?_range hlt] at hr; simpa using hr.symm
        · rw [List.getElem?_eq_none (by simpa using hlt)] at hr; cases hr
      subst htt
      rw [hr] at h
      simp only [Option.map_some, Option.join_some] at h
      split at h
      · rename_i inf u h1 h2
        cases h
        exact ⟨inf, h1, h2, rfl⟩
      · cases h
  mixed := hm
  orc := fun op u v r e => by
    exfalso
    unfold orcv at e
    split at e <;> simp [envOf, orcFind] at e
theorem noExtOk [Sy] (h : E.ext = .leaf) : ExtOk E P := fun f g e => by rw [h] at e; simp [Tr.get] at e
theorem noExtNext (h : E.ext = .leaf) (hs : E.sum = .leaf) : ExtNext E := ⟨fun f g e => by rw [h] at e; simp [Tr.get] at e, fun f g e => by rw [hs] at e; simp [Tr.get] at e⟩
theorem noSumOk [Sy] (h : E.sum = .leaf) : SumOk E P := fun f g e => by rw [h] at e; simp [Tr.get] at e
theorem names_ok (h : (P.funcs.toList.all fun fn => !(fn.name == "runtime.NumGoroutine")) = true) : ∀ (f : Nat) (fn : Func), P.funcs[f]? = some fn → (fn.name == "runtime.NumGoroutine") = false := by
  intro f fn hf
  have hmem : fn ∈ P.funcs.toList := by
    have : P.funcs.toList[f]? = some fn := by simpa using hf
    exact List.mem_of_getElem? this
  have := List.all_eq_true.1 h fn hmem
  simpa using this
def nowhere : Ren := fun _ => none
def AH0 : AH := ⟨0, .leaf⟩
theorem rel0 [Sy] : Rel nowhere AH0 w := ⟨fun _ _ _ h => (by cases h), fun _ _ _ _ _ _ h => (by cases h), fun _ _ => rfl⟩
theorem calls_of [Sy] (hE : EnvOk E P) (hX : ExtOk E P) (hN : ExtNext E) (hS : SumOk E P) (hg : E.g = 0) {n : Nat} {f : FuncId} {args args' : List Value} {v : Value} (ha : VRs nowhere args args')
    (e : (evalN E n).call f args AH0 = some (v, H')) (w : World) :
    Calls P f ⟨args'⟩ w fun e w' => ∃ ρ' v', e = .returned v' ∧ Post nowhere AH0 w ρ' H' w' ∧ VR ρ' v v' :=
  (evalN_sound hE hX hN hS n).1.call f args AH0 v H' e nowhere w args' rel0 (fun k hk => by rw [hg] at hk; omega) ha (fun _ _ _ => rfl)
theorem Calls.mono' {f : FuncId} {args : Array Value} {R R' : Ending → World → Prop} (h : Calls P f args w R) (hr : ∀ e w', R e w' → R' e w') : Calls P f args w R' := fun cs =>
  let ⟨e, w', fr, a, b, c⟩ := h cs
  ⟨e, w', fr, hr e w' a, b, c⟩
def ansIs (b : Value → Bool) : Option (Value × AH) → Bool
  | some (v, _) => b v
  | none => false
end
end Go.Ev
