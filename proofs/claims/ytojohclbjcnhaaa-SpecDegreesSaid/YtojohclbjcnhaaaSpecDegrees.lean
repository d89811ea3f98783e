/- The degrees as the document says: of any input, 'SpecDegrees' answers true and leaves all as it was. No condition. -/
import Derived.Test.YtojohclbjcnhaaaRows
import Derived.Test.YtojohclbjcnhaaaC2
import Derived.ProofKit
import Derived.SizedLaws
namespace Go.Proofs.Ytojohclbjcnhaaa.specDegrees
open Go.ChangeShapes Go.WideShapes Go.ChangeAt Go.RowKit Go.Ev Go.Proofs.Cx

theorem own : ownKnob Try.prog.godebug = none := by kernel_rfl
theorem laidOut : laidOutB Try.prog = true := by kernel_rfl
theorem names : (Try.prog.funcs.toList.all fun fn => !(fn.name == "runtime.NumGoroutine")) = true := by kernel_rfl
theorem awakeV : ansIs (fun v => clean v && veq 20 v (.bool true)) ((evalN (envOf Try.prog) 5000).call F_cohortlaw10_awake [] AH0) = true := by kernel_rfl
theorem rowsB : (Try.f3.params.toList.all fun t => Try.prog.readableRec t && decide (t < Try.prog.types.size)) = true := by kernel_rfl

section
variable {Hh : Type} {enc : TypeId × Value → Hh} {W : World}
set_option maxRecDepth 100000 in
theorem calls {vs : List Value} {ds : List (DataW Hh)} {p : List MemPlace} {base : Nat} (hA : DataW.TrodAll enc Try.prog W 0 (fun _ => true) true [T_api_Graph] vs ds p)
    (hv : ∀ (j : Nat) t v, [T_api_Graph][j]? = some t → vs[j]? = some v → Value.okWide Try.prog W .any base t v) (hw : (DataW.weightsEach Try.prog [T_api_Graph] ds).all (· ≤ reachBytes) = true) :
    Calls Try.prog 3 ⟨vs⟩ W fun e W' => e = .returned (.bool true) ∧ Below W.heap.size W W' := by
  letI : Sy := sy0
  have hm : Try.prog.follows .mixedOrders = true := Checked.mixed Try.checked
  have hS : Ee.sum = sum1 F_cohortlaw10_awake := rfl
  have hE : Ee.ext = .leaf := rfl
  have hg : Ee.g = 0 := rfl
  refine calls_row (E := Ee) (envW_ok hm (names_ok names) (fun e h => by cases h)) (noExtOk hE) (sum1_next hE hS) (sum1_ok hS (law_awake hm names awakeV)) hg
    (lay_aagg (t := T_api_Graph) (by kernel_rfl) lay_graph stable_rg lay_anil) hA hv hw ?_
  rintro H _ x ok ⟨c1, c2, rfl, ⟨c3, rfl, c5, c6, rfl, ⟨a, l, c, rfl, hG, hb⟩, rfl⟩, rfl⟩
  obtain ⟨h1, h2⟩ := graph_in ok hG hb
  exact (law_degrees (c := c) ok h1 h2 (fun b h => h)).mono fun _ _ h => h.1
end

set_option maxRecDepth 100000 in
theorem lifted (os : Os) (started : os.Started) (H : Type) (enc : TypeId × Value → H) :
    ReturnsInHanded {} Try.checked os 3 .any (Rows.specDegreesSpec.pre6 enc Try.prog Try.f3 Rows.specDegreesRow.domain false) (Rows.specDegreesSpec.post enc Try.prog Try.f3 false true false false) := by
  refine returnsInHanded_of_change_sized (C := Try.checked) own started (by kernel_rfl) Try.func3
    (ChangeSpec.witness6 (enc := enc) (C := Try.checked) false ⟨#[], #[.agg #[.slice none 0 0]], []⟩ 8 (by kernel_rfl) (by kernel_rfl) (by kernel_rfl) (by kernel_rfl)) ?_
  intro W base args ds gs before hval0 hW hcnd hwt _
  have hval : ∀ (j : Nat) t v, Try.f3.params[j]? = some t → args[j]? = some v → Value.okWide Try.prog W .any base t v := hval0
  have hW' := hW
  obtain ⟨p, q, hA0, hV, rfl, hfz, hnd⟩ := hW
  obtain ⟨rfl, rfl⟩ := trodVars_none hV
  have hA : DataW.TrodAll enc Try.prog W 0 (fun _ => true) true Try.f3.params.toList args.toList ds p := hA0
  have hw : (DataW.weightsEach Try.prog Try.f3.params.toList ds).all (· ≤ reachBytes) = true := by
    have h : (DataW.weightsEach Try.prog (Try.f3.params.toList ++ []) (ds ++ [])).all (· ≤ reachBytes) = true := hwt
    rw [List.append_nil, List.append_nil] at h; exact h
  rw [Try.params3] at hA hval hw
  obtain ⟨vs⟩ := args
  obtain ⟨v0, d0, _, rfl, _⟩ := trodAll_one hA
  refine Calls.mono (calls hA (fun j t v h1 h2 => hval j t v (by simpa using h1) (by simpa using h2)) hw) ?_
  rintro e W' ⟨rfl, hb⟩
  refine ⟨_, rfl, law_post (tb := Try.f3.resultTypes.getD 0 0) hW' rfl laidOut ?_ ⟨rfl, rfl, rfl⟩ (by kernel_rfl) (by kernel_rfl) hb⟩
  intro t ht
  have := List.all_eq_true.1 rowsB t ht
  simp only [Bool.and_eq_true, decide_eq_true_eq] at this
  exact this

theorem proved : Rows.SpecDegreesSaid :=
  OpenClaim.holds_of_wide 3 Try.f3 rfl rfl rfl rfl rfl rfl rfl ⟨rfl, rfl, rfl, rfl, rfl⟩ rfl rfl rfl rfl rfl (by kernel_rfl) Try.func3 (by kernel_rfl)
    (of_decide_eq_true (by kernel_rfl)) (by unfold Func.isWrapper; first | (rw [if_pos (by decide +kernel)]; kernel_rfl) | (rw [if_neg (by decide +kernel)]; exact ⟨rfl, rfl⟩))
    (fun os started H enc _ => lifted os started H enc)

end Go.Proofs.Ytojohclbjcnhaaa.specDegrees
