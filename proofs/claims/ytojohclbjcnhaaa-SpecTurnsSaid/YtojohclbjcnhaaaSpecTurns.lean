/- Ranks and labels behind so many turns: of any graph and any number, 'SpecTurns' answers true and leaves all as it was. No condition. -/
import Derived.Test.YtojohclbjcnhaaaRows
import Derived.Test.YtojohclbjcnhaaaC8
import Derived.Test.YtojohclbjcnhaaaSpecSort
import Derived.ProofKit
import Derived.SizedLaws
namespace Go.Proofs.Ytojohclbjcnhaaa.specTurns
open Go.ChangeShapes Go.WideShapes Go.ChangeAt Go.RowKit Go.Ev Go.Proofs.Cx

theorem rowsB : (Try.f5.params.toList.all fun t => Try.prog.readableRec t && decide (t < Try.prog.types.size)) = true := by kernel_rfl

section
variable {Hh : Type} {enc : TypeId × Value → Hh} {W : World}
set_option maxRecDepth 100000 in
theorem calls {vs : List Value} {ds : List (DataW Hh)} {p : List MemPlace} {base : Nat} (hA : DataW.TrodAll enc Try.prog W 0 (fun _ => true) true [T_api_Graph, T_int] vs ds p)
    (hv : ∀ (j : Nat) t v, [T_api_Graph, T_int][j]? = some t → vs[j]? = some v → Value.okWide Try.prog W .any base t v) (hw : (DataW.weightsEach Try.prog [T_api_Graph, T_int] ds).all (· ≤ reachBytes) = true) :
    Calls Try.prog 5 ⟨vs⟩ W fun e W' => e = .returned (.bool true) ∧ Below W.heap.size W W' := by
  letI : Sy := sy0
  have hns : ∀ fs n e, Try.prog.underlying T_int ≠ some (.struct fs) ∧ Try.prog.underlying T_int ≠ some (.array n e) := by
    have h : Try.prog.underlying T_int = some (.int .i64) := by kernel_rfl
    intro fs n e
    rw [h]
    exact ⟨fun h => (by cases h), fun h => (by cases h)⟩
  refine calls_row (E := Ee) seat_env (noExtOk rfl) seat_next seat_sum seat_g
    (lay_aagg (t := T_api_Graph) (by kernel_rfl) lay_graph stable_rg (lay_acons (lay_int (k := .i64) (by kernel_rfl)) (stable_int (k := .i64)) hns lay_anil)) hA hv hw ?_
  rintro H _ x ok ⟨c1, c2, rfl, ⟨c3, rfl, c5, c6, rfl, ⟨a, l, c, rfl, hG, hb⟩, rfl⟩, c7, c8, rfl, ⟨rfl, _⟩, rfl⟩
  obtain ⟨h1, h2⟩ := graph_in ok hG hb
  exact (law_turns (c := c) ok h1 h2 (fun b h => h) _).mono fun _ _ h => h.1
end

set_option maxRecDepth 100000 in
theorem lifted (os : Os) (started : os.Started) (H : Type) (enc : TypeId × Value → H) :
    ReturnsInHanded {} Try.checked os 5 .any (Rows.specTurnsSpec.pre6 enc Try.prog Try.f5 Rows.specTurnsRow.domain false) (Rows.specTurnsSpec.post enc Try.prog Try.f5 false true false false) := by
  refine returnsInHanded_of_change_sized (C := Try.checked) seat_own started (by kernel_rfl) Try.func5
    (ChangeSpec.witness6 (enc := enc) (C := Try.checked) false ⟨#[], #[.agg #[.slice none 0 0], .int .i64 0], []⟩ 8 (by kernel_rfl) (by kernel_rfl) (by kernel_rfl) (by kernel_rfl)) ?_
  intro W base args ds gs before hval0 hW hcnd hwt _
  have hval : ∀ (j : Nat) t v, Try.f5.params[j]? = some t → args[j]? = some v → Value.okWide Try.prog W .any base t v := hval0
  have hW' := hW
  obtain ⟨p, q, hA0, hV, rfl, hfz, hnd⟩ := hW
  obtain ⟨rfl, rfl⟩ := trodVars_none hV
  have hA : DataW.TrodAll enc Try.prog W 0 (fun _ => true) true Try.f5.params.toList args.toList ds p := hA0
  have hw : (DataW.weightsEach Try.prog Try.f5.params.toList ds).all (· ≤ reachBytes) = true := by
    have h : (DataW.weightsEach Try.prog (Try.f5.params.toList ++ []) (ds ++ [])).all (· ≤ reachBytes) = true := hwt
    rw [List.append_nil, List.append_nil] at h; exact h
  rw [Try.params5] at hA hval hw
  obtain ⟨vs⟩ := args
  obtain ⟨v0, v1, d0, d1, p0, p1, _, rfl, _⟩ := trodAll_two hA
  refine Calls.mono (calls hA (fun j t v h1 h2 => hval j t v (by simpa using h1) (by simpa using h2)) hw) ?_
  rintro e W' ⟨rfl, hb⟩
  refine ⟨_, rfl, law_post (tb := Try.f5.resultTypes.getD 0 0) hW' rfl seat_laid ?_ ⟨rfl, rfl, rfl⟩ (by kernel_rfl) (by kernel_rfl) hb⟩
  intro t ht
  have := List.all_eq_true.1 rowsB t ht
  simp only [Bool.and_eq_true, decide_eq_true_eq] at this
  exact this

theorem proved : Rows.SpecTurnsSaid :=
  OpenClaim.holds_of_wide 5 Try.f5 rfl rfl rfl rfl rfl rfl rfl ⟨rfl, rfl, rfl, rfl, rfl⟩ rfl rfl rfl rfl rfl (by kernel_rfl) Try.func5 (by kernel_rfl)
    (of_decide_eq_true (by kernel_rfl)) (by unfold Func.isWrapper; first | (rw [if_pos (by decide +kernel)]; kernel_rfl) | (rw [if_neg (by decide +kernel)]; exact ⟨rfl, rfl⟩))
    (fun os started H enc _ => lifted os started H enc)

end Go.Proofs.Ytojohclbjcnhaaa.specTurns
