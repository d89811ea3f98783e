/- Reports and tasks are put, and taken again, with what stands behind them left: of any report, any job and any three numbers, 'MasterTexts' answers true and leaves all as it was. No condition. -/
import Derived.Test.YtkkcknfeljgdcaaGreatRows
import Derived.Test.YtkkcknfeljgdcaaGreatC5
import Derived.ProofKit
import Derived.SizedLaws
namespace Go.Proofs.YtkkcknfeljgdcaaGreat.masterTexts
open Go.ChangeShapes Go.WideShapes Go.ChangeAt Go.RowKit Go.Ev Go.Proofs.Cx

theorem own : ownKnob Tryz.prog.godebug = none := by kernel_rfl
theorem laidOut : laidOutB Tryz.prog = true := by kernel_rfl
theorem names : (Tryz.prog.funcs.toList.all fun fn => !(fn.name == "runtime.NumGoroutine")) = true := by kernel_rfl
theorem awakeV : ansIs (fun v => clean v && veq 20 v (.bool true)) ((evalN (envOf Tryz.prog) 10000).call F_cohortlaw17_awake [] AH0) = true := by kernel_rfl
theorem rowsB : (Tryz.f3.params.toList.all fun t => Tryz.prog.readableRec t && decide (t < Tryz.prog.types.size)) = true := by kernel_rfl

section
variable {Hh : Type} {enc : TypeId × Value → Hh} {W : World}
set_option maxRecDepth 100000 in
theorem calls {vs : List Value} {ds : List (DataW Hh)} {p : List MemPlace} {base : Nat} (hA : DataW.TrodAll enc Tryz.prog W 0 (fun _ => true) true [T_api_Report, T_api_Job, T_3_int] vs ds p)
    (hv : ∀ (j : Nat) t v, [T_api_Report, T_api_Job, T_3_int][j]? = some t → vs[j]? = some v → Value.okWide Tryz.prog W .any base t v) (hw : (DataW.weightsEach Tryz.prog [T_api_Report, T_api_Job, T_3_int] ds).all (· ≤ reachBytes) = true) :
    Calls Tryz.prog 3 ⟨vs⟩ W fun e W' => e = .returned (.bool true) ∧ Below W.heap.size W W' := by
  letI : Sy := sy0
  have hm : Tryz.prog.follows .mixedOrders = true := Checked.mixed Tryz.checked
  have hS : Ee.sum = sum1 F_cohortlaw17_awake := rfl
  have hE : Ee.ext = .leaf := rfl
  have hg : Ee.g = 0 := rfl
  refine calls_row (E := Ee) (envW_ok hm (names_ok names) (fun e h => by cases h)) (noExtOk hE) (sum1_next hE hS) (sum1_ok hS (law_awake hm names awakeV)) hg
    (lay_aagg (t := T_api_Report) (by kernel_rfl) lay_report stable_rrep (lay_aagg (t := T_api_Job) (by kernel_rfl) lay_job stable_rj (lay_aarr (t := T_3_int) (n := 3) (e := T_int) (by kernel_rfl) lay_3i stable_3i lay_anil))) hA hv hw ?_
  rintro H _ x ok ⟨c1, c2, rfl, ⟨cs, rfl, h1⟩, c3, c4, rfl, ⟨ds, rfl, h2⟩, c5, c6, rfl, ⟨es, rfl, h3⟩, rfl⟩
  exact (law_texts_in ok rfl h1 h2 h3).mono fun _ _ h => h.1
end

set_option maxRecDepth 100000 in
theorem lifted (os : Os) (started : os.Started) (H : Type) (enc : TypeId × Value → H) :
    ReturnsInHanded {} Tryz.checked os 3 .any (Rows.masterTextsSpec.pre6 enc Tryz.prog Tryz.f3 Rows.masterTextsRow.domain false) (Rows.masterTextsSpec.post enc Tryz.prog Tryz.f3 false true false false) := by
  refine returnsInHanded_of_change_sized (C := Tryz.checked) own started (by kernel_rfl) Tryz.func3
    (ChangeSpec.witness6 (enc := enc) (C := Tryz.checked) false ⟨#[], #[.agg #[.int .i64 0, .int .i64 0, .int .i64 0, .int .i64 0, .int .i64 0, .int .i64 0, .int .i64 0, .int .i64 0, .int .i64 0, .bool false, .bool false, .bool false, .bool false, .bool false, .int .i64 0, .int .i64 0, .int .i64 0, .int .i64 0, .int .i64 0, .slice none 0 0], .agg #[.string ⟨#[]⟩, .slice none 0 0, .slice none 0 0, .int .i64 0, .int .i64 0, .int .i64 0], .agg #[.int .i64 0, .int .i64 0, .int .i64 0]], []⟩ 8 (by kernel_rfl) (by kernel_rfl) (by kernel_rfl) (by kernel_rfl)) ?_
  intro W base args ds gs before hval0 hW hcnd hwt _
  have hval : ∀ (j : Nat) t v, Tryz.f3.params[j]? = some t → args[j]? = some v → Value.okWide Tryz.prog W .any base t v := hval0
  have hW' := hW
  obtain ⟨p, q, hA0, hV, rfl, hfz, hnd⟩ := hW
  obtain ⟨rfl, rfl⟩ := trodVars_none hV
  have hA : DataW.TrodAll enc Tryz.prog W 0 (fun _ => true) true Tryz.f3.params.toList args.toList ds p := hA0
  have hw : (DataW.weightsEach Tryz.prog Tryz.f3.params.toList ds).all (· ≤ reachBytes) = true := by
    have h : (DataW.weightsEach Tryz.prog (Tryz.f3.params.toList ++ []) (ds ++ [])).all (· ≤ reachBytes) = true := hwt
    rw [List.append_nil, List.append_nil] at h; exact h
  rw [Tryz.params3] at hA hval hw
  obtain ⟨vs⟩ := args
  obtain ⟨v0, v1, v2, d0, d1, d2, p0, p1, p2, _, rfl, _⟩ := trodAll_three hA
  refine Calls.mono (calls hA (fun j t v h1 h2 => hval j t v (by simpa using h1) (by simpa using h2)) hw) ?_
  rintro e W' ⟨rfl, hb⟩
  refine ⟨_, rfl, law_post (tb := Tryz.f3.resultTypes.getD 0 0) hW' rfl laidOut ?_ ⟨rfl, rfl, rfl⟩ (by kernel_rfl) (by kernel_rfl) hb⟩
  intro t ht
  have := List.all_eq_true.1 rowsB t ht
  simp only [Bool.and_eq_true, decide_eq_true_eq] at this
  exact this

theorem proved : Rows.MasterTextsSaid :=
  OpenClaim.holds_of_wide 3 Tryz.f3 rfl rfl rfl rfl rfl rfl rfl ⟨rfl, rfl, rfl, rfl, rfl⟩ rfl rfl rfl rfl rfl (by kernel_rfl) Tryz.func3 (by kernel_rfl)
    (of_decide_eq_true (by kernel_rfl)) (by unfold Func.isWrapper; first | (rw [if_pos (by decide +kernel)]; kernel_rfl) | (rw [if_neg (by decide +kernel)]; exact ⟨rfl, rfl⟩))
    (fun os started H enc _ => lifted os started H enc)

end Go.Proofs.YtkkcknfeljgdcaaGreat.masterTexts
