/- Jobs that may be are told as bytes, and read again; any bytes are a job, or refused with the first error: of any job and any text, 'RunJobs' answers true and leaves all as it was. No condition. -/
import Derived.Test.YtkegomailfhnpaaGreatRows
import Derived.Test.YtkegomailfhnpaaGreatC8
import Derived.ProofKit
import Derived.SizedLaws
namespace Go.Proofs.YtkegomailfhnpaaGreat.runJobs
open Go.ChangeShapes Go.WideShapes Go.ChangeAt Go.RowKit Go.Ev Go.Proofs.Cx

theorem own : ownKnob Tryz.prog.godebug = none := by kernel_rfl
theorem laidOut : laidOutB Tryz.prog = true := by kernel_rfl
theorem names : (Tryz.prog.funcs.toList.all fun fn => !(fn.name == "runtime.NumGoroutine")) = true := by kernel_rfl
theorem awakeV : ansIs (fun v => clean v && veq 20 v (.bool true)) ((evalN (envOf Tryz.prog) 10000).call F_cohortlaw09_awake [] AH0) = true := by kernel_rfl
theorem rowsB : (Tryz.f4.params.toList.all fun t => Tryz.prog.readableRec t && decide (t < Tryz.prog.types.size)) = true := by kernel_rfl

section
variable {Hh : Type} {enc : TypeId × Value → Hh} {W : World}
set_option maxRecDepth 100000 in
theorem calls {vs : List Value} {ds : List (DataW Hh)} {p : List MemPlace} {base : Nat} (hA : DataW.TrodAll enc Tryz.prog W 0 (fun _ => true) true [T_api_Job, T_string] vs ds p)
    (hv : ∀ (j : Nat) t v, [T_api_Job, T_string][j]? = some t → vs[j]? = some v → Value.okWide Tryz.prog W .any base t v) (hw : (DataW.weightsEach Tryz.prog [T_api_Job, T_string] ds).all (· ≤ reachBytes) = true) :
    Calls Tryz.prog 4 ⟨vs⟩ W fun e W' => e = .returned (.bool true) ∧ Below W.heap.size W W' := by
  letI : Sy := sy0
  have hns : ∀ fs n e, Tryz.prog.underlying T_string ≠ some (.struct fs) ∧ Tryz.prog.underlying T_string ≠ some (.array n e) := by
    have h : Tryz.prog.underlying T_string = some .string := by kernel_rfl
    intro fs n e
    rw [h]
    exact ⟨fun h => (by cases h), fun h => (by cases h)⟩
  have hm : Tryz.prog.follows .mixedOrders = true := Checked.mixed Tryz.checked
  have hS : Ee.sum = sum1 F_cohortlaw09_awake := rfl
  have hE : Ee.ext = .leaf := rfl
  have hg : Ee.g = 0 := rfl
  refine calls_row (E := Ee) (envW_ok hm (names_ok names) (fun e h => by cases h)) (noExtOk hE) (sum1_next hE hS) (sum1_ok hS (law_awake hm names awakeV)) hg
    (lay_aagg (t := T_api_Job) (by kernel_rfl) lay_job stable_rj (lay_acons (lay_str (by kernel_rfl)) stable_str hns lay_anil)) hA hv hw ?_
  rintro H _ x ok ⟨c1, c2, rfl, ⟨cs, rfl, hJ⟩, c7, c8, rfl, ⟨rfl, hs⟩, rfl⟩
  exact (law_in ok rfl hJ hs).mono fun _ _ h => h.1
end

set_option maxRecDepth 100000 in
theorem lifted (os : Os) (started : os.Started) (H : Type) (enc : TypeId × Value → H) :
    ReturnsInHanded {} Tryz.checked os 4 .any (Rows.runJobsSpec.pre6 enc Tryz.prog Tryz.f4 Rows.runJobsRow.domain false) (Rows.runJobsSpec.post enc Tryz.prog Tryz.f4 false true false false) := by
  refine returnsInHanded_of_change_sized (C := Tryz.checked) own started (by kernel_rfl) Tryz.func4
    (ChangeSpec.witness6 (enc := enc) (C := Tryz.checked) false ⟨#[], #[.agg #[.string ⟨#[]⟩, .slice none 0 0, .slice none 0 0, .int .i64 0, .int .i64 0, .int .i64 0], .string ⟨#[]⟩], []⟩ 8 (by kernel_rfl) (by kernel_rfl) (by kernel_rfl) (by kernel_rfl)) ?_
  intro W base args ds gs before hval0 hW hcnd hwt _
  have hval : ∀ (j : Nat) t v, Tryz.f4.params[j]? = some t → args[j]? = some v → Value.okWide Tryz.prog W .any base t v := hval0
  have hW' := hW
  obtain ⟨p, q, hA0, hV, rfl, hfz, hnd⟩ := hW
  obtain ⟨rfl, rfl⟩ := trodVars_none hV
  have hA : DataW.TrodAll enc Tryz.prog W 0 (fun _ => true) true Tryz.f4.params.toList args.toList ds p := hA0
  have hw : (DataW.weightsEach Tryz.prog Tryz.f4.params.toList ds).all (· ≤ reachBytes) = true := by
    have h : (DataW.weightsEach Tryz.prog (Tryz.f4.params.toList ++ []) (ds ++ [])).all (· ≤ reachBytes) = true := hwt
    rw [List.append_nil, List.append_nil] at h; exact h
  rw [Tryz.params4] at hA hval hw
  obtain ⟨vs⟩ := args
  obtain ⟨v0, v1, d0, d1, p0, p1, _, rfl, _⟩ := trodAll_two hA
  refine Calls.mono (calls hA (fun j t v h1 h2 => hval j t v (by simpa using h1) (by simpa using h2)) hw) ?_
  rintro e W' ⟨rfl, hb⟩
  refine ⟨_, rfl, law_post (tb := Tryz.f4.resultTypes.getD 0 0) hW' rfl laidOut ?_ ⟨rfl, rfl, rfl⟩ (by kernel_rfl) (by kernel_rfl) hb⟩
  intro t ht
  have := List.all_eq_true.1 rowsB t ht
  simp only [Bool.and_eq_true, decide_eq_true_eq] at this
  exact this

theorem proved : Rows.RunJobsSaid :=
  OpenClaim.holds_of_wide 4 Tryz.f4 rfl rfl rfl rfl rfl rfl rfl ⟨rfl, rfl, rfl, rfl, rfl⟩ rfl rfl rfl rfl rfl (by kernel_rfl) Tryz.func4 (by kernel_rfl)
    (of_decide_eq_true (by kernel_rfl)) (by unfold Func.isWrapper; first | (rw [if_pos (by decide +kernel)]; kernel_rfl) | (rw [if_neg (by decide +kernel)]; exact ⟨rfl, rfl⟩))
    (fun os started H enc _ => lifted os started H enc)

end Go.Proofs.YtkegomailfhnpaaGreat.runJobs
