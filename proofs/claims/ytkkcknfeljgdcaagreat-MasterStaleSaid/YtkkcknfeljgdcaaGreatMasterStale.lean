/- Reports of another job, epoch, superstep or phase, of workers that have no partition, and of such that have reported, change nothing: of any job, any report and any number, 'MasterStale' answers true and leaves all as it was. No condition. -/
import Derived.Test.YtkkcknfeljgdcaaGreatRows
import Derived.Test.YtkkcknfeljgdcaaGreatC9
import Derived.Test.YtkkcknfeljgdcaaGreatKeys
import Derived.ProofKit
import Derived.SizedLaws
namespace Go.Proofs.YtkkcknfeljgdcaaGreat.masterStale
open Go.ChangeShapes Go.WideShapes Go.ChangeAt Go.RowKit Go.Ev Go.Proofs.Cx

theorem own : ownKnob Tryz.prog.godebug = none := by kernel_rfl
theorem laidOut : laidOutB Tryz.prog = true := by kernel_rfl
theorem names : (Tryz.prog.funcs.toList.all fun fn => !(fn.name == "runtime.NumGoroutine")) = true := by kernel_rfl
theorem awakeV : ansIs (fun v => clean v && veq 20 v (.bool true)) ((evalN (envOf Tryz.prog) 10000).call F_cohortlaw17_awake [] AH0) = true := by kernel_rfl
theorem rowsB : (Tryz.f7.params.toList.all fun t => Tryz.prog.readableRec t && decide (t < Tryz.prog.types.size)) = true := by kernel_rfl
theorem assigns123 : ((List.range 16).all fun p => assignRun Tryz.prog 123 200 (p + 1)) = true := by kernel_rfl
set_option maxRecDepth 100000 in
theorem known : ∀ p ∈ ([(F_cohortlaw17_awake, truth), (32, openW), (78, keysW [112, 131, 138]), (113, keysW [137]), (123, assignW)] : List (FuncId × Known)), @KnownF sy0 Tryz.prog p.1 p.2 := by
  letI : Sy := sy0
  intro p hp
  simp only [List.mem_cons, List.not_mem_nil, or_false] at hp
  rcases hp with rfl | rfl | rfl | rfl | rfl
  · exact (truth_known (law_awake (Checked.mixed Tryz.checked) names awakeV)).toF
  · exact open_known (Checked.mixed Tryz.checked) (names_ok names) (n := 100) (fun c => by kernel_rfl) (by kernel_rfl)
  · refine keys_known (k := 3) (T := 3) (by kernel_rfl) fun g hg => ?_
    simp only [List.mem_cons, List.not_mem_nil, or_false] at hg
    rcases hg with rfl | rfl | rfl
    · exact Go.Proofs.Tryz.sk_78_112
    · exact Go.Proofs.Tryz.sk_78_131
    · exact Go.Proofs.Tryz.sk_78_138
  · refine keys_known (k := 2) (T := 2) (by kernel_rfl) fun g hg => ?_
    simp only [List.mem_cons, List.not_mem_nil, or_false] at hg
    subst hg
    exact Go.Proofs.Tryz.sk_113_137
  · exact assign_known (Checked.mixed Tryz.checked) (names_ok names) (n := 200) fun p h1 h2 => by
      have h := List.all_eq_true.1 assigns123 (p - 1) (List.mem_range.2 (by omega))
      rwa [Nat.sub_add_cancel h1] at h

section
variable {Hh : Type} {enc : TypeId × Value → Hh} {W : World}
set_option maxRecDepth 100000 in
theorem calls {vs : List Value} {ds : List (DataW Hh)} {p : List MemPlace} {base : Nat} (hA : DataW.TrodAll enc Tryz.prog W 0 (fun _ => true) true [T_api_Job, T_api_Report, T_int] vs ds p)
    (hv : ∀ (j : Nat) t v, [T_api_Job, T_api_Report, T_int][j]? = some t → vs[j]? = some v → Value.okWide Tryz.prog W .any base t v) (hw : (DataW.weightsEach Tryz.prog [T_api_Job, T_api_Report, T_int] ds).all (· ≤ reachBytes) = true) :
    Calls Tryz.prog 7 ⟨vs⟩ W fun e W' => e = .returned (.bool true) ∧ Below W.heap.size W W' := by
  letI : Sy := sy0
  have hni : ∀ fs n e, Tryz.prog.underlying T_int ≠ some (.struct fs) ∧ Tryz.prog.underlying T_int ≠ some (.array n e) := by
    have h : Tryz.prog.underlying T_int = some (.int .i64) := by kernel_rfl
    intro fs n e
    rw [h]
    exact ⟨fun h => (by cases h), fun h => (by cases h)⟩
  have hm : Tryz.prog.follows .mixedOrders = true := Checked.mixed Tryz.checked
  have hE : Ee.ext = .leaf := rfl
  have hg : Ee.g = 0 := rfl
  refine calls_row (E := Ee) (envW_ok hm (names_ok names) (fun e h => by cases h)) (noExtOk hE) (sumsF_next (l := [(F_cohortlaw17_awake, truth), (32, openW), (78, keysW [112, 131, 138]), (113, keysW [137]), (123, assignW)]) hE rfl known) (sumsF_ok (l := [(F_cohortlaw17_awake, truth), (32, openW), (78, keysW [112, 131, 138]), (113, keysW [137]), (123, assignW)]) rfl known) hg
    (lay_aagg (t := T_api_Job) (by kernel_rfl) lay_job stable_rj (lay_aagg (t := T_api_Report) (by kernel_rfl) lay_report stable_rrep (lay_acons (t := T_int) (lay_int (by kernel_rfl)) stable_ri hni lay_anil))) hA hv hw ?_
  rintro H _ x ok ⟨c1, c2, rfl, ⟨cs, rfl, h1⟩, c3, c4, rfl, ⟨ds, rfl, h2⟩, c5, c6, rfl, h3, rfl⟩
  exact (law_stale_in (c3 := c5) ok (by simp) h1 h2 h3).mono fun _ _ h => h.1
end

set_option maxRecDepth 100000 in
theorem lifted (os : Os) (started : os.Started) (H : Type) (enc : TypeId × Value → H) :
    ReturnsInHanded {} Tryz.checked os 7 .any (Rows.masterStaleSpec.pre6 enc Tryz.prog Tryz.f7 Rows.masterStaleRow.domain false) (Rows.masterStaleSpec.post enc Tryz.prog Tryz.f7 false true false false) := by
  refine returnsInHanded_of_change_sized (C := Tryz.checked) own started (by kernel_rfl) Tryz.func7
    (ChangeSpec.witness6 (enc := enc) (C := Tryz.checked) false ⟨#[], #[.agg #[.string ⟨#[]⟩, .slice none 0 0, .slice none 0 0, .int .i64 0, .int .i64 0, .int .i64 0], .agg #[.int .i64 0, .int .i64 0, .int .i64 0, .int .i64 0, .int .i64 0, .int .i64 0, .int .i64 0, .int .i64 0, .int .i64 0, .bool false, .bool false, .bool false, .bool false, .bool false, .int .i64 0, .int .i64 0, .int .i64 0, .int .i64 0, .int .i64 0, .slice none 0 0], .int .i64 0], []⟩ 8 (by kernel_rfl) (by kernel_rfl) (by kernel_rfl) (by kernel_rfl)) ?_
  intro W base args ds gs before hval0 hW hcnd hwt _
  have hval : ∀ (j : Nat) t v, Tryz.f7.params[j]? = some t → args[j]? = some v → Value.okWide Tryz.prog W .any base t v := hval0
  have hW' := hW
  obtain ⟨p, q, hA0, hV, rfl, hfz, hnd⟩ := hW
  obtain ⟨rfl, rfl⟩ := trodVars_none hV
  have hA : DataW.TrodAll enc Tryz.prog W 0 (fun _ => true) true Tryz.f7.params.toList args.toList ds p := hA0
  have hw : (DataW.weightsEach Tryz.prog Tryz.f7.params.toList ds).all (· ≤ reachBytes) = true := by
    have h : (DataW.weightsEach Tryz.prog (Tryz.f7.params.toList ++ []) (ds ++ [])).all (· ≤ reachBytes) = true := hwt
    rw [List.append_nil, List.append_nil] at h; exact h
  rw [Tryz.params7] at hA hval hw
  obtain ⟨vs⟩ := args
  obtain ⟨v0, v1, v2, d0, d1, d2, p0, p1, p2, _, rfl, _⟩ := trodAll_three hA
  refine Calls.mono (calls hA (fun j t v h1 h2 => hval j t v (by simpa using h1) (by simpa using h2)) hw) ?_
  rintro e W' ⟨rfl, hb⟩
  refine ⟨_, rfl, law_post (tb := Tryz.f7.resultTypes.getD 0 0) hW' rfl laidOut ?_ ⟨rfl, rfl, rfl⟩ (by kernel_rfl) (by kernel_rfl) hb⟩
  intro t ht
  have := List.all_eq_true.1 rowsB t ht
  simp only [Bool.and_eq_true, decide_eq_true_eq] at this
  exact this

theorem proved : Rows.MasterStaleSaid :=
  OpenClaim.holds_of_wide 7 Tryz.f7 rfl rfl rfl rfl rfl rfl rfl ⟨rfl, rfl, rfl, rfl, rfl⟩ rfl rfl rfl rfl rfl (by kernel_rfl) Tryz.func7 (by kernel_rfl)
    (of_decide_eq_true (by kernel_rfl)) (by unfold Func.isWrapper; first | (rw [if_pos (by decide +kernel)]; kernel_rfl) | (rw [if_neg (by decide +kernel)]; exact ⟨rfl, rfl⟩))
    (fun os started H enc _ => lifted os started H enc)

end Go.Proofs.YtkkcknfeljgdcaaGreat.masterStale
