/- Commands are told as bytes, and read again; any bytes are one, or refused; all that was agreed on, likewise: of any command and any text, of bulk at most 1048576, 'MasterBytes' answers true and leaves all as it was. No condition. -/
import Derived.Test.YtkkcknfeljgdcaaGreatRows
import Derived.Test.YtkkcknfeljgdcaaGreatC8
import Derived.Test.YtkkcknfeljgdcaaGreatKeys
import Derived.ProofKit
import Derived.JoinedCond
import Derived.Deep.CondSized
import Derived.SizedLaws
namespace Go.Proofs.YtkkcknfeljgdcaaGreat.masterBytes
open Go.ChangeShapes Go.WideShapes Go.ChangeAt Go.RowKit Go.Ev Go.Proofs.Cx

theorem own : ownKnob Tryz.prog.godebug = none := by kernel_rfl
theorem laidOut : laidOutB Tryz.prog = true := by kernel_rfl
theorem names : (Tryz.prog.funcs.toList.all fun fn => !(fn.name == "runtime.NumGoroutine")) = true := by kernel_rfl
theorem awakeV : ansIs (fun v => clean v && veq 20 v (.bool true)) ((evalN (envOf Tryz.prog) 10000).call F_cohortlaw17_awake [] AH0) = true := by kernel_rfl
theorem rowsB : (Tryz.f4.params.toList.all fun t => Tryz.prog.readableRec t && decide (t < Tryz.prog.types.size)) = true := by kernel_rfl
set_option maxRecDepth 100000 in
theorem known : ∀ p ∈ ([(F_cohortlaw17_awake, truth), (32, openW), (78, keysW [112, 131, 138]), (113, keysW [137])] : List (FuncId × Known)), @KnownF sy0 Tryz.prog p.1 p.2 := by
  letI : Sy := sy0
  intro p hp
  simp only [List.mem_cons, List.not_mem_nil, or_false] at hp
  rcases hp with rfl | rfl | rfl | rfl
  · exact (truth_known (law_awake (Checked.mixed Tryz.checked) names awakeV)).toF
  · exact open_known (Checked.mixed Tryz.checked) (names_ok names) (n := 100) (fun c => by kernel_rfl) (by kernel_rfl)
  · refine keys_known (k := 3) (T := 3) (by kernel_rfl) fun g hg => ?_
    simp only [List.mem_cons, List.not_mem_nil, or_false] at hg
    rcases hg with rfl | rfl | rfl
    · exact Go.Proofs.Tryz.sk_78_112
    · exact Go.Proofs.Tryz.sk_78_131
    · exact Go.Proofs.Tryz.sk_78_138
  · refine keys_known (k := 2) (T := 2) (by kernel_rfl) fun g hg => ?_
    simp only [List.mem_cons, List.not_mem_nil, or_false] at hg
    subst hg
    exact Go.Proofs.Tryz.sk_113_137

theorem one_le {H : Type} (d : DataW H) : 1 ≤ Rows.uptoBulk d := by
  cases d with
  | lit l => cases l <;> simp [Rows.uptoBulk]
  | nil => simp [Rows.uptoBulk]
  | ptr d => simp [Rows.uptoBulk]
  | slice elems spare => simp [Rows.uptoBulk]
  | agg parts => simp [Rows.uptoBulk]
  | iface t d => simp [Rows.uptoBulk]
  | map entries => simp [Rows.uptoBulk]
  | held h => simp [Rows.uptoBulk]
theorem part_le {H : Type} {d : DataW H} {l : List (DataW H)} (h : d ∈ l) : Rows.uptoBulk d ≤ Rows.uptoBulkAll l := by
  induction l with
  | nil => cases h
  | cons x r ih =>
    simp only [Rows.uptoBulkAll]
    cases List.mem_cons.1 h with
    | inl e => subst e; omega
    | inr e => have := ih e; omega
theorem length_le {H : Type} (l : List (DataW H)) : l.length ≤ Rows.uptoBulkAll l := by
  induction l with
  | nil => simp [Rows.uptoBulkAll]
  | cons x r ih => have := one_le x; simp only [Rows.uptoBulkAll, List.length_cons]; omega
theorem few {H : Type} {ds : List (DataW H)} (hk : Rows.uptoSmall H ds = true) : ∀ parts parts7 elems spare r, ds = .agg parts :: r → .agg parts7 ∈ parts → .slice elems spare ∈ parts7 → elems.length ≤ 4000000 := by
  intro parts parts7 elems spare r h0 h1 h2
  have h : Rows.uptoBulkAll ds ≤ 1048576 := of_decide_eq_true hk
  subst h0
  have e1 := part_le h1
  have e2 := part_le h2
  have e3 := length_le elems
  simp only [Rows.uptoBulk, Rows.uptoBulkAll] at h e1 e2
  omega

section
variable {Hh : Type} {enc : TypeId × Value → Hh} {W : World}
set_option maxRecDepth 100000 in
theorem calls {vs : List Value} {ds : List (DataW Hh)} {p : List MemPlace} {base : Nat} (hA : DataW.TrodAll enc Tryz.prog W 0 (fun _ => true) true [T_api_Command, T_string] vs ds p)
    (hv : ∀ (j : Nat) t v, [T_api_Command, T_string][j]? = some t → vs[j]? = some v → Value.okWide Tryz.prog W .any base t v) (hw : (DataW.weightsEach Tryz.prog [T_api_Command, T_string] ds).all (· ≤ reachBytes) = true) (hB : lenAt 26 vs ≤ 4000000) :
    Calls Tryz.prog 4 ⟨vs⟩ W fun e W' => e = .returned (.bool true) ∧ Below W.heap.size W W' := by
  letI : Sy := sy0
  have hns : ∀ fs n e, Tryz.prog.underlying T_string ≠ some (.struct fs) ∧ Tryz.prog.underlying T_string ≠ some (.array n e) := by
    have h : Tryz.prog.underlying T_string = some .string := by kernel_rfl
    intro fs n e
    rw [h]
    exact ⟨fun h => (by cases h), fun h => (by cases h)⟩
  have hm : Tryz.prog.follows .mixedOrders = true := Checked.mixed Tryz.checked
  have hE : Ee.ext = .leaf := rfl
  have hg : Ee.g = 0 := rfl
  refine calls_rowV (E := Ee) (envW_ok hm (names_ok names) (fun e h => by cases h)) (noExtOk hE) (sumsF_next (l := [(F_cohortlaw17_awake, truth), (32, openW), (78, keysW [112, 131, 138]), (113, keysW [137])]) hE rfl known) (sumsF_ok (l := [(F_cohortlaw17_awake, truth), (32, openW), (78, keysW [112, 131, 138]), (113, keysW [137])]) rfl known) hg
    (lay_aagg (t := T_api_Command) (by kernel_rfl) lay_cmd stable_rcm (lay_acons (t := T_string) (lay_str (by kernel_rfl)) stable_str hns lay_anil)) hA hv hw ?_
  rintro H _ x ok ⟨c1, c2, rfl, ⟨cs, rfl, h1⟩, c3, c4, rfl, h2, rfl⟩ hr
  exact (law_bytes_in (c2 := c3) ok (by simp) h1 h2 hr hB).mono fun _ _ h => h.1
end

set_option maxRecDepth 100000 in
theorem lifted (os : Os) (started : os.Started) (H : Type) (enc : TypeId × Value → H) (F : Stop.Interp) :
    ReturnsInHanded {} Tryz.checked os 4 .any ((Rows.OpenSpec.upto Rows.masterBytesSpec).pre6 enc Tryz.prog Tryz.f4 Rows.masterBytesUptoRow.domain false) (((Rows.OpenSpec.upto Rows.masterBytesSpec).at F).post enc Tryz.prog Tryz.f4 false true false false) := by
  refine returnsInHanded_of_cond_sized (C := Tryz.checked) (s := Rows.OpenSpec.upto Rows.masterBytesSpec) (k := Rows.uptoSmall) rfl own started (by kernel_rfl) Tryz.func4
    (OpenSpec.witness (enc := enc) (C := Tryz.checked) (s := Rows.OpenSpec.upto Rows.masterBytesSpec) (k := Rows.uptoSmall) rfl false ⟨#[], #[.agg #[.int .i64 0, .int .i64 0, .int .i64 0, .string ⟨#[]⟩, .int .i64 0, .int .i64 0, .int .i64 0, .int .i64 0, .int .i64 0, .int .i64 0, .int .i64 0, .int .i64 0, .int .i64 0, .int .i64 0, .int .i64 0, .int .i64 0, .bool false, .bool false, .bool false, .bool false, .bool false, .int .i64 0, .int .i64 0, .int .i64 0, .int .i64 0, .int .i64 0, .slice none 0 0], .string ⟨#[]⟩], []⟩ 8 (by kernel_rfl) (by kernel_rfl) (by kernel_rfl)
      (x := ([.agg [.lit (.int .i64 0), .lit (.int .i64 0), .lit (.int .i64 0), .lit (.string []), .lit (.int .i64 0), .lit (.int .i64 0), .lit (.int .i64 0), .agg [.lit (.int .i64 0), .lit (.int .i64 0), .lit (.int .i64 0), .lit (.int .i64 0), .lit (.int .i64 0), .lit (.int .i64 0), .lit (.int .i64 0), .lit (.int .i64 0), .lit (.int .i64 0), .agg [.agg [.lit (.bool false), .lit (.bool false), .lit (.bool false), .lit (.bool false), .lit (.bool false)], .agg [.lit (.int .i64 0), .lit (.int .i64 0), .lit (.int .i64 0), .lit (.int .i64 0), .lit (.int .i64 0)]], .nil]], .lit (.string [])], [], [])) (by kernel_rfl) rfl (by kernel_rfl)) ?_
  intro W base args ds gs before hval0 hW hcnd hk hwt _
  have hval : ∀ (j : Nat) t v, Tryz.f4.params[j]? = some t → args[j]? = some v → Value.okWide Tryz.prog W .any base t v := hval0
  have hW' := hW
  obtain ⟨p, q, hA0, hV, rfl, hfz, hnd⟩ := hW
  obtain ⟨rfl, rfl⟩ := trodVars_none hV
  have hA : DataW.TrodAll enc Tryz.prog W 0 (fun _ => true) true Tryz.f4.params.toList args.toList ds p := hA0
  have hw : (DataW.weightsEach Tryz.prog Tryz.f4.params.toList ds).all (· ≤ reachBytes) = true := by
    have h : (DataW.weightsEach Tryz.prog (Tryz.f4.params.toList ++ []) (ds ++ [])).all (· ≤ reachBytes) = true := hwt
    rw [List.append_nil, List.append_nil] at h; exact h
  rw [Tryz.params4] at hA hval hw
  obtain ⟨vs⟩ := args
  obtain ⟨v0, v1, d0, d1, p0, p1, _, rfl, _⟩ := trodAll_two hA
  have hB := cmd_len (B := 4000000) hA (few (by simpa using hk))
  refine Calls.mono (calls hA (fun j t v h1 h2 => hval j t v (by simpa using h1) (by simpa using h2)) hw hB) ?_
  rintro e W' ⟨rfl, hb⟩
  refine ⟨_, rfl, law_post (tb := Tryz.f4.resultTypes.getD 0 0) hW' rfl laidOut ?_ ⟨rfl, rfl, rfl⟩ (by kernel_rfl) (by kernel_rfl) hb⟩
  intro t ht
  have := List.all_eq_true.1 rowsB t ht
  simp only [Bool.and_eq_true, decide_eq_true_eq] at this
  exact this

theorem proved : Rows.MasterBytesUptoSaid :=
  OpenClaim.holds_of_cond 4 Tryz.f4 rfl rfl rfl rfl rfl rfl rfl ⟨rfl, rfl, rfl, rfl, rfl⟩ rfl rfl rfl rfl rfl (by kernel_rfl) Tryz.func4 (by kernel_rfl)
    (of_decide_eq_true (by kernel_rfl)) (by unfold Func.isWrapper; first | (rw [if_pos (by decide +kernel)]; kernel_rfl) | (rw [if_neg (by decide +kernel)]; exact ⟨rfl, rfl⟩))
    (fun os started H enc _ F => lifted os started H enc F)

end Go.Proofs.YtkkcknfeljgdcaaGreat.masterBytes
