/- What is said is told as bytes, and read again; any bytes say something, or are refused: of anything that can be said and any text, of bulk at most 1048576, 'ServeSays' answers true and leaves all as it was: the walk lifted. No condition. -/
import Derived.Test.YtphgkdcifemmmaaGreatRows
import Derived.Test.YtphgkdcifemmmaaGreatC10
import Derived.ProofKit
import Derived.JoinedCond
import Derived.Deep.CondSized
import Derived.SizedLaws
namespace Go.Proofs.YtphgkdcifemmmaaGreat.serveSays
open Go.ChangeShapes Go.WideShapes Go.ChangeAt Go.RowKit Go.Ev Go.Proofs.Cx

theorem own : ownKnob Tryz.prog.godebug = none := by kernel_rfl
theorem laidOut : laidOutB Tryz.prog = true := by kernel_rfl
theorem names : (Tryz.prog.funcs.toList.all fun fn => !(fn.name == "runtime.NumGoroutine")) = true := by kernel_rfl
theorem awakeV : ansIs (fun v => clean v && veq 20 v (.bool true)) ((evalN (envOf Tryz.prog) 10000).call F_cohortlaw18_awake [] AH0) = true := by kernel_rfl
theorem rowsB : (Tryz.f3.params.toList.all fun t => Tryz.prog.readableRec t && decide (t < Tryz.prog.types.size)) = true := by kernel_rfl

mutual
theorem bk_eq {H : Type} : ∀ d : DataW H, bk d = Rows.uptoBulk d
  | .lit l => by cases l <;> simp [bk, Rows.uptoBulk]
  | .nil => by simp [bk, Rows.uptoBulk]
  | .ptr d => by simp [bk, Rows.uptoBulk, bk_eq d]
  | .slice e s => by simp [bk, Rows.uptoBulk, bkAll_eq e, bkAll_eq s]
  | .agg l => by simp [bk, Rows.uptoBulk, bkAll_eq l]
  | .iface _ d => by simp [bk, Rows.uptoBulk, bk_eq d]
  | .map es => by simp [bk, Rows.uptoBulk, bkEs_eq es]
  | .held _ => by simp [bk, Rows.uptoBulk]
theorem bkAll_eq {H : Type} : ∀ l : List (DataW H), bkAll l = Rows.uptoBulkAll l
  | [] => by simp [bkAll, Rows.uptoBulkAll]
  | d :: r => by simp [bkAll, Rows.uptoBulkAll, bk_eq d, bkAll_eq r]
theorem bkEs_eq {H : Type} : ∀ l : List (Lit × DataW H), bkEs l = Rows.uptoBulkEntries l
  | [] => by simp [bkEs, Rows.uptoBulkEntries]
  | d :: r => by simp [bkEs, Rows.uptoBulkEntries, bkE_eq d, bkEs_eq r]
theorem bkE_eq {H : Type} : ∀ x : Lit × DataW H, bkE x = Rows.uptoBulkEntry x
  | (l, d) => by cases l <;> simp [bkE, Rows.uptoBulkEntry, bk_eq d]
end

section
variable {Hh : Type} {enc : TypeId × Value → Hh} {W : World}
set_option maxRecDepth 100000 in
theorem calls {vs : List Value} {ds : List (DataW Hh)} {p : List MemPlace} {base : Nat} (hA : DataW.TrodAll enc Tryz.prog W 0 (fun _ => true) true [T_api_Say, T_string] vs ds p)
    (hv : ∀ (j : Nat) t v, [T_api_Say, T_string][j]? = some t → vs[j]? = some v → Value.okWide Tryz.prog W .any base t v) (hB : bkAll ds ≤ 1048576) :
    Calls Tryz.prog 3 ⟨vs⟩ W fun e W' => e = .returned (.bool true) ∧ Below W.heap.size W W' := by
  letI : Sy := sy0
  have hns : ∀ fs n e, Tryz.prog.underlying T_string ≠ some (.struct fs) ∧ Tryz.prog.underlying T_string ≠ some (.array n e) := by
    have h : Tryz.prog.underlying T_string = some .string := by kernel_rfl
    intro fs n e
    rw [h]
    exact ⟨fun h => (by cases h), fun h => (by cases h)⟩
  have hm : Tryz.prog.follows .mixedOrders = true := Checked.mixed Tryz.checked
  have hS : Ee.sum = sum1 F_cohortlaw18_awake := rfl
  have hE : Ee.ext = .leaf := rfl
  have hg : Ee.g = 0 := rfl
  refine calls_rowB (E := Ee) (envW_ok hm (names_ok names) (fun e h => by cases h)) (noExtOk hE) (sum1_next hE hS) (sum1_ok hS (law_awake hm names awakeV)) hg
    (lay_aaggB (t := T_api_Say) (by kernel_rfl) lyB_api_Say stB_api_Say (lay_aconsB (t := T_string) (lay_strB (by kernel_rfl)) stable_strB hns lay_anilB)) hA hv hB ?_
  rintro H _ x ok ⟨c1, c2, rfl, ⟨cs, rfl, h1⟩, c3, c4, rfl, h2, rfl⟩
  exact (law_says_in (c2 := c3) ok (by simp) h1 h2).mono fun _ _ h => h.1
end

set_option maxRecDepth 100000 in
theorem lifted (os : Os) (started : os.Started) (H : Type) (enc : TypeId × Value → H) (F : Stop.Interp) :
    ReturnsInHanded {} Tryz.checked os 3 .any ((Rows.OpenSpec.upto Rows.serveSaysSpec).pre6 enc Tryz.prog Tryz.f3 Rows.serveSaysUptoRow.domain false) (((Rows.OpenSpec.upto Rows.serveSaysSpec).at F).post enc Tryz.prog Tryz.f3 false true false false) := by
  refine returnsInHanded_of_cond_sized (C := Tryz.checked) (s := Rows.OpenSpec.upto Rows.serveSaysSpec) (k := Rows.uptoSmall) rfl own started (by kernel_rfl) Tryz.func3
    (OpenSpec.witness (enc := enc) (C := Tryz.checked) (s := Rows.OpenSpec.upto Rows.serveSaysSpec) (k := Rows.uptoSmall) rfl false ⟨#[], #[.agg #[.int .i64 0, .int .i64 0, .int .i64 0, .int .i64 0, .int .i64 0, .int .i64 0, .int .i64 0, .int .i64 0, .int .i64 0, .int .i64 0, .string ⟨#[]⟩, .slice none 0 0, .int .i64 0, .int .i64 0, .bool false, .int .i64 0, .int .i64 0, .int .i64 0, .int .i64 0, .int .i64 0, .int .i64 0, .int .i64 0, .int .i64 0, .int .i64 0, .bool false, .bool false, .bool false, .bool false, .bool false, .int .i64 0, .int .i64 0, .int .i64 0, .int .i64 0, .int .i64 0, .slice none 0 0, .int .i64 0, .int .i64 0, .int .i64 0, .int .i64 0, .slice none 0 0, .slice none 0 0, .string ⟨#[]⟩, .slice none 0 0, .slice none 0 0, .int .i64 0, .int .i64 0, .int .i64 0, .bool false, .bool false, .bool false, .bool false, .bool false, .int .i64 0, .int .i64 0, .int .i64 0, .int .i64 0, .int .i64 0, .int .i64 0, .int .i64 0, .int .i64 0, .bool false, .int .i64 0, .int .i64 0, .int .i64 0, .int .i64 0, .string ⟨#[]⟩, .int .i64 0, .int .i64 0, .int .i64 0, .int .i64 0, .int .i64 0, .int .i64 0, .int .i64 0, .int .i64 0, .int .i64 0, .int .i64 0, .int .i64 0, .int .i64 0, .int .i64 0, .slice none 0 0, .int .i64 0, .int .i64 0, .int .i64 0, .int .i64 0, .slice none 0 0, .slice none 0 0], .string ⟨#[]⟩], []⟩ 8 (by kernel_rfl) (by kernel_rfl) (by kernel_rfl)
      (x := ([.agg [.lit (.int .i64 0), .agg [.lit (.int .i64 0), .lit (.int .i64 0), .lit (.int .i64 0), .lit (.int .i64 0), .lit (.int .i64 0), .lit (.int .i64 0), .lit (.int .i64 0), .lit (.int .i64 0), .lit (.int .i64 0), .lit (.string []), .nil], .lit (.int .i64 0), .lit (.int .i64 0), .lit (.bool false), .agg [.lit (.int .i64 0), .lit (.int .i64 0), .lit (.int .i64 0), .lit (.int .i64 0), .lit (.int .i64 0), .lit (.int .i64 0), .lit (.int .i64 0), .lit (.int .i64 0), .lit (.int .i64 0), .agg [.agg [.lit (.bool false), .lit (.bool false), .lit (.bool false), .lit (.bool false), .lit (.bool false)], .agg [.lit (.int .i64 0), .lit (.int .i64 0), .lit (.int .i64 0), .lit (.int .i64 0), .lit (.int .i64 0)]], .nil], .agg [.lit (.int .i64 0), .lit (.int .i64 0), .lit (.int .i64 0), .lit (.int .i64 0), .nil, .nil, .agg [.lit (.string []), .agg [.nil], .nil, .lit (.int .i64 0), .lit (.int .i64 0), .lit (.int .i64 0)], .agg [.agg [.lit (.bool false), .lit (.bool false), .lit (.bool false), .lit (.bool false), .lit (.bool false)], .agg [.lit (.int .i64 0), .lit (.int .i64 0), .lit (.int .i64 0), .lit (.int .i64 0), .lit (.int .i64 0)]], .lit (.int .i64 0), .lit (.int .i64 0), .lit (.int .i64 0), .lit (.bool false)], .lit (.int .i64 0), .agg [.lit (.int .i64 0), .lit (.int .i64 0), .lit (.int .i64 0), .lit (.string []), .lit (.int .i64 0)], .agg [.lit (.int .i64 0), .lit (.int .i64 0), .lit (.int .i64 0), .agg [.lit (.int .i64 0), .lit (.int .i64 0)], .agg [.lit (.int .i64 0), .lit (.int .i64 0), .lit (.int .i64 0), .lit (.int .i64 0), .agg [.lit (.int .i64 0), .lit (.int .i64 0), .lit (.int .i64 0), .nil]]], .agg [.lit (.int .i64 0), .lit (.int .i64 0), .lit (.int .i64 0), .lit (.int .i64 0), .nil, .nil]], .lit (.string [])], [], [])) (by kernel_rfl) rfl (by kernel_rfl)) ?_
  intro W base args ds gs before hval0 hW hcnd hk _ _
  have hval : ∀ (j : Nat) t v, Tryz.f3.params[j]? = some t → args[j]? = some v → Value.okWide Tryz.prog W .any base t v := hval0
  have hW' := hW
  obtain ⟨p, q, hA0, hV, rfl, hfz, hnd⟩ := hW
  obtain ⟨rfl, rfl⟩ := trodVars_none hV
  have hA : DataW.TrodAll enc Tryz.prog W 0 (fun _ => true) true Tryz.f3.params.toList args.toList ds p := hA0
  rw [Tryz.params3] at hA hval
  obtain ⟨vs⟩ := args
  obtain ⟨v0, v1, d0, d1, p0, p1, _, rfl, _⟩ := trodAll_two hA
  have hB : bkAll [d0, d1] ≤ 1048576 := by
    have hk1 : Rows.uptoSmall H [d0, d1] = true := by simpa using hk
    rw [bkAll_eq]; exact of_decide_eq_true hk1
  refine Calls.mono (calls hA (fun j t v h1 h2 => hval j t v (by simpa using h1) (by simpa using h2)) hB) ?_
  rintro e W' ⟨rfl, hb⟩
  refine ⟨_, rfl, law_post (tb := Tryz.f3.resultTypes.getD 0 0) hW' rfl laidOut ?_ ⟨rfl, rfl, rfl⟩ (by kernel_rfl) (by kernel_rfl) hb⟩
  intro t ht
  have := List.all_eq_true.1 rowsB t ht
  simp only [Bool.and_eq_true, decide_eq_true_eq] at this
  exact this

end Go.Proofs.YtphgkdcifemmmaaGreat.serveSays
