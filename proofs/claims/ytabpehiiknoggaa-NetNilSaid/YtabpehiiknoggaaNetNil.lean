/- A nil net answers as the document says: of any input, 'NetNil' answers true and leaves all as it was. No condition.
   The law's run is worked out by an evaluator (its texts ..Ev1 to ..Ev32) whose answers are proved to be the program's; the struct that comes in stands for any. -/
import Derived.Test.YtabpehiiknoggaaRows
import Derived.Test.YtabpehiiknoggaaEv32
import Derived.ProofKit
namespace Go.Proofs.Ytabpehiiknoggaa.netNil
open Go.ChangeShapes Go.WideShapes Go.ChangeAt Go.RowKit Go.Ev

theorem own : ownKnob Try.prog.godebug = none := by kernel_rfl
theorem laidOut : laidOutB Try.prog = true := by kernel_rfl
theorem names : (Try.prog.funcs.toList.all fun fn => !(fn.name == "runtime.NumGoroutine")) = true := by kernel_rfl
theorem lawV : ansIs (fun v => clean v && veq 20 v (.bool true)) ((evalN (envOf Try.prog) 1000).call 3 [.agg ⟨syms 0 5⟩] AH0) = true := by kernel_rfl
theorem size24 : Try.prog.cellsOf 24 = 5 := by kernel_rfl
theorem rows24 : (Try.f3.params.toList.all fun t => Try.prog.readableRec t && decide (t < Try.prog.types.size)) = true := by kernel_rfl

set_option maxRecDepth 100000 in
theorem lifted (os : Os) (started : os.Started) (H : Type) (enc : TypeId × Value → H) :
    ReturnsInHanded {} Try.checked os 3 .any (Rows.netNilSpec.pre6 enc Try.prog Try.f3 Rows.netNilRow.domain false) (Rows.netNilSpec.post enc Try.prog Try.f3 false true false false) := by
  refine returnsInHanded_of_change (C := Try.checked) own started (by kernel_rfl) Try.func3
    (ChangeSpec.witness6 (enc := enc) (C := Try.checked) false ⟨#[], #[.agg #[.int .i64 0, .int .i64 0, .int .i64 0, .int .i64 0, .slice none 0 0]], []⟩ 8 (by kernel_rfl) (by kernel_rfl) (by kernel_rfl) (by kernel_rfl)) ?_
  intro W base args ds gs before hval0 hW hcnd _
  have hval : ∀ (j : Nat) t v, Try.f3.params[j]? = some t → args[j]? = some v → Value.okWide Try.prog W .any base t v := hval0
  have hW' := hW
  obtain ⟨p, q, hA0, hV, rfl, hfz, hnd⟩ := hW
  have hA : DataW.TrodAll enc Try.prog W 0 (fun _ => true) true Try.f3.params.toList args.toList ds p := hA0
  rw [Try.params3] at hA hval
  obtain ⟨v0, d0, rfl, rfl, h0⟩ := trodAll_one hA
  obtain ⟨cs, rfl, hc, h1⟩ := Ev.okWide_struct Try.underlying24 (hval 0 24 v0 rfl rfl)
  obtain ⟨rfl, rfl⟩ := trodVars_none hV
  refine Calls.mono (law_struct (Checked.mixed Try.checked) names lawV (hc.trans size24) h1 W) ?_
  rintro e W' ⟨rfl, hb⟩
  refine ⟨_, rfl, law_post (tb := Try.f3.resultTypes.getD 0 0) hW' rfl laidOut ?_ ⟨rfl, rfl, rfl⟩ (by kernel_rfl) (by kernel_rfl) hb⟩
  intro t ht
  have := List.all_eq_true.1 rows24 t ht
  simp only [Bool.and_eq_true, decide_eq_true_eq] at this
  exact this

theorem proved : Rows.NetNilSaid :=
  OpenClaim.holds_of_wide 3 Try.f3 rfl rfl rfl rfl rfl rfl rfl ⟨rfl, rfl, rfl, rfl, rfl⟩ rfl rfl rfl rfl rfl (by kernel_rfl) Try.func3 (by kernel_rfl)
    (of_decide_eq_true (by kernel_rfl)) (by unfold Func.isWrapper; first | (rw [if_pos (by decide +kernel)]; kernel_rfl) | (rw [if_neg (by decide +kernel)]; exact ⟨rfl, rfl⟩))
    (fun os started H enc _ => lifted os started H enc)

end Go.Proofs.Ytabpehiiknoggaa.netNil
