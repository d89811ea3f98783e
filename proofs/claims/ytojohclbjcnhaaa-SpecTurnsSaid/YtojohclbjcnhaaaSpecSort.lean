/- What is known of the seat: its awake, its sort; the evaluator's words are right. -/
import Derived.Test.YtojohclbjcnhaaaRows
import Derived.Test.YtojohclbjcnhaaaC8
import Derived.Test.YtojohclbjcnhaaaShelf
import Derived.ProofKit
namespace Go.Proofs.Cx
open Go Go.Ev Go.RowKit

theorem seat_own : ownKnob Try.prog.godebug = none := by kernel_rfl
theorem seat_laid : laidOutB Try.prog = true := by kernel_rfl
theorem seat_names : (Try.prog.funcs.toList.all fun fn => !(fn.name == "runtime.NumGoroutine")) = true := by kernel_rfl
theorem seat_awake : ansIs (fun v => clean v && veq 20 v (.bool true)) ((evalN (envOf Try.prog) 5000).call F_cohortlaw10_awake [] AH0) = true := by kernel_rfl
theorem seat_mixed : Try.prog.follows .mixedOrders = true := Checked.mixed Try.checked
theorem seat_env : @EnvOk sy0 Ee Try.prog := @envW_ok Try.prog sy0 seat_mixed (names_ok seat_names) _ _ _ (fun e h => by cases h)
theorem seat_known : ∀ p ∈ [(F_cohortlaw10_awake, truth), (F_slices_Sort_L_int_int, sortW)], @KnownOk sy0 Try.prog p.1 p.2 := by
  letI : Sy := sy0
  intro p hp
  simp only [List.mem_cons, List.not_mem_nil, or_false] at hp
  rcases hp with rfl | rfl
  · exact truth_known (law_awake seat_mixed seat_names seat_awake)
  · refine sort_known (fun blk off cap zs w h1 h2 h3 => Go.Proofs.Try.slices_Sort_int blk off cap zs w h1 h2 h3) fun H ρ w hR => ?_
    refine Calls.mono' (Go.Proofs.Try.slices_Sort_int_none none 0 w) ?_
    rintro e w' ⟨rfl, rfl⟩
    exact ⟨rfl, ρ, Post.refl hR⟩
theorem seat_sum : @SumOk sy0 Ee Try.prog := @sums_ok sy0 Ee Try.prog _ rfl seat_known
theorem seat_next : ExtNext Ee := @sums_next sy0 Ee Try.prog _ rfl rfl seat_known
theorem seat_g : Ee.g = 0 := rfl
end Go.Proofs.Cx
