/- A law with what is told of its symbols; its awake. -/
import Derived.Test.YtkegomailfhnpaaGreatEv32
namespace Go.Ev
open Go Go.RowKit

section
variable {E : Env} {t : TypeId} {k : IntKind} {a b : Int}
theorem binv_geq_not : binv E .geq t (.int k a) (.int k b) = some (.bool (!decide (a < b))) := by
  rw [binv_geq]; congr 2
  by_cases h : a < b
  · rw [decide_eq_false (by omega), decide_eq_true h]; rfl
  · rw [decide_eq_true (by omega), decide_eq_false h]; rfl
theorem binv_leq_not : binv E .leq t (.int k a) (.int k b) = some (.bool (!decide (a > b))) := by
  rw [binv_leq]; congr 2
  by_cases h : a > b
  · rw [decide_eq_false (by omega), decide_eq_true h]; rfl
  · rw [decide_eq_true (by omega), decide_eq_false h]; rfl
theorem binv_lss_not : binv E .lss t (.int k a) (.int k b) = some (.bool (!decide (a ≥ b))) := by
  rw [binv_lss]; congr 2
  by_cases h : a ≥ b
  · rw [decide_eq_false (by omega), decide_eq_true h]; rfl
  · rw [decide_eq_true (by omega), decide_eq_false h]; rfl
end

section
variable {P : Program}
abbrev sy0 : Sy := syOf [] (fun _ h => by cases h)

/-- a function without arguments that answers true -/
theorem law_awake (hm : P.follows .mixedOrders = true) (hn : (P.funcs.toList.all fun fn => !(fn.name == "runtime.NumGoroutine")) = true) {n : Nat} {f : FuncId}
    (e : ansIs (fun v => clean v && veq 20 v (.bool true)) ((evalN (envOf P) n).call f [] AH0) = true) (w : World) :
    Calls P f #[] w fun e w' => e = .returned (.bool true) ∧ Below w.heap.size w w' :=
  letI : Sy := sy0
  calls_sym (envOf_ok hm (names_ok hn)) (noExtOk rfl) (noExtNext rfl rfl) (noSumOk rfl) rfl .nil (.bool true) e w

/-- a law, its awake known, its symbols told of -/
theorem law_with (hm : P.follows .mixedOrders = true) (hn : (P.funcs.toList.all fun fn => !(fn.name == "runtime.NumGoroutine")) = true) {g : FuncId}
    (haw : ∀ w, Calls P g #[] w fun e w' => e = .returned (.bool true) ∧ Below w.heap.size w w') {cs : List Value} {h1 : ∀ x ∈ cs, oneCell x = true} {orc : List (BinOp × Value × Value × Value)}
    (ho : @OrcOk (syOf cs h1) orc) {as as' : List Value} (ha : @VRs (syOf cs h1) nowhere as as') {n : Nat} {f : FuncId}
    (e : ansIs (fun v => clean v && veq 20 v (.bool true)) ((evalN (envW P orc (sum1 g)) n).call f as AH0) = true) (w : World) :
    Calls P f ⟨as'⟩ w fun e w' => e = .returned (.bool true) ∧ Below w.heap.size w w' :=
  letI : Sy := syOf cs h1
  calls_sym (E := envW P orc (sum1 g)) (envW_ok hm (names_ok hn) ho) (noExtOk rfl) (sum1_next rfl rfl) (sum1_ok rfl haw) rfl ha (.bool true) e w
end
end Go.Ev
