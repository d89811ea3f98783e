/- A law with what is told of its symbols; its awake. -/
import Derived.Test.YtphgkdcifemmmaaGreatEv32
namespace Go.Ev
open Go Go.RowKit
section
variable {E : Env} {t : TypeId} {k : IntKind} {a b : Int}
end
section
variable {P : Program}
abbrev sy0 : Sy := syOf [] (fun _ h => by cases h)
theorem law_awake (hm : P.follows .mixedOrders = true) (hn : (P.funcs.toList.all fun fn => !(fn.name == "runtime.NumGoroutine")) = true) {n : Nat} {f : FuncId}
    (e : ansIs (fun v => clean v && veq 20 v (.bool true)) ((evalN (envOf P) n).call f [] AH0) = true) (w : World) :
    Calls P f #[] w fun e w' => e = .returned (.bool true) ∧ Below w.heap.size w w' :=
  letI : Sy := sy0
  calls_sym (envOf_ok hm (names_ok hn)) (noExtOk rfl) (noExtNext rfl rfl) (noSumOk rfl) rfl .nil (.bool true) e w
end
end Go.Ev
