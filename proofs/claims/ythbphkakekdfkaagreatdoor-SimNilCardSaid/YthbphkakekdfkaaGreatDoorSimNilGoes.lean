/- A nil world answers as the document says: no function of the program has a go statement. -/
import Derived.Test.YthbphkakekdfkaaGreatDoorRows
import Derived.JoinedOf
import Derived.KernelRfl
import GoSem.ClaimGoes
namespace Go.Proofs.YthbphkakekdfkaaGreatDoor.simNil
open Go
/-- where no function has a go statement, no call starts a goroutine -/
theorem goes_none {P : Program} {f : FuncId} (h : P.funcs.toList.any Func.goes = false) : P.goes f = false := by
  have h' : P.funcs.any Func.goes = false := by rw [← Array.any_toList]; exact h
  unfold Program.goes
  rw [h', Bool.and_false, Bool.or_false, List.any_eq_false]
  intro g _
  cases hg : P.funcs[g]? with
  | none => simp
  | some fn =>
    have hm : fn ∈ P.funcs.toList := Array.mem_toList_iff.2 (Array.mem_of_getElem? hg)
    have := List.any_eq_false.1 h fn hm
    simpa using this
theorem goesBy_none {P : Program} {c : OpenClaim} (hs : c.start = .entering) (h : P.funcs.toList.any Func.goes = false) : false = c.goesBy P := by
  unfold OpenClaim.goesBy Program.goesAt Program.goesFrom
  rw [hs]
  cases hn : P.funcNamed c.func with
  | none => rfl
  | some f => simp [goes_none h]
theorem none_goes : (Tryz.prog.funcs.toList.any Func.goes) = false := by kernel_rfl
theorem goes : false = Rows.simNilRow.goesBy Tryz.prog := goesBy_none rfl none_goes
end Go.Proofs.YthbphkakekdfkaaGreatDoor.simNil
