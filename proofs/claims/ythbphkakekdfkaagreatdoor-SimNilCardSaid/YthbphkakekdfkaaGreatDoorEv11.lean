/- append, copy, clear. -/
import Derived.Test.YthbphkakekdfkaaGreatDoorEv10
namespace Go.Ev
open Go Go.RowKit
section
variable {E : Env} {P : Program} {ρ : Ren}
theorem takev_length [Sy] {H : AH} {size n : Nat} {x : Value} {cs : List Value} (e : takev H size n x = some cs) (hl : ∀ k, lenOfv x = some k → n ≤ k) : cs.length = n * size := by
  unfold takev at e
  split at e
  · cases hz : Nat.beq n 0 with
    | true =>
      have h1 := Nat.eq_of_beq_eq_true hz
      rw [hz] at e
      simp only [cond_true, Option.some.injEq] at e
      subst e; subst h1; simp
    | false =>
    rw [hz] at e
    simp only [cond_false] at e
    split at e
    · have h1 := Nat.le_of_ble_eq_true (bif_some e).1
      have e2 := (bif_some e).2
      simp only [Option.some.injEq] at e2
      subst e2
      simp; omega
    · cases e
  · have h1 := Nat.eq_of_beq_eq_true (bif_some e).1
    have e2 := (bif_some e).2
    simp only [Option.some.injEq] at e2
    subst e2; subst h1; simp
  · rename_i s
    have h1 := Nat.eq_of_beq_eq_true (bif_some e).1
    have e2 := (bif_some e).2
    simp only [Option.some.injEq] at e2
    subst e2; subst h1
    have := hl _ rfl
    simp at this ⊢; omega
  · cases e
structure ApT (P : Program) (ats : Array TypeId) (e : TypeId) (size bytes : Nat) (z : Value) : Prop where
  t0 : ∃ t0, ats[0]? = some t0 ∧ P.underlying t0 = some (.slice e)
  t1 : ∃ t1, ats[1]? = some t1 ∧ (P.underlying t1 = some .string ∨ ∃ e, P.underlying t1 = some (.slice e))
  size : ∀ w, (Go.sizeOf e).run P w = .ok size w
  info : ∃ inf, P.info? e = some inf ∧ inf.bytes = bytes
  zero : ∀ w, (zeroValue e).run P w = .ok z w
theorem run_append_in {ats : Array TypeId} {e ty : TypeId} {size bytes : Nat} {z : Value} (h : ApT P ats e size bytes z) {w w' : World} {base : Option Addr} {len cap n : Nat} {x : Value} {news : List Value}
    (hn : (Builtin.lenOf x).run P w = .ok n w) (hx : (Builtin.firstCells size n x).run P w = .ok ⟨news⟩ w) (hroom : len + n ≤ cap)
    (hst : match base with | some a => (storeCells (a.add (len * size)) news).run P w = .ok () w' | none => w' = w) :
    (Builtin.append_ ats ty #[.slice base len cap, x]).run P w = .ok (.slice base (len + n) cap) w' := by
  obtain ⟨t0, h0, u0⟩ := h.t0
  obtain ⟨t1, h1, u1⟩ := h.t1
  rcases u1 with u1 | ⟨e1, u1⟩
  all_goals
    unfold Builtin.append_
    simp only [h0, h1, List.size_toArray, List.length_cons, List.length_nil, Nat.zero_add, Nat.reduceAdd, Nat.reduceLT, getElem?_pos, List.getElem_toArray, List.getElem_cons_zero, List.getElem_cons_succ]
    simp only [Sem.run_bind, run_underlying u0, run_underlying u1, Result.andThen_ok, h.size, Sem.run_pure, Bool.false_eq_true, if_false, hn, if_pos hroom, Bool.not_false, if_true, hx]
    cases base with
    | none => simp only [Sem.run_pure]; rw [hst]
    | some a => simp only [Sem.run_bind, hst, Result.andThen_ok, Sem.run_pure]
theorem run_append_out {ats : Array TypeId} {e ty : TypeId} {size bytes : Nat} {z : Value} (h : ApT P ats e size bytes z) {w : World} {base : Option Addr} {len cap n : Nat} {x : Value} {olds news : List Value}
    (hn : (Builtin.lenOf x).run P w = .ok n w)
    (hs : ∀ m, (Builtin.firstCells size len (.slice base len cap)).run P { w with drawn := m } = .ok ⟨olds⟩ { w with drawn := m })
    (hx : ∀ m, (Builtin.firstCells size n x).run P { w with drawn := m } = .ok ⟨news⟩ { w with drawn := m })
    (hroom : ¬ len + n ≤ cap) (hb : (len + n) * bytes ≤ 140737488355328) (hb1 : len + n ≤ 140737488355328) :
    ∃ cap', len + n ≤ cap' ∧ (Builtin.append_ ats ty #[.slice base len cap, x]).run P w =
      .ok (.slice (some ⟨w.heap.size, 0, none⟩) (len + n) cap') { w with heap := w.heap.push (.cells ⟨olds ++ news ++ (Builtin.zeroCells z.cells (cap' - (len + n))).toList⟩ e (0, 0)), drawn := w.drawn + 1 } := by
  obtain ⟨t0, h0, u0⟩ := h.t0
  obtain ⟨t1, h1, u1⟩ := h.t1
  obtain ⟨inf, hinf, hby⟩ := h.info
  refine ⟨(Question.appendCap (len + n) cap e).cut (w.tape w.drawn (.appendCap (len + n) cap e)), by simp only [Question.cut]; omega, ?_⟩
  have h63 : ¬ (((len + n : Nat) : Int) > IntKind.i64.max) := by
    have : IntKind.i64.max = 9223372036854775807 := rfl
    omega
  have h48 : ¬ (Builtin.nextslicecap (len + n) cap * inf.bytes > 2 ^ 48) := by
    have := growslice_fits (bytes := inf.bytes) (need := len + n) (old := cap) (by omega) (by rw [hby]; exact hb)
    omega
  have hinfo : ∀ w, (typeInfo e).run P w = .ok inf w := fun w => run_typeInfo w hinf
  generalize hcap : (Question.appendCap (len + n) cap e).cut (w.tape w.drawn (.appendCap (len + n) cap e)) = cap'
  rcases u1 with u1 | ⟨e1, u1⟩
  all_goals
    unfold Builtin.append_
    simp only [h0, h1, List.size_toArray, List.length_cons, List.length_nil, Nat.zero_add, Nat.reduceAdd, Nat.reduceLT, getElem?_pos, List.getElem_toArray, List.getElem_cons_zero, List.getElem_cons_succ]
    simp only [Sem.run_bind, run_underlying u0, run_underlying u1, Result.andThen_ok, h.size, Sem.run_pure, Bool.false_eq_true, if_false, hn, if_neg hroom, Bool.not_false, if_true, hinfo]
    simp only [h63, false_and, if_false, Sem.run_bind, hinfo, Result.andThen_ok, if_neg h48, run_choose, Question.forced, Bool.false_eq_true, run_askRoom, hs, hx, h.zero, newRow_run, Sem.run_pure, hcap]
    have hc : ((⟨olds⟩ : Array Value) ++ ⟨news⟩ ++ Builtin.zeroCells z.cells (cap' - (len + n))) = ⟨olds ++ news ++ (Builtin.zeroCells z.cells (cap' - (len + n))).toList⟩ := by
      apply Array.ext'; simp
    rw [hc]
end
end Go.Ev
