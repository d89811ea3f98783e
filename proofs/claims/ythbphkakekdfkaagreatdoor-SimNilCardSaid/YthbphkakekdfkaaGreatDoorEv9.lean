/- Operations that make a block. -/
import Derived.Test.YthbphkakekdfkaaGreatDoorEv8
import Derived.IntWalk
namespace Go.Ev
open Go Go.RowKit
section
variable {E : Env} {P : Program} {ρ : Ren}
theorem flat_get (l : List Value) : ∀ (n i : Nat), i < n * l.length → ((List.replicate n l).flatten)[i]? = l[i % l.length]?
  | 0, i, h => by simp at h
  | n + 1, i, h => by
    rw [List.replicate_succ, List.flatten_cons]
    by_cases hi : i < l.length
    · rw [List.getElem?_append_left hi, Nat.mod_eq_of_lt hi]
    · rw [List.getElem?_append_right (by omega), flat_get l n (i - l.length) (by rw [Nat.succ_mul] at h; omega)]
      congr 1
      obtain ⟨m, rfl⟩ : ∃ m, i = l.length + m := ⟨i - l.length, by omega⟩
      simp
theorem flat_length (l : List Value) (n : Nat) : ((List.replicate n l).flatten).length = n * l.length := by simp
theorem range_flat [Sy] (l : List Value) (n m : Nat) (hm : m = n * l.length) (f : Nat → Value) (hf : ∀ i, i < m → l[i % l.length]? = some (f i)) : ((Array.range m).map f : Array Value) = ⟨(List.replicate n l).flatten⟩ := by
  apply Array.ext_getElem?
  intro i
  subst hm
  by_cases hi : i < n * l.length
  · simp only [List.getElem?_toArray]
    rw [flat_get l n i hi, hf i hi]
    simp [hi]
  · rw [Array.getElem?_eq_none (by simp; omega)]
    simp only [List.getElem?_toArray]
    rw [List.getElem?_eq_none (by rw [flat_length]; omega)]
theorem VRs.flat [Sy] {l l' : List Value} (h : VRs ρ l l') : ∀ n : Nat, VRs ρ ((List.replicate n l).flatten) ((List.replicate n l').flatten)
  | 0 => by simp; exact .nil
  | n + 1 => by
    rw [List.replicate_succ, List.replicate_succ, List.flatten_cons, List.flatten_cons]
    exact h.append (VRs.flat h n)
theorem OR.row [Sy] {l l' : List Value} (es c : Nat) (t : TypeId) (h : VRs ρ l l') : OR ρ ⟨c, 0, es, l'.length⟩ (.cells l es) (.cells ⟨l'⟩ t (0, 0)) := by
  refine .cells (by simp) rfl ?_ ?_ (by intro i _; simp) fun _ _ => rfl
  · have := h.length; simp; omega
  · intro i v e
    obtain ⟨v', h1, h2⟩ := h.get e
    exact ⟨v', by simpa using h1, h2⟩
def NewR [Sy] (ρ : Ren) (P : Program) (s : Sem Next) (o : AObj) (ans : Ans) (w : World) : Prop :=
  ∃ v' ob n p, s.run P w = .ok (.value v') { w with heap := w.heap.push ob, drawn := n } ∧ p.c = w.heap.size ∧ p.d = 0 ∧ OR ρ p o ob ∧ ∀ b ρ', ρ' b = some p → VR ρ' (ans.val b) v'
theorem newRow_run (w : World) (t : TypeId) (cells : Array Value) : (newRow t cells).run P w = .ok ⟨w.heap.size, 0, none⟩ { w with heap := w.heap.push (.cells cells t (0, 0)) } := rfl
theorem asInt_sim [Sy] {k : IntKind} {n : Int} {v' : Value} (h : VR ρ (.int k n) v') (w : World) : (asInt v').run P w = .ok n w := by
  cases h; rfl
set_option maxHeartbeats 1000000 in
theorem new_sim [Sy] (hE : EnvOk E P) {T : Tmps} {a : Act} (h : TR ρ T a.tmps) {o : Oper} {ob : AObj} {ans : Ans} (e : newOp E T o.op = some (ob, ans)) (w : World) :
    NewR ρ P (execOp a.eval o) ob ans w := by
  obtain ⟨dst, op, type, pos, after, guard⟩ := o
  cases op <;> simp only [newOp, reduceCtorEq] at e
  case alloc t =>
    cases hi : E.ty.get t with
    | none => rw [hi] at e; cases e
    | some i =>
      rw [hi] at e
      simp only at e
      cases hz : i.zero with
      | none => rw [hz] at e; cases e
      | some z =>
        rw [hz] at e
        simp only at e
        have hb := (bif_some e).1
        have e2 := (bif_some e).2
        simp only [Option.some.injEq, Prod.mk.injEq] at e2
        obtain ⟨rfl, rfl⟩ := e2
        simp only [Bool.and_eq_true] at hb
        have hv := (VR.clean (ρ := ρ) hb.1).cellsOf
        refine ⟨.pointer (some ⟨w.heap.size, 0, none⟩), .cells ⟨z.cells.toList⟩ t (0, 0), w.drawn, ⟨w.heap.size, 0, 0, z.cells.toList.length⟩, ?_, rfl, rfl, OR.row 0 w.heap.size t hv, fun b ρ' hb => ?_⟩
        · simp only [execOp, Instr.alloc, Sem.run_bind, hE.zero hi hz, Result.andThen_ok, newVar, newRow_run, Sem.run_pure]
        · exact VR.ptr (p := ⟨w.heap.size, 0, 0, z.cells.toList.length⟩) hb
  case box t x =>
    cases hx : evo T x with
    | none => rw [hx] at e; cases e
    | some u =>
      rw [hx] at e
      simp only [Option.some.injEq, Prod.mk.injEq] at e
      obtain ⟨rfl, rfl⟩ := e
      have hv := (evo_sim h hx).cellsOf
      refine ⟨.pointer (some ⟨w.heap.size, 0, none⟩), .cells ⟨(a.eval x).cells.toList⟩ t (0, 0), w.drawn, ⟨w.heap.size, 0, 0, (a.eval x).cells.toList.length⟩, ?_, rfl, rfl, OR.row 0 w.heap.size t hv, fun b ρ' hb => ?_⟩
      · simp only [execOp, Instr.box, Sem.run_bind, Result.andThen_ok, newVar, newRow_run, Sem.run_pure]
      · exact VR.ptr (p := ⟨w.heap.size, 0, 0, (a.eval x).cells.toList.length⟩) hb
  case buildSlice t n ps =>
    cases hi : E.ty.get t with
    | none => rw [hi] at e; cases e
    | some i =>
      rw [hi] at e
      simp only at e
      cases hu : i.u <;> rw [hu] at e <;> simp only [reduceCtorEq] at e
      rename_i el
      cases hj : E.ty.get el with
      | none => rw [hj] at e; cases e
      | some j =>
        cases hvs : evps T ps.toList with
        | none => rw [hj, hvs] at e; cases e
        | some vs =>
          rw [hj, hvs] at e
          simp only at e
          cases hz : j.zero with
          | none => rw [hz] at e; cases e
          | some z =>
            rw [hz] at e
            simp only at e
            have hb := (bif_some e).1
            have e2 := (bif_some e).2
            clear e
            simp only [Bool.and_eq_true] at hb
            obtain ⟨⟨hcl, hle⟩, hlen⟩ := hb
            have hle := Nat.le_of_ble_eq_true hle
            have hlen := Nat.eq_of_beq_eq_true hlen
            have hzv := (VR.clean (ρ := ρ) hcl).cellsOf
            have hzl := hzv.length
            cases hf : fillv (fun k => some (k * j.size, j.size)) ((List.replicate n (cellsOf z)).flatten) vs with
            | none => rw [hf] at e2; cases e2
            | some cs =>
              rw [hf] at e2
              simp only [Option.some.injEq, Prod.mk.injEq] at e2
              obtain ⟨rfl, rfl⟩ := e2
              obtain ⟨h1, h2⟩ := evps_sim h hvs
              have epar : (ps.map fun (i, x) => (i, a.eval x)) = ⟨ps.toList.map fun (i, x) => (i, a.eval x)⟩ := by apply Array.ext'; simp
              have hrow : ((Array.range (n * j.size)).map ((if n * j.size = 0 then #[] else z.cells)[· % (if n * j.size = 0 then #[] else z.cells).size]!) : Array Value) = ⟨(List.replicate n z.cells.toList).flatten⟩ := by
                by_cases h0 : n * j.size = 0
                · rw [h0]
                  have : (List.replicate n z.cells.toList).flatten = [] := by
                    rw [← List.length_eq_zero_iff, flat_length]; rw [hzl, hlen, h0]
                  rw [this]; simp
                · rw [if_neg h0]
                  refine range_flat z.cells.toList n _ (by rw [hzl, hlen]) _ fun k hk => ?_
                  have hpos : 0 < z.cells.size := by
                    have : z.cells.size = j.size := by rw [← hlen, ← hzl]; simp
                    rw [this]; exact Nat.pos_of_ne_zero fun e => h0 (by rw [e]; simp)
                  have hkm : k % z.cells.size < z.cells.size := Nat.mod_lt _ hpos
                  simp [hkm]
              obtain ⟨out', g1, g2⟩ := fillv_sim (place' := fun k => some (k * j.size, j.size)) (fun i x e => e) (hzv.flat n) h1 h2 hf
              refine ⟨.slice (some ⟨w.heap.size, 0, none⟩) n n, .cells ⟨out'⟩ el (0, 0), w.drawn, ⟨w.heap.size, 0, 0, out'.length⟩, ?_, rfl, rfl, OR.row 0 w.heap.size el g2, fun b ρ' hb => ?_⟩
              · have hzr : (if n * j.size = 0 then pure #[] else do pure (← zeroValue el).cells : Sem (Array Value)).run P w = .ok (if n * j.size = 0 then #[] else z.cells) w := by
                  split
                  · rfl
                  · simp only [Sem.run_bind, hE.zero hj hz, Result.andThen_ok, Sem.run_pure]
                have hnot : ¬ (n * j.size > 2 ^ 24) := by omega
                simp only [execOp, Instr.buildSlice, Sem.run_bind, hE.under hi, hu, Result.andThen_ok, hE.sizeOf hj, if_neg hnot, Sem.run_pure, epar]
                by_cases h0 : n * j.size = 0
                · have hrow' := hrow
                  rw [if_pos h0] at hrow'
                  simp only [if_pos h0, pure_bind, hrow', g1, Sem.run_bind, newRow_run, Result.andThen_ok, Sem.run_pure]
                · have hrow' := hrow
                  rw [if_neg h0] at hrow'
                  simp only [if_neg h0, pure_bind, Sem.run_bind, hE.zero hj hz, hrow', g1, newRow_run, Result.andThen_ok, Sem.run_pure]
              · have := VR.sl (ρ := ρ') (b := b) (o := 0) (n := n) (c := 2 * n) (c' := n) (p := ⟨w.heap.size, 0, 0, out'.length⟩) hb (by omega) (by omega) (by omega)
                exact this
  case makeMap t r =>
    cases hi : E.ty.get t with
    | none => rw [hi] at e; cases e
    | some i =>
      rw [hi] at e
      cases hr : evs T r.toList with
      | none => rw [hr] at e; cases e
      | some vs =>
        rw [hr] at e
        simp only at e
        cases hu : i.u <;> rw [hu] at e <;> simp only [reduceCtorEq] at e
        have hall := (bif_some e).1
        have e2 := (bif_some e).2
        simp only [Option.some.injEq, Prod.mk.injEq] at e2
        obtain ⟨rfl, rfl⟩ := e2
        have hov := evs_head h hr
        refine ⟨.map (some w.heap.size), .map #[] 0, w.drawn, ⟨w.heap.size, 0, 0, 0⟩, ?_, rfl, rfl, .map 0 .nil, fun b ρ' hb => VR.map (p := ⟨w.heap.size, 0, 0, 0⟩) hb⟩
        simp only [execOp]
        cases r with
        | none => simp [Instr.makeMap]
        | some x =>
          have hvs := evs_sim h hr
          simp only [Option.toList] at hr hvs
          cases vs with
          | nil => cases hvs
          | cons v vs =>
            cases hvs with
            | cons hv _ =>
              simp only [List.all_cons, Bool.and_eq_true] at hall
              have hv1 := hall.1
              cases v <;> simp only [Bool.false_eq_true] at hv1
              simp only [Instr.makeMap, Option.map_some, Sem.run_bind, hE.under hi, hu, Result.andThen_ok, asInt_sim hv, Sem.run_pure, run_newObj]
  case makeSlice t l c =>
    split at e
    · rename_i i k1 n1 k2 n2 hi hl hc
      cases hu : i.u <;> rw [hu] at e <;> simp only [reduceCtorEq] at e
      rename_i el
      cases hj : E.ty.get el with
      | none => rw [hj] at e; cases e
      | some j =>
        rw [hj] at e
        simp only at e
        cases hz : j.zero with
        | none => rw [hz] at e; cases e
        | some z =>
          rw [hz] at e
          simp only at e
          split at e
          · rename_i hrange
            have hb := (bif_some e).1
            have e2 := (bif_some e).2
            clear e
            simp only [Bool.and_eq_true] at hb
            obtain ⟨⟨hcl, hle⟩, hlen⟩ := hb
            have hle := Nat.le_of_ble_eq_true hle
            have hlen := Nat.eq_of_beq_eq_true hlen
            simp only [Option.some.injEq, Prod.mk.injEq] at e2
            obtain ⟨rfl, rfl⟩ := e2
            have hzv := (VR.clean (ρ := ρ) hcl).cellsOf
            have hzl := hzv.length
            obtain ⟨inf, hinf, hby, _⟩ := hE.info hj
            have hw1 : IntKind.i64.wrap n1 = n1 := by
              have h1 := hrange.1; have h2 := hrange.2.1; have h3 := hrange.2.2
              exact IntWalk.i64_in _ (by omega)
            have hw2 : IntKind.i64.wrap n2 = n2 := by
              have h1 := hrange.1; have h2 := hrange.2.1; have h3 := hrange.2.2
              exact IntWalk.i64_in _ (by omega)
            have hn2 : ((n2.toNat : Nat) : Int) = n2 := Int.toNat_of_nonneg (by omega)
            have hbytes : ¬ ((inf.bytes : Int) * n2 > 2 ^ 48) := by
              rw [← hn2, hby]
              have : ((n2.toNat * j.bytes : Nat) : Int) ≤ 140737488355328 := Int.ofNat_le.2 hle
              rw [Int.mul_comm]
              have h2 : ((n2.toNat : Int) * (j.bytes : Int)) = ((n2.toNat * j.bytes : Nat) : Int) := (Int.natCast_mul _ _).symm
              rw [h2]; omega
            have htl : (decide (n2 < 0) || decide ((inf.bytes : Int) * n2 > 2 ^ 48)) = false := by
              simp only [Bool.or_eq_false_iff, decide_eq_false_iff_not]
              exact ⟨by omega, hbytes⟩
            have hrow : ((Array.range (n2.toNat * j.size)).map ((if n2.toNat * j.size = 0 then #[] else z.cells)[· % (if n2.toNat * j.size = 0 then #[] else z.cells).size]!) : Array Value) = ⟨(List.replicate n2.toNat z.cells.toList).flatten⟩ := by
              by_cases h0 : n2.toNat * j.size = 0
              · rw [h0]
                have : (List.replicate n2.toNat z.cells.toList).flatten = [] := by
                  rw [← List.length_eq_zero_iff, flat_length]; rw [hzl, hlen, h0]
                rw [this]; simp
              · rw [if_neg h0]
                refine range_flat z.cells.toList n2.toNat _ (by rw [hzl, hlen]) _ fun k hk => ?_
                have hpos : 0 < z.cells.size := by
                  have : z.cells.size = j.size := by rw [← hlen, ← hzl]; simp
                  rw [this]; exact Nat.pos_of_ne_zero fun e => h0 (by rw [e]; simp)
                have hkm : k % z.cells.size < z.cells.size := Nat.mod_lt _ hpos
                simp [hkm]
            have hinfo : (typeInfo el).run P w = .ok inf w := run_typeInfo w hinf
            have hzr : (if n2.toNat * j.size = 0 then pure #[] else do pure (← zeroValue el).cells : Sem (Array Value)).run P w = .ok (if n2.toNat * j.size = 0 then #[] else z.cells) w := by
              split
              · rfl
              · simp only [Sem.run_bind, hE.zero hj hz, Result.andThen_ok, Sem.run_pure]
            refine ⟨.slice (some ⟨w.heap.size, 0, none⟩) n1.toNat n2.toNat, .cells ⟨(List.replicate n2.toNat z.cells.toList).flatten⟩ el (0, 0), w.drawn, ⟨w.heap.size, 0, 0, ((List.replicate n2.toNat z.cells.toList).flatten).length⟩, ?_, rfl, rfl, OR.row 0 w.heap.size el (hzv.flat n2.toNat), fun b ρ' hb => ?_⟩
            · have hcond : (decide (n2 < 0) || decide ((inf.bytes : Int) * n2 > 2 ^ 48) || decide (n1 < 0) || decide (n1 > n2)) = false := by
                rw [htl, Bool.false_or]; simp only [Bool.or_eq_false_iff, decide_eq_false_iff_not]; exact ⟨by omega, by omega⟩
              simp only [execOp, Instr.makeSlice, Sem.run_bind, hE.under hi, hu, Result.andThen_ok, asInt_sim (evo_sim h hl), asInt_sim (evo_sim h hc), hinfo, hw1, hw2, hcond, Bool.false_eq_true, if_false, run_askRoom, hE.sizeOf hj]
              by_cases h0 : n2.toNat * j.size = 0
              · have hrow' := hrow
                rw [if_pos h0] at hrow'
                simp only [if_pos h0, pure_bind, hrow', Sem.run_bind, newRow_run, Result.andThen_ok, Sem.run_pure]
              · have hrow' := hrow
                rw [if_neg h0] at hrow'
                simp only [if_neg h0, pure_bind, Sem.run_bind, hE.zero hj hz, hrow', newRow_run, Result.andThen_ok, Sem.run_pure]
            · have := VR.sl (ρ := ρ') (b := b) (o := 0) (n := n1.toNat) (c := 2 * n2.toNat) (c' := n2.toNat) (p := ⟨w.heap.size, 0, 0, ((List.replicate n2.toNat z.cells.toList).flatten).length⟩) hb (by omega) (by omega) (by omega)
              exact this
          · cases e
    · cases e
  case convert s d x =>
    split at e
    · rename_i i j b hi hj hx
      split at e
      · rename_i el hu hu2
        cases hk : E.ty.get el with
        | none => rw [hk] at e; cases e
        | some k =>
          rw [hk] at e
          simp only at e
          split at e
          · rename_i hku
            simp only [Option.some.injEq, Prod.mk.injEq] at e
            obtain ⟨rfl, rfl⟩ := e
            have hxv := evo_sim h hx
            generalize hcap : (Question.appendCap b.size 0 el).cut (w.tape w.drawn (.appendCap b.size 0 el)) = cap
            have hcs : b.size ≤ cap := by rw [← hcap]; simp only [Question.cut]; omega
            generalize hcells : ((b.data.map fun c => Value.int .u8 c.toNat) ++ Array.replicate (cap - b.size) (.int .u8 0) : Array Value) = cells
            have hsz : cells.size = cap := by
              rw [← hcells]
              have : b.size = b.data.size := rfl
              simp; omega
            refine ⟨.slice (some ⟨w.heap.size, 0, none⟩) b.size cap, .cells cells el (cap, cap + 1), w.drawn + 1, ⟨w.heap.size, 0, 1, cap⟩, ?_, rfl, rfl, ?_, fun c ρ' hc => ?_⟩
            · have hconv : (convert s d (a.eval x)).run P w = (Conv.stringToBytes el b).run P w := by
                cases hv : a.eval x <;> rw [hv] at hxv <;> cases hxv
                unfold convert
                rw [bind_ok (hE.under hi w), bind_ok (hE.under hj w), hu, hu2]
                simp only
                rw [bind_ok (hE.under hk w), hku]
              have hpush : ((w.heap.push (.cells cells el (0, 0))).modify w.heap.size fun
                  | .cells c elem (lo, hi) => .cells c elem (if lo == hi then (cap, cap + 1) else (min lo cap, max hi (cap + 1)))
                  | o => o) = w.heap.push (.cells cells el (cap, cap + 1)) := by
                apply Array.ext_getElem?
                intro n
                rw [Array.getElem?_modify, Array.getElem?_push, Array.getElem?_push]
                by_cases hn : n = w.heap.size
                · subst hn; simp
                · rw [if_neg (fun e => hn e.symm), if_neg hn, if_neg hn]
              simp only [execOp, Sem.run_bind, hconv, Conv.stringToBytes, run_choose, Question.forced, Bool.false_eq_true, if_false, Result.andThen_ok, hcap, hcells, newRow_run, markStringish, run_shape, World.shape?]
              simp only [Array.getElem?_push_size, run_freeze, World.freeze, hsz, Result.andThen_ok, Sem.run_pure]
              simp only [Nat.one_ne_zero, if_false]
              exact congrArg (fun hp => Result.ok (Next.value (Value.slice (some ⟨w.heap.size, 0, none⟩) b.size cap)) ({ w with heap := hp, drawn := w.drawn + 1 } : World)) hpush
            · refine .cells hsz rfl ?_ ?_ ?_ fun _ _ => rfl
              · simp only [List.length_map]
                have : b.size = b.data.toList.length := rfl
                omega
              · intro n v e
                refine ⟨v, ?_, ?_⟩
                · rw [← hcells]
                  have hlt : n < b.data.size := by
                    have := (List.getElem?_eq_some_iff.1 e).1; simpa using this
                  rw [Array.getElem?_append_left (by simpa using hlt)]
                  simpa using e
                · simp only [List.getElem?_map, Option.map_eq_some_iff] at e
                  obtain ⟨c, _, rfl⟩ := e
                  exact .int _ _
              · intro n hn; simp only; simp only at hn; omega
            · have := VR.sl (ρ := ρ') (b := c) (o := 0) (n := b.size) (c := 2 * b.size + 1) (c' := cap) (p := ⟨w.heap.size, 0, 1, cap⟩) hc (by omega) (by omega) (by simp)
              exact this
          · cases e
      · cases e
    · cases e
end
end Go.Ev
