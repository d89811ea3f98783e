/- Operations that change memory: stores, append, copy, clear. -/
import Derived.Test.YthbphkakekdfkaaGreatDoorEv9
import Derived.Laws.IdiomCopy
namespace Go.Ev
open Go Go.RowKit
section
variable {E : Env} {P : Program} {ρ : Ren}
theorem setCells_heap (g : Nat) (t : TypeId) (fz : Nat × Nat) : ∀ (vs : List Value) (o : Nat) (cur : Array Value) (w : World), w.heap[g]? = some (.cells cur t fz) →
    ∃ cur' : Array Value, (w.setCells g o vs).heap[g]? = some (.cells cur' t fz) ∧ cur'.size = cur.size ∧
      (∀ k, k < cur.size → cur'[k]? = if o ≤ k ∧ k < o + vs.length then vs[k - o]? else cur[k]?) ∧ (∀ c, c ≠ g → (w.setCells g o vs).heap[c]? = w.heap[c]?) ∧
      (w.setCells g o vs).os = w.os ∧ (w.setCells g o vs).tape = w.tape ∧ (w.setCells g o vs).output = w.output ∧ (w.setCells g o vs).heap.size = w.heap.size
  | [], o, cur, w, h => ⟨cur, h, rfl, fun k _ => by rw [if_neg (by simp)], fun _ _ => rfl, rfl, rfl, rfl, rfl⟩
  | v :: vs, o, cur, w, h => by
    have h1 : (w.setCell ⟨g, o, none⟩ v).heap[g]? = some (.cells (cur.setIfInBounds o v) t fz) := by
      simp only [World.setCell, Array.getElem?_modify, if_true, h, Option.map_some]
      rfl
    obtain ⟨cur', g1, g2, g3, g4, g5, g6, g7, g8⟩ := setCells_heap g t fz vs (o + 1) (cur.setIfInBounds o v) (w.setCell ⟨g, o, none⟩ v) h1
    refine ⟨cur', g1, by simpa using g2, ?_, ?_, g5, g6, g7, ?_⟩
    · intro k hk
      rw [g3 k (by simpa using hk)]
      simp only [List.length_cons]
      by_cases h2 : o + 1 ≤ k ∧ k < o + 1 + vs.length
      · rw [if_pos h2, if_pos (by omega)]
        obtain ⟨m, rfl⟩ : ∃ m, k = o + 1 + m := ⟨k - (o + 1), by omega⟩
        rw [show o + 1 + m - (o + 1) = m from by omega, show o + 1 + m - o = m + 1 from by omega]
        simp
      · rw [if_neg h2, Array.getElem?_setIfInBounds]
        by_cases h3 : o = k
        · subst h3
          rw [if_pos rfl, if_pos hk, if_pos (by omega)]; simp
        · rw [if_neg h3, if_neg (by omega)]
    · intro c hc
      show (World.setCells (w.setCell ⟨g, o, none⟩ v) g (o + 1) vs).heap[c]? = _
      rw [g4 c hc]
      simp only [World.setCell, Array.getElem?_modify]
      rw [if_neg (fun e => hc e.symm)]
    · show (World.setCells (w.setCell ⟨g, o, none⟩ v) g (o + 1) vs).heap.size = _
      rw [g8]; simp [World.setCell]
theorem VRs.one [Sy] : ∀ {l l' : List Value}, VRs ρ l l' → l.all oneCell = true → ∀ v ∈ l', v.oneCell' = true
  | _, _, .nil, _, v, hv => by simp at hv
  | _, _, .cons h t, h1, v, hv => by
    simp only [List.all_cons, Bool.and_eq_true] at h1
    rcases List.mem_cons.1 hv with rfl | hv
    · rw [show v.oneCell' = oneCell v from by cases v <;> rfl, h.oneCell]; exact h1.1
    · exact VRs.one t h1.2 v hv
theorem storeCells_post [Sy] {H : AH} {w : World} (hR : Rel ρ H w) {b : Nat} {p : Pl} {cs : List Value} {es off : Nat} {vs vs' : List Value} (hb : ρ b = some p) (hg : H.get b = some (.cells cs es))
    (hv : VRs ρ vs vs') (hle : off + vs.length ≤ cs.length) (h1 : vs.all oneCell = true) :
    ∃ w', (storeCells ⟨p.c, p.d + off, none⟩ vs').run P w = .ok () w' ∧ Post ρ H w ρ (H.set b (.cells (lset cs off vs) es)) w' := by
  obtain ⟨arr, t, fz, hC⟩ := hR.cells hb hg
  have hlen := hv.length
  have hfit := hC.fits
  have hsz := hC.size
  have hone : ∀ v ∈ vs', v.oneCell' = true := hv.one h1
  obtain ⟨cur', g1, g2, g3, g4, g5, g6, g7, g8⟩ := setCells_heap p.c t fz vs' (p.d + off) arr w hC.heap
  refine ⟨w.setCells p.c (p.d + off) vs', ?_, ?_⟩
  · have := run_storeCells_cells (P := P) p.c (p.d + off) vs' 0 w (fun j hj => by
        simp only [World.cell?, hC.heap, Option.isSome_none, Bool.false_eq_true, if_false, Nat.add_zero]
        rw [Array.getElem?_eq_getElem (by omega)]; rfl) (fun j hj => by
        simp only [World.frozen?, hC.heap, Nat.add_zero]
        have := hC.free (p.d + off + j) (by omega)
        simpa using this) hone
    simpa using this
  · refine Post.set hR hb hg rfl ?_ g5 g6 g7 g8 g1 g4
    refine .cells (by omega) hC.es ?_ ?_ hC.free fun h0 hl => hC.zero (hC.es.symm.trans h0) (by simp only [lset, List.length_append, List.length_take, List.length_drop] at hl; omega)
    · simp only [lset, List.length_append, List.length_take, List.length_drop]; omega
    · intro i v e
      have hil : i < cs.length := by
        have := (List.getElem?_eq_some_iff.1 e).1
        simp only [lset, List.length_append, List.length_take, List.length_drop] at this; omega
      rw [g3 (p.d + i) (by omega)]
      rw [lset, getElem?_splice cs vs off i hle] at e
      by_cases h2 : off ≤ i ∧ i < off + vs.length
      · rw [if_pos h2] at e
        rw [if_pos (by omega)]
        obtain ⟨v', k1, k2⟩ := hv.get e
        exact ⟨v', by rw [show p.d + i - (p.d + off) = i - off from by omega]; exact k1, k2⟩
      · rw [if_neg h2] at e
        rw [if_neg (by omega)]
        obtain ⟨v', k1, k2⟩ := hC.rel.get e
        rw [List.getElem?_take, if_pos hil, List.getElem?_drop] at k1
        exact ⟨v', by simpa using k1, k2⟩
theorem storeCellsv_post [Sy] {H H' : AH} {w : World} (hR : Rel ρ H w) {b off : Nat} {p : Pl} {vs vs' : List Value} (hb : ρ b = some p) (hv : VRs ρ vs vs') (e : storeCellsv H b off vs = some H') :
    ∃ w', (storeCells ⟨p.c, p.d + off, none⟩ vs').run P w = .ok () w' ∧ Post ρ H w ρ H' w' := by
  unfold storeCellsv at e
  split at e
  · rename_i cs es hg
    have h1 := (bif_some e).1
    have e2 := (bif_some e).2
    simp only [Option.some.injEq] at e2
    subst e2
    simp only [Bool.and_eq_true] at h1
    exact storeCells_post hR hb hg hv (Nat.le_of_ble_eq_true h1.1) h1.2
  · cases e
theorem storev_post [Sy] (hE : EnvOk E P) {H H' : AH} {w : World} (hR : Rel ρ H w) {t : TypeId} {x x' v v' : Value} (hx : VR ρ x x') (hv : VR ρ v v') (e : storev E H t x v = some H') :
    ∃ w', (Instr.storeAt t x' v').run P w = .ok () w' ∧ Post ρ H w ρ H' w' := by
  unfold storev at e
  split at e
  · rename_i a i hi
    have h1 := Nat.eq_of_beq_eq_true (bif_some e).1
    have e2 := (bif_some e).2
    clear e
    cases hx with
    | @ptr b o p hb =>
      have hcells := hv.cellsOf
      obtain ⟨w', g1, g2⟩ := storeCellsv_post (P := P) hR hb hcells e2
      refine ⟨w', ?_, g2⟩
      unfold Instr.storeAt
      simp only [Instr.sureAddr, pure_bind]
      unfold storeVar
      rw [bind_ok (hE.sizeOf hi w)]
      have hlen := hcells.length
      have hno : ¬ (v'.cells.size ≠ i.size) := by
        rw [← h1, ← hlen]; simp
      rw [if_neg hno]
      simpa using g1
  · cases e
/-! ### append, copy, clear -/
theorem lenOfv_sim [Sy] {x x' : Value} {n : Nat} (hx : VR ρ x x') (e : lenOfv x = some n) (w : World) : (Builtin.lenOf x').run P w = .ok n w := by
  cases hx <;> simp only [lenOfv, reduceCtorEq, Option.some.injEq] at e <;> (subst e; rfl)
theorem takev_sim [Sy] {H : AH} {w : World} (hR : Rel ρ H w) {x x' : Value} {size n : Nat} {cs : List Value} (hx : VR ρ x x') (e : takev H size n x = some cs) :
    ∃ cs', (∀ m, (Builtin.firstCells size n x').run P { w with drawn := m } = .ok ⟨cs'⟩ { w with drawn := m }) ∧ VRs ρ cs cs' := by
  cases hx <;> simp only [takev, reduceCtorEq] at e
  case str s =>
    have h1 := Nat.eq_of_beq_eq_true (bif_some e).1
    have e2 := (bif_some e).2
    simp only [Option.some.injEq] at e2
    subst e2
    refine ⟨(s.data.toList.take n).map fun b => .int .u8 b.toNat, fun m => ?_, ?_⟩
    · simp only [Builtin.firstCells, Sem.run_pure, Result.ok.injEq, and_true]
      apply Array.ext'
      simp [ByteArray.data_extract, List.extract_eq_take_drop]
    · clear e
      induction (s.data.toList.take n) with
      | nil => exact .nil
      | cons a l ih => exact .cons (.int _ _) ih
  case snil =>
    have h1 := Nat.eq_of_beq_eq_true (bif_some e).1
    have e2 := (bif_some e).2
    simp only [Option.some.injEq] at e2
    subst e2
    exact ⟨[], fun _ => rfl, .nil⟩
  case sany a cap =>
    have h1 := Nat.eq_of_beq_eq_true (bif_some e).1
    have e2 := (bif_some e).2
    simp only [Option.some.injEq] at e2
    subst e2
    subst h1
    exact ⟨[], fun _ => by simp [Builtin.firstCells, loadCells, loadCellsFrom], .nil⟩
  case sl b o len c c' p hb h0 h1 h2 =>
    cases hz : Nat.beq n 0 with
    | true =>
      have h1 := Nat.eq_of_beq_eq_true hz
      rw [hz] at e
      simp only [cond_true, Option.some.injEq] at e
      subst e
      subst h1
      exact ⟨[], fun _ => by simp [Builtin.firstCells, loadCells, loadCellsFrom], .nil⟩
    | false =>
    rw [hz] at e
    simp only [cond_false] at e
    split at e
    · rename_i cs0 hg
      have hn := Nat.le_of_ble_eq_true (bif_some e).1
      have e2 := (bif_some e).2
      simp only [Option.some.injEq] at e2
      subst e2
      obtain ⟨arr, tt, fz, hC⟩ := hR.rows hb hg
      obtain ⟨l', g1, g2, g3⟩ := hC.range hn
      refine ⟨l', fun m => ?_, g2⟩
      simp only [Builtin.firstCells]
      exact run_loadCells_len (w := { w with drawn := m }) g1 (fun j v e => g3 j v e)
    · cases e
theorem isApT_is [Sy] (hE : EnvOk E P) {t : TypeId} (h : isApT E t = true) : P.underlying t = some .string ∨ ∃ e, P.underlying t = some (.slice e) := by
  unfold isApT at h
  cases hi : E.ty.get t with
  | none => rw [hi] at h; cases h
  | some i =>
    rw [hi] at h
    simp only at h
    obtain ⟨inf, _, hu, _⟩ := hE.ty t i hi
    split at h
    · rename_i e he; exact .inr ⟨e, by rw [hu, he]⟩
    · rename_i he; exact .inl (by rw [hu, he])
    · cases h
theorem growv_post [Sy] {H : AH} {w : World} (hR : Rel ρ H w) (hf : ρ H.next = none) {cells cells' rest' : List Value} {es need cap : Nat} (t : TypeId) (hc : VRs ρ cells cells')
    (hneed : cells.length = need * es) (hcap : need ≤ cap) (hrest : rest'.length = (cap - need) * es) (n : Nat) :
    ∃ ρ', Post ρ H w ρ' (growv H es cells need).2 { w with heap := w.heap.push (.cells ⟨cells' ++ rest'⟩ t (0, 0)), drawn := n } ∧
      VR ρ' (growv H es cells need).1 (.slice (some ⟨w.heap.size, 0, none⟩) need cap) := by
  have hlen := hc.length
  refine ⟨ρ.add H.next ⟨w.heap.size, 0, es, cap * es⟩, ?_, ?_⟩
  · refine Post.alloc hR hf (.cells cells es) _ ⟨w.heap.size, 0, es, cap * es⟩ rfl n ?_
    have hx : Ext ρ (ρ.add H.next ⟨w.heap.size, 0, es, cap * es⟩) := Ren.ext_add hf
    have hmul : need * es + (cap - need) * es = cap * es := by rw [← Nat.add_mul]; congr 1; omega
    refine .cells ?_ rfl ?_ ?_ (by intro i _; simp) fun _ _ => rfl
    · simp; omega
    · simp only; omega
    · intro i v e
      obtain ⟨v', h1, h2⟩ := hc.get e
      refine ⟨v', ?_, h2.mono hx⟩
      have hi : i < cells'.length := (List.getElem?_eq_some_iff.1 h1).1
      simp only [Nat.zero_add, List.getElem?_toArray]
      rw [List.getElem?_append_left hi]; exact h1
  · have := VR.sl (ρ := ρ.add H.next ⟨w.heap.size, 0, es, cap * es⟩) (b := H.next) (o := 0) (n := need) (c := 2 * need + 1) (c' := cap) (p := ⟨w.heap.size, 0, es, cap * es⟩) (Ren.add_self _ _ _) (by omega) (by omega) (by simp)
    exact this
end
end Go.Ev
