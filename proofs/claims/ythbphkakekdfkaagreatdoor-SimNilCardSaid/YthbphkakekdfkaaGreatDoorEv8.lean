/- Operations that read. -/
import Derived.Test.YthbphkakekdfkaaGreatDoorEv7
namespace Go.Ev
open Go Go.RowKit
section
variable {E : Env} {P : Program} {ρ : Ren}
structure CellsAt [Sy] (ρ : Ren) (w : World) (p : Pl) (cs : List Value) (es : Nat) (arr : Array Value) (t : TypeId) (fz : Nat × Nat) : Prop where
  heap : w.heap[p.c]? = some (.cells arr t fz)
  size : arr.size = p.z
  es : es = p.e
  fits : p.d + cs.length ≤ p.z
  rel : VRs ρ cs ((arr.toList.drop p.d).take cs.length)
  free : ∀ i, i < p.z → ¬ (fz.1 ≤ i ∧ i < fz.2)
  zero : p.e = 0 → 0 < cs.length → p.d = 0
structure RowAt [Sy] (ρ : Ren) (w : World) (p : Pl) (cs : List Value) (arr : Array Value) (t : TypeId) (fz : Nat × Nat) : Prop where
  heap : w.heap[p.c]? = some (.cells arr t fz)
  size : arr.size = p.z
  fits : p.d + cs.length ≤ p.z
  rel : VRs ρ cs ((arr.toList.drop p.d).take cs.length)
theorem CellsAt.row [Sy] {w : World} {p : Pl} {cs : List Value} {es : Nat} {arr : Array Value} {t : TypeId} {fz : Nat × Nat} (h : CellsAt ρ w p cs es arr t fz) : RowAt ρ w p cs arr t fz :=
  ⟨h.heap, h.size, h.fits, h.rel⟩
theorem Rel.cells [Sy] {H : AH} {w : World} (hR : Rel ρ H w) {b : Nat} {p : Pl} {cs : List Value} {es : Nat} (hb : ρ b = some p) (hg : H.get b = some (.cells cs es)) :
    ∃ arr t fz, CellsAt ρ w p cs es arr t fz := by
  obtain ⟨ob, h1, h2⟩ := hR.obj b p _ hb hg
  cases h2 with
  | @cells _ _ arr t fz hz he hl hc hf hd =>
    refine ⟨arr, t, fz, h1, hz, he, hl, ?_, hf, fun h0 => hd (he.trans h0)⟩
    refine VRs.of_get ?_ fun i v e => ?_
    · simp; omega
    · obtain ⟨v', g1, g2⟩ := hc i v e
      have hi : i < cs.length := (List.getElem?_eq_some_iff.1 e).1
      refine ⟨v', ?_, g2⟩
      rw [List.getElem?_take, if_pos hi, List.getElem?_drop]
      simpa using g1
theorem Rel.rows [Sy] {H : AH} {w : World} (hR : Rel ρ H w) {b : Nat} {p : Pl} {cs : List Value} (hb : ρ b = some p) (hg : H.rd b = some cs) :
    ∃ arr t fz, RowAt ρ w p cs arr t fz := by
  unfold AH.rd at hg
  split at hg
  · rename_i cs' es h
    cases hg
    obtain ⟨arr, t, fz, hC⟩ := hR.cells hb h
    exact ⟨arr, t, fz, hC.row⟩
  · rename_i cs' h
    cases hg
    obtain ⟨ob, h1, h2⟩ := hR.obj b p _ hb h
    cases h2 with
    | @ro _ arr t fz hz hl hc =>
      refine ⟨arr, t, fz, h1, hz, hl, ?_⟩
      refine VRs.of_get ?_ fun i v e => ?_
      · simp; omega
      · obtain ⟨v', g1, g2⟩ := hc i v e
        have hi : i < cs.length := (List.getElem?_eq_some_iff.1 e).1
        refine ⟨v', ?_, g2⟩
        rw [List.getElem?_take, if_pos hi, List.getElem?_drop]
        simpa using g1
  · cases hg
theorem RowAt.cell [Sy] {w : World} {p : Pl} {cs : List Value} {arr : Array Value} {t : TypeId} {fz : Nat × Nat} (h : RowAt ρ w p cs arr t fz)
    {off : Nat} {v : Value} (e : cs[off]? = some v) : ∃ v', w.cell? ⟨p.c, p.d + off, none⟩ = some v' ∧ VR ρ v v' := by
  obtain ⟨v', g1, g2⟩ := h.rel.get e
  have hi : off < cs.length := (List.getElem?_eq_some_iff.1 e).1
  rw [List.getElem?_take, if_pos hi, List.getElem?_drop] at g1
  exact ⟨v', by simp only [World.cell?, h.heap]; simpa using g1, g2⟩
theorem RowAt.range [Sy] {w : World} {p : Pl} {cs : List Value} {arr : Array Value} {t : TypeId} {fz : Nat × Nat} (h : RowAt ρ w p cs arr t fz)
    {off n : Nat} (hn : off + n ≤ cs.length) : ∃ l' : List Value, l'.length = n ∧ VRs ρ ((cs.drop off).take n) l' ∧ ∀ j v, l'[j]? = some v → w.cell? ((⟨p.c, p.d + off, none⟩ : Addr).add j) = some v := by
  refine ⟨(((arr.toList.drop p.d).take cs.length).drop off).take n, ?_, (h.rel.drop off).take n, ?_⟩
  · have := h.size; have := h.fits; simp; omega
  · intro j v e
    have hj : j < n := by
      have := (List.getElem?_eq_some_iff.1 e).1
      simp at this; omega
    rw [List.getElem?_take, if_pos hj, List.getElem?_drop, List.getElem?_take, if_pos (by omega), List.getElem?_drop] at e
    rw [add_none]
    simp only [World.cell?, h.heap]
    rw [show p.d + off + j = p.d + (off + j) from by omega]
    simpa using e
theorem CellsAt.cell [Sy] {w : World} {p : Pl} {cs : List Value} {es : Nat} {arr : Array Value} {t : TypeId} {fz : Nat × Nat} (h : CellsAt ρ w p cs es arr t fz)
    {off : Nat} {v : Value} (e : cs[off]? = some v) : ∃ v', w.cell? ⟨p.c, p.d + off, none⟩ = some v' ∧ VR ρ v v' := h.row.cell e
theorem CellsAt.range [Sy] {w : World} {p : Pl} {cs : List Value} {es : Nat} {arr : Array Value} {t : TypeId} {fz : Nat × Nat} (h : CellsAt ρ w p cs es arr t fz)
    {off n : Nat} (hn : off + n ≤ cs.length) : ∃ l' : List Value, l'.length = n ∧ VRs ρ ((cs.drop off).take n) l' ∧ ∀ j v, l'[j]? = some v → w.cell? ((⟨p.c, p.d + off, none⟩ : Addr).add j) = some v := h.row.range hn
theorem run_loadCells_len {w : World} {a : Addr} {l : List Value} {n : Nat} (hn : l.length = n) (h : ∀ j v, l[j]? = some v → w.cell? (a.add j) = some v) : (loadCells a n).run P w = .ok ⟨l⟩ w := by
  subst hn; exact run_loadCells_list w a l h
theorem loadv_sim [Sy] (hE : EnvOk E P) {H : AH} {w : World} (hR : Rel ρ H w) {t : TypeId} {x x' r : Value} (hx : VR ρ x x') (e : loadv E H t x = some r) :
    ∃ r', (Instr.loadAt t x').run P w = .ok r' w ∧ VR ρ r r' := by
  cases hx <;> simp only [loadv, reduceCtorEq] at e
  rename_i b o p hb
  split at e
  · rename_i i cs hi hg
    obtain ⟨arr, tt, fz, hC⟩ := hR.rows hb hg
    unfold Instr.loadAt
    simp only [Instr.sureAddr, pure_bind]
    unfold loadVar
    rw [bind_ok (hE.isAgg hi w)]
    cases ha : i.agg
    · rw [ha] at e
      simp only [cond_false] at e
      obtain ⟨v', h1, h2⟩ := hC.cell e
      exact ⟨v', by simp [h1], h2⟩
    · rw [ha] at e
      simp only [cond_true] at e
      have hn := Nat.le_of_ble_eq_true (bif_some e).1
      have e2 := (bif_some e).2
      simp only [Option.some.injEq] at e2
      subst e2
      obtain ⟨l', h1, h2, h3⟩ := hC.range hn
      refine ⟨.agg ⟨l'⟩, ?_, .agg h2⟩
      simp only [if_true, Sem.run_bind, hE.sizeOf hi, Result.andThen_ok, run_loadCells_len h1 h3, Sem.run_pure]
  · cases e
/-! ### Maps -/
theorem ERs.length [Sy] {a b : List MapEntry} (h : ERs ρ a b) : b.length = a.length := by
  induction h with
  | nil => rfl
  | cons _ _ ih => simp [ih]
theorem keyok_sim [Sy] (hE : EnvOk E P) : ∀ (d : Nat) {d' : Nat} {t : TypeId} {k k' : Value}, d ≤ d' → VR ρ k k' → keyok E d t k = true → ∀ (em : Bool) (w : World), (Instr.checkKey em d' t k').run P w = .ok () w := by
  intro d
  induction d with
  | zero => intro d' t k k' _ _ e; simp [keyok] at e
  | succ d ih =>
    intro d' t k k' hd hk e em w
    obtain ⟨d', rfl⟩ : ∃ m, d' = m + 1 := ⟨d' - 1, by omega⟩
    unfold keyok at e
    cases hi : E.ty.get t with
    | none => rw [hi] at e; cases e
    | some i =>
      rw [hi] at e
      simp only at e
      unfold Instr.checkKey
      rw [bind_ok (hE.under hi w)]
      split at e
      · rename_i hu; cases hk; rw [hu]; rfl
      · rename_i hu; cases hk; rw [hu]; rfl
      · rename_i hu; cases hk; rw [hu]; rfl
      · rename_i fs cs hu
        rw [hu]
        cases hk with
        | @agg l l' hl =>
          simp only
          rw [← Array.forIn_toList]
          generalize fs.toList = fl at e
          clear hu hi
          induction fl generalizing w with
          | nil => simp
          | cons f fl ihf =>
            simp only [List.all_cons, Bool.and_eq_true] at e
            obtain ⟨e1, e2⟩ := e
            simp only [List.forIn_cons]
            cases hp : partOf E f.type l f.offset with
            | none => rw [hp] at e1; cases e1
            | some x =>
              rw [hp] at e1
              obtain ⟨x', hx1, hx2⟩ := part_sim hE hl hp w
              by_cases hn : f.name = "_"
              · simpa [hn] using ihf w e2
              · have := ih (d' := d') (by omega) hx2 e1 em w
                simp only [ne_eq, hn, not_false_eq_true, if_true, Sem.run_bind, hx1, Result.andThen_ok, this, Sem.run_pure]
                simpa only [Sem.run_bind, Sem.run_pure] using ihf w e2
      · rename_i n el cs hu
        rw [hu]
        cases hk with
        | @agg l l' hl =>
          simp only
          cases hj : E.ty.get el with
          | none => rw [hj] at e; cases e
          | some j =>
            rw [hj] at e
            simp only at e
            rw [Std.Legacy.Range.forIn_eq_forIn_range']
            simp only [Std.Legacy.Range.size, Nat.sub_zero, Nat.add_sub_cancel, Nat.div_one]
            rw [List.range_eq_range'] at e
            clear hu hi
            generalize 0 = s at e
            induction n generalizing w s with
            | zero => simp
            | succ n ihn =>
              simp only [List.range'_succ, List.all_cons, Bool.and_eq_true] at e
              obtain ⟨e1, e2⟩ := e
              simp only [List.range'_succ, List.forIn_cons]
              cases hp : partOf E el l (s * j.size) with
              | none => rw [hp] at e1; cases e1
              | some x =>
                rw [hp] at e1
                obtain ⟨x', hx1, hx2⟩ := part_sim hE hl hp w
                have := ih (d' := d') (by omega) hx2 e1 em w
                simp only [Sem.run_bind, hE.sizeOf hj, hx1, Result.andThen_ok, this, Sem.run_pure]
                simpa only [Sem.run_bind, Sem.run_pure] using ihn w (s + 1) e2
      · cases e
theorem findAsking_sim [Sy] (hE : EnvOk E P) {kt : TypeId} {k k' : Value} (hk : VR ρ k k') : ∀ {es es' : List MapEntry} {i : Nat} {r : Option (Nat × Value)}, ERs ρ es es' → findv E kt k es i = some r → ∀ w : World,
    ∃ r', (Instr.findAsking kt k' es' i).run P w = .ok r' w ∧ (∀ n v, r = some (n, v) → ∃ v', r' = some (n, v') ∧ VR ρ v v') ∧ (r = none → r' = none)
  | _, _, i, r, .nil, e, w => by
    simp only [findv, Option.some.injEq] at e
    subst e
    exact ⟨none, rfl, by simp, by simp⟩
  | _, _, i, r, .cons (a := a) (b := b) h t, e, w => by
    simp only [findv] at e
    simp only [Instr.findAsking]
    split at e
    · rename_i heq
      simp only [Option.some.injEq] at e
      subst e
      have := (eqv_sim hE eqDepth).1 Op.maxDepth kt k a.key k' b.key true (by unfold eqDepth Op.maxDepth; omega) hk h.key heq w
      have heq' : (Op.equal kt k' b.key).run P w = .ok true w := this
      refine ⟨some (i, b.val), ?_, ?_, by simp⟩
      · rw [bind_ok heq']; rfl
      · intro n v e; cases e; exact ⟨_, rfl, h.val⟩
    · rename_i heq
      have := (eqv_sim hE eqDepth).1 Op.maxDepth kt k a.key k' b.key false (by unfold eqDepth Op.maxDepth; omega) hk h.key heq w
      have heq' : (Op.equal kt k' b.key).run P w = .ok false w := this
      obtain ⟨r', h1, h2⟩ := findAsking_sim hE hk t e w
      refine ⟨r', ?_, h2⟩
      rw [bind_ok heq']; exact h1
    · cases e
theorem sameNow_equal {kt : TypeId} {u : TypeDesc} {k kb : Value} {c : Bool} {w : World} (hund : P.underlying kt = some u) (hc : Instr.sameNow u k kb = some c) : (Op.equal kt k kb).run P w = .ok c w := by
  unfold Instr.sameNow at hc
  split at hc
  · split at hc
    · rename_i hkk
      cases hc
      subst hkk
      exact run_equalIn_int w 9999 kt _ _ _ _ hund
    · cases hc
  · cases hc
    rw [beq_toListBytes]
    exact run_equalIn_string w 9999 kt _ _ hund
  · cases hc
    exact run_equalIn_bool' w 9999 kt _ _ hund
  · cases hc
theorem findKey_sim [Sy] (hE : EnvOk E P) {kt : TypeId} {k k' : Value} (hk : VR ρ k k') {es es' : List MapEntry} {r : Option (Nat × Value)} (h : ERs ρ es es') (e : findv E kt k es 0 = some r) (w : World)
    (hi : ∃ i, E.ty.get kt = some i) :
    ∃ r', (Instr.findKey kt k' es').run P w = .ok r' w ∧ (∀ n v, r = some (n, v) → ∃ v', r' = some (n, v') ∧ VR ρ v v') ∧ (r = none → r' = none) := by
  obtain ⟨i, hi⟩ := hi
  obtain ⟨inf, hinf, hund, _⟩ := hE.ty kt i hi
  unfold Instr.findKey
  rw [bind_ok (run_underlying hund w)]
  cases hf : Instr.findNow i.u k' es' 0 with
  | none => simp only; exact findAsking_sim hE hk h e w
  | some q =>
    -- what is found at once is what would have been found by asking
    have key : ∀ {es es' : List MapEntry} {n : Nat} {r q : Option (Nat × Value)}, ERs ρ es es' → findv E kt k es n = some r → Instr.findNow i.u k' es' n = some q →
        (∀ n v, r = some (n, v) → ∃ v', q = some (n, v') ∧ VR ρ v v') ∧ (r = none → q = none) := by
      intro es es' n r q hes
      induction hes generalizing n with
      | nil => intro e f; simp only [findv, Option.some.injEq] at e; simp only [Instr.findNow, Option.some.injEq] at f; subst e; subst f; simp
      | @cons a b l m hab _ ih =>
        intro e f
        simp only [findv] at e
        simp only [Instr.findNow] at f
        have conc : ∀ c, Instr.sameNow i.u k' b.key = some c → ∀ c', eqv E eqDepth kt k a.key = some c' → c = c' := by
          intro c hc c' hc'
          have := (eqv_sim hE eqDepth).1 Op.maxDepth kt k a.key k' b.key c' (by unfold eqDepth Op.maxDepth; omega) hk hab.key hc' w
          have h2 := sameNow_equal (w := w) hund hc
          rw [show (Op.equal kt k' b.key).run P w = .ok c' w from this] at h2
          cases h2; rfl
        split at f
        · rename_i hs
          cases f
          split at e
          · cases e
            refine ⟨?_, by simp⟩
            intro n v e; cases e; exact ⟨_, rfl, hab.val⟩
          · rename_i hc'; have := conc _ hs _ hc'; cases this
          · cases e
        · rename_i hs
          split at e
          · rename_i hc'; have := conc _ hs _ hc'; cases this
          · exact ih e f
          · cases e
        · cases f
    simp only
    exact ⟨q, rfl, key h e hf⟩
theorem lookupv_sim [Sy] (hE : EnvOk E P) {H : AH} {w : World} (hR : Rel ρ H w) {t : TypeId} {m k m' k' r : Value} {ok : Bool} (hm : VR ρ m m') (hk : VR ρ k k') (e : lookupv E H t m k ok = some r) :
    ∃ r', (Instr.lookup t m' k' ok).run P w = .ok r' w ∧ VR ρ r r' := by
  unfold lookupv at e
  cases hi : E.ty.get t with
  | none => rw [hi] at e; cases e
  | some i =>
    rw [hi] at e
    simp only at e
    split at e
    · rename_i kt et hu
      cases hes : entriesOf H m with
      | none => rw [hes] at e; cases e
      | some es =>
        rw [hes] at e
        simp only at e
        have hko := (bif_some e).1
        have e2 := (bif_some e).2
        clear e
        have hkt : ∃ i, E.ty.get kt = some i := by
          unfold keyok at hko
          cases hg : E.ty.get kt with
          | none => rw [hg] at hko; cases hko
          | some j => exact ⟨j, rfl⟩
        unfold Instr.lookup
        rw [bind_ok (hE.under hi w), hu]
        simp only
        suffices hfin : ∀ es' : Array MapEntry, ERs ρ es es'.toList → ∃ r', (do
            Instr.checkKey es'.isEmpty 10000 kt k'
            let __do_lift ← Instr.findKey kt k' es'.toList
            match __do_lift with
              | some (_, v) => pure (if ok = true then Value.tuple #[v, Value.bool true] else v)
              | none => do
                let __do_lift ← zeroValue et
                pure (if ok = true then Value.tuple #[__do_lift, Value.bool false] else __do_lift) : Sem Value).run P w = .ok r' w ∧ VR ρ r r' by
          cases hm <;> simp only [entriesOf, reduceCtorEq, Option.some.injEq] at hes
          · subst hes
            have hh := hfin #[] .nil
            simp only [pure_bind]
            exact hh
          · rename_i q p hp
            cases hg : H.get q with
            | none => rw [hg] at hes; cases hes
            | some o =>
              rw [hg] at hes
              cases o <;> simp only [reduceCtorEq, Option.some.injEq] at hes
              rename_i es0 clock
              subst hes
              obtain ⟨ob, h1, h2⟩ := hR.obj q p _ hp hg
              cases h2 with
              | @map _ es' clock h =>
                have hgo : (getObj p.c).run P w = .ok (.map es' clock) w := by simp [getObj, Sem.run, h1]
                simp only
                rw [bind_ok hgo]
                have hh := hfin es' h
                simp only [pure_bind]
                exact hh
        intro es' hes1
        have hck : (Instr.checkKey es'.isEmpty 10000 kt k').run P w = .ok () w := keyok_sim hE 20 (by omega) hk hko _ w
        rw [bind_ok hck]
        cases hf : findv E kt k es 0 with
        | none => rw [hf] at e2; cases e2
        | some f =>
          rw [hf] at e2
          obtain ⟨r', h1, h2, h3⟩ := findKey_sim hE hk hes1 hf w hkt
          cases f with
          | some nv =>
            obtain ⟨n, v⟩ := nv
            simp only [Option.some.injEq] at e2
            obtain ⟨v', hv1, hv2⟩ := h2 n v rfl
            subst hv1
            subst e2
            refine ⟨if ok = true then .tuple #[v', .bool true] else v', ?_, ?_⟩
            · simp only [Sem.run_bind, h1, Result.andThen_ok, Sem.run_pure]
            · cases ok
              · exact hv2
              · exact .tuple (.cons hv2 (.cons (.bool _) .nil))
          | none =>
            have hr' := h3 rfl
            subst hr'
            simp only at e2
            cases hj : E.ty.get et with
            | none => rw [hj] at e2; cases e2
            | some j =>
              rw [hj] at e2
              simp only at e2
              cases hz : j.zero with
              | none => rw [hz] at e2; cases e2
              | some z =>
                rw [hz] at e2
                simp only at e2
                have hcl := (bif_some e2).1
                have e3 := (bif_some e2).2
                simp only [Option.some.injEq] at e3
                subst e3
                refine ⟨if ok = true then .tuple #[z, .bool false] else z, ?_, ?_⟩
                · simp only [Sem.run_bind, h1, Result.andThen_ok, hE.zero hj hz, Sem.run_pure]
                · cases ok
                  · exact VR.clean hcl
                  · exact .tuple (.cons (VR.clean hcl) (.cons (.bool _) .nil))
    · cases e
theorem bytesOf_sim [Sy] : ∀ {l l' : List Value} {bs : List UInt8}, VRs ρ l l' → bytesOf l = some bs → l' = l ∧ ∃ ns : List Int, l = ns.map (fun n => Value.int .u8 n) ∧ bs = ns.map fun n => UInt8.ofNat n.toNat
  | _, _, bs, .nil, e => by simp only [bytesOf, Option.some.injEq] at e; subst e; exact ⟨rfl, [], rfl, rfl⟩
  | _, _, bs, .cons h t, e => by
    simp only [bytesOf] at e
    split at e
    · rename_i b hb
      split at e
      · rename_i bs' hbs
        simp only [Option.some.injEq] at e
        subst e
        obtain ⟨h1, ns, h2, h3⟩ := bytesOf_sim t hbs
        unfold byteOf at hb
        split at hb
        · rename_i n
          cases h
          simp only [Option.some.injEq] at hb
          subst hb
          subst h1
          exact ⟨rfl, n :: ns, by rw [h2]; rfl, by rw [h3]; rfl⟩
        · cases hb
      · cases e
    · cases e
theorem run_pushes (w : World) (f : Value → ByteArray → Sem (ForInStep ByteArray)) (hf : ∀ (n : Int) (s : ByteArray), f (.int .u8 n) s = pure (ForInStep.yield (s.push (UInt8.ofNat n.toNat)))) :
    ∀ (ns : List Int) (s : ByteArray), (forIn (ns.map (fun n => Value.int .u8 n)) s f : Sem ByteArray).run P w = .ok ⟨(s.data.toList ++ ns.map fun n => UInt8.ofNat n.toNat).toArray⟩ w
  | [], s => by simp
  | n :: ns, s => by
    simp only [List.map_cons, List.forIn_cons, hf, pure_bind]
    rw [run_pushes w f hf ns]
    congr 2
    apply Array.ext'
    simp
theorem bytesToStr_sim [Sy] (hE : EnvOk E P) {H : AH} {w : World} (hR : Rel ρ H w) {s d : TypeId} {x x' r : Value} (hx : VR ρ x x') (e : bytesToStr E H s d x = some r) :
    ∃ r', (convert s d x').run P w = .ok r' w ∧ VR ρ r r' := by
  unfold bytesToStr at e
  split at e
  · rename_i i j hi hj
    split at e
    · rename_i el hu hu2
      split at e
      · rename_i k hk
        have hconv : ∀ (a' : Option Addr) (n c : Nat), (convert s d (.slice a' n c)).run P w = (match k.u with
            | .int .u8 => Conv.bytesToString (.slice a' n c)
            | .int .i32 => Conv.runesToString (.slice a' n c)
            | _ => stuck "Convert: a slice of what to string?" : Sem Value).run P w := by
          intro a' n c
          unfold convert
          rw [bind_ok (hE.under hi w), bind_ok (hE.under hj w), hu, hu2]
          simp only
          rw [bind_ok (hE.under hk w)]
          rfl
        split at e
        · rename_i hku
          simp only [Option.some.injEq] at e
          subst e
          rw [hku] at hconv
          simp only at hconv
          cases hx with
          | snil => rw [hconv]; exact ⟨_, rfl, .str _⟩
          | sany a cap =>
            rw [hconv]
            refine ⟨.string ⟨#[]⟩, ?_, .str _⟩
            simp [Conv.bytesToString, loadCells, loadCellsFrom]
            rfl
        · rename_i a len cap hku
          rw [hku] at hconv
          simp only at hconv
          split at e
          · rename_i cs hg
            have hn := Nat.le_of_ble_eq_true (bif_some e).1
            have e2 := (bif_some e).2
            clear e
            cases hx with
            | @sl b o n c c' p hb h0 h1 h2 =>
              obtain ⟨arr, tt, fz, hC⟩ := hR.rows hb hg
              obtain ⟨l', g1, g2, g3⟩ := hC.range hn
              cases hbs : bytesOf ((cs.drop o).take len) with
              | none => rw [hbs] at e2; cases e2
              | some bs =>
                rw [hbs] at e2
                simp only [Option.some.injEq] at e2
                subst e2
                obtain ⟨k1, ns, k2, k3⟩ := bytesOf_sim g2 hbs
                refine ⟨_, ?_, .str _⟩
                rw [hconv]
                simp only [Conv.bytesToString, Sem.run_bind, run_loadCells_len g1 g3, Result.andThen_ok]
                rw [← Array.forIn_toList]
                simp only
                rw [k1, k2]
                rw [run_pushes (P := P) w _ (fun n s => rfl) ns ByteArray.empty]
                simp only [Result.andThen_ok, Sem.run_pure]
                rw [k3]
                rfl
          · cases e
        · cases e
      · cases e
    · cases e
  · cases e
theorem ERs.find [Sy] {b : Nat} : ∀ {es es' : List MapEntry} {e : MapEntry}, ERs ρ es es' → es.find? (fun e => Nat.beq e.born b) = some e → ∃ e', es'.find? (fun e => e.born == b) = some e' ∧ ER ρ e e'
  | _, _, e, .nil, h => by simp at h
  | _, _, e, .cons (a := a) (b := a') h t, hf => by
    simp only [List.find?_cons] at hf ⊢
    cases hb : Nat.beq a.born b
    · rw [hb] at hf
      have : (a'.born == b) = false := by
        rw [h.born]; rw [beq_eq_false_iff_ne]; intro e; rw [e] at hb; simp at hb
      rw [this]; exact ERs.find t hf
    · rw [hb] at hf
      simp only [Option.some.injEq] at hf
      subst hf
      have : (a'.born == b) = true := by
        rw [h.born]; have := Nat.eq_of_beq_eq_true hb; rw [this]; simp
      rw [this]; exact ⟨a', rfl, h⟩
theorem entryv_sim [Sy] {H : AH} {w : World} (hR : Rel ρ H w) {x x' r : Value} (hx : VR ρ x x') (e : entryv H x = some r) :
    ∃ r', (Instr.entry x').run P w = .ok r' w ∧ VR ρ r r' := by
  cases hx <;> simp only [entryv, reduceCtorEq] at e
  rename_i b o p hb
  split at e
  · rename_i m since seen st hg
    split at e
    · rename_i bo es clock hlast hgm
      have hc := (bif_some e).1
      have e2 := (bif_some e).2
      clear e
      simp only [Bool.and_eq_true] at hc
      have h1 := Nat.eq_of_beq_eq_true hc.1
      have h2 := Nat.eq_of_beq_eq_true hc.2
      subst h1; subst h2
      split at e2
      · rename_i en hf
        simp only [Option.some.injEq] at e2
        subst e2
        obtain ⟨ob, g1, g2⟩ := hR.obj b p _ hb hg
        cases g2 with
        | @iter _ q hm _ _ seen' _ hd hs =>
          obtain ⟨ob2, k1, k2⟩ := hR.obj m q _ hm hgm
          cases k2 with
          | @map _ es' _ hes =>
            obtain ⟨en', f1, f2⟩ := hes.find hf
            have hp : p.d = 0 := hd
            refine ⟨.tuple #[en'.key, en'.val], ?_, .tuple (.cons f2.key (.cons f2.val .nil))⟩
            have hgo : (getObj p.c).run P w = .ok (.mapIter (some q.c) since seen' clock) w := by simp [getObj, Sem.run, g1]
            have hgo2 : (getObj q.c).run P w = .ok (.map es' clock) w := by simp [getObj, Sem.run, k1]
            have hb : seen'.back? = some bo := by subst hs; rw [Array.back?_eq_getElem?, ← Array.getElem?_toList]; simpa [List.getLast?_eq_getElem?] using hlast
            have hff : es'.find? (fun e => e.born == bo) = some en' := by rw [← Array.find?_toList]; exact f1
            unfold Instr.entry
            rw [hp]
            simp only [Nat.add_zero]
            rw [bind_ok hgo]
            simp only [hb]
            rw [bind_ok hgo2]
            simp [hff]
      · cases e2
    · cases e
  · cases e
set_option maxHeartbeats 1000000 in
theorem read_sim [Sy] (hE : EnvOk E P) {T : Tmps} {a : Act} (h : TR ρ T a.tmps) {H : AH} {w : World} (hR : Rel ρ H w) {o : Oper} {v : Value} (e : readOp E T H o.op = some v) :
    ∃ v', (execOp a.eval o).run P w = .ok (.value v') w ∧ VR ρ v v' := by
  obtain ⟨dst, op, type, pos, after, guard⟩ := o
  have lift : ∀ {s : Sem Value}, (∃ r', s.run P w = .ok r' w ∧ VR ρ v r') → ∃ v', (do pure (.value (← s)) : Sem Next).run P w = .ok (.value v') w ∧ VR ρ v v' := by
    rintro s ⟨r', h1, h2⟩
    exact ⟨r', by simp [h1], h2⟩
  cases op <;> simp only [readOp, reduceCtorEq] at e
  case load t x =>
    split at e
    · rename_i u hu; exact lift (loadv_sim hE hR (evo_sim h hu) e)
    · cases e
  case lookup t m k ok =>
    split at e
    · rename_i u1 u2 h1 h2; exact lift (lookupv_sim hE hR (evo_sim h h1) (evo_sim h h2) e)
    · cases e
  case slice t x lo hi mx =>
    split at e
    · rename_i u l1 l2 l3 h1 h2 h3 h4
      exact lift (slicev_sim hE hR (evo_sim h h1) (evs_head h h2) (evs_head h h3) (evs_head h h4) e)
    · cases e
  case convert s d x =>
    split at e
    · rename_i u hu; exact lift (bytesToStr_sim hE hR (evo_sim h hu) e)
    · cases e
  case entry x =>
    split at e
    · rename_i u hu; exact lift (entryv_sim hR (evo_sim h hu) e)
    · cases e
  case call c =>
    obtain ⟨callee, args, ats⟩ := c
    simp only at e
    have hargs : args.map a.eval = ⟨args.toList.map a.eval⟩ := by apply Array.ext'; simp
    split at e
    · rename_i r hvs
      split at e
      · rename_i t ts hat
        have h1 := evs_sim h hvs
        have ha0 : ats[0]? = some t := by rw [← Array.getElem?_toList, hat]; rfl
        split at e
        · rename_i i es clock hi hg
          split at e
          · rename_i kt et hu
            simp only [Option.some.injEq] at e
            subst e
            simp only [execOp, resolve, pure_bind, invoke, builtin, hargs]
            cases hl : args.toList.map a.eval with
            | nil => rw [hl] at h1; cases h1
            | cons v1 l1 =>
              rw [hl] at h1
              cases h1 with
              | cons h1 h2 =>
                cases h2
                cases h1 with
                | @map _ p hp =>
                  obtain ⟨ob, g1, g2⟩ := hR.obj r p _ hp hg
                  cases g2 with
                  | @map _ es' clock hes =>
                    refine lift ⟨.int .i64 es.length, ?_, .int _ _⟩
                    unfold Builtin.len_
                    simp only [ha0, List.size_toArray, List.length_cons, List.length_nil, Nat.zero_add, Nat.lt_add_one, getElem?_pos]
                    simp only [Sem.run_bind, hE.under hi, Result.andThen_ok, hu]
                    have hlen := hes.length
                    simp [getObj, Sem.run, g1, goInt]
                    have hlen2 : es'.size = es.length := by simpa using hlen
                    exact congrArg (fun n : Nat => (n : Int)) hlen2
          · cases e
        · cases e
      · cases e
    · cases e
end
end Go.Ev
