/- Operations that touch no memory, one by one, to the end. -/
import Derived.Test.YthbphkakekdfkaaGreatDoorEv5
namespace Go.Ev
open Go Go.RowKit
section
variable {E : Env} {P : Program} {ρ : Ren}
theorem binv_sim [Sy] (hE : EnvOk E P) {op : BinOp} {t : TypeId} {x y : Operand} {a : Act} {u v r : Value} (hx : VR ρ u (a.eval x)) (hy : VR ρ v (a.eval y))
    (e : binv E op t u v = some r) (w : World) : ∃ r', ((do eqGuard op t x y (a.eval x) (a.eval y); binOp op t (a.eval x) (a.eval y)) : Sem Value).run P w = .ok r' w ∧ VR ρ r r' := by
  generalize a.eval x = u' at *
  generalize a.eval y = v' at *
  have guard0 : ∀ {k a l b}, u = .int k a → v = .int l b → (eqGuard op t x y u' v').run P w = .ok () w := by
    rintro k a l b rfl rfl
    cases hx; cases hy
    unfold eqGuard; cases op <;> rfl
  have guard1 : ∀ {a b}, u = .string a → v = .string b → (eqGuard op t x y u' v').run P w = .ok () w := by
    rintro a b rfl rfl
    cases hx; cases hy
    unfold eqGuard; cases op <;> rfl
  unfold binv at e
  split at e
  · rw [bind_ok (guard0 rfl rfl)]; cases hx; cases hy
    exact ⟨r, by simpa [binOp] using pureOf_run e w, shift_pure _ _ _ _ _ e⟩
  · rw [bind_ok (guard0 rfl rfl)]; cases hx; cases hy
    exact ⟨r, by simpa [binOp] using pureOf_run e w, shift_pure _ _ _ _ _ e⟩
  · rename_i hl hr
    rw [bind_ok (guard0 rfl rfl)]; cases hx; cases hy
    split at e
    · cases e
    · rename_i hk
      simp only [ne_eq, Decidable.not_not] at hk
      subst hk
      cases op <;> first
        | (exact (hl rfl).elim)
        | (exact (hr rfl).elim)
        | (refine ⟨r, ?_, intArith_pure _ _ _ _ e⟩; simpa [binOp] using pureOf_run e w)
        | (refine ⟨r, ?_, intDiv_pure _ _ _ _ e⟩; simpa [binOp] using pureOf_run e w)
        | (refine ⟨r, ?_, intBits_pure _ _ _ _ e⟩; simpa [binOp] using pureOf_run e w)
        | (refine ⟨r, ?_, intCmp_pure _ _ _ e⟩; simpa [binOp] using pureOf_run e w)
  · rename_i a b
    rw [bind_ok (guard1 rfl rfl)]; cases hx; cases hy
    have hb : (binOp op t (.string a) (.string b)).run P w = (Op.stringOp op a b).run P w := by
      cases op <;> rfl
    rw [hb]
    cases op
    case add =>
      simp only at e
      split at e
      · rename_i hlt
        cases e
        refine ⟨_, ?_, .str _⟩
        have h1 : a.size = a.data.toList.length := rfl
        have h2 : b.size = b.data.toList.length := rfl
        have hn : ¬ (((a.size + b.size : Nat) : Int) > IntKind.i64.max) := by
          rw [h1, h2]
          have : IntKind.i64.max = 9223372036854775807 := rfl
          omega
        simp only [Op.stringOp, if_neg hn, Sem.run_pure, Result.ok.injEq, and_true]
        congr 1
      · cases e
    case eql => simp only [Option.some.injEq] at e; subst e; exact ⟨_, by simp [Op.stringOp, ByteArray.toList_eq], .bool _⟩
    case neq => simp only [Option.some.injEq] at e; subst e; exact ⟨_, by simp [Op.stringOp, ByteArray.toList_eq], .bool _⟩
    case lss => simp only [Option.some.injEq] at e; subst e; exact ⟨_, by simp [Op.stringOp, ByteArray.toList_eq], .bool _⟩
    case leq => simp only [Option.some.injEq] at e; subst e; exact ⟨_, by simp [Op.stringOp, ByteArray.toList_eq], .bool _⟩
    case gtr => simp only [Option.some.injEq] at e; subst e; exact ⟨_, by simp [Op.stringOp, ByteArray.toList_eq], .bool _⟩
    case geq => simp only [Option.some.injEq] at e; subst e; exact ⟨_, by simp [Op.stringOp, ByteArray.toList_eq], .bool _⟩
    all_goals (simp only [reduceCtorEq] at e)
  · cases e
  · cases e
  · rename_i h1 h2 hne
    split at e
    · rename_i b hq
      cases e
      have hnn : ¬ (u = .nilIface ∧ v = .nilIface) := by
        rintro ⟨rfl, rfl⟩; exact hne rfl rfl
      rw [bind_ok (eqGuard_ok hE hx hy hnn hq w)]
      exact ⟨_, (eql_run hE hx hy ⟨fun k a l b h => h1 k a l b h.1 h.2, fun a b h => h2 a b h.1 h.2⟩ hq w).1, .bool _⟩
    · cases e
  · rename_i h1 h2 hne
    split at e
    · rename_i b hq
      cases e
      have hnn : ¬ (u = .nilIface ∧ v = .nilIface) := by
        rintro ⟨rfl, rfl⟩; exact hne rfl rfl
      rw [bind_ok (eqGuard_ok hE hx hy hnn hq w)]
      exact ⟨_, (eql_run hE hx hy ⟨fun k a l b h => h1 k a l b h.1 h.2, fun a b h => h2 a b h.1 h.2⟩ hq w).2, .bool _⟩
    · cases e
  · cases e
theorem eqGuard_nil {op : BinOp} {t : TypeId} {x y : Operand} (hc : (isConst x || isConst y) = true) (w : World) : (eqGuard op t x y .nilIface .nilIface).run P w = .ok () w := by
  unfold eqGuard
  cases op <;> cases x <;> cases y <;> first | rfl | simp [isConst] at hc
theorem nilv_sim [Sy] (hE : EnvOk E P) {op : BinOp} {t : TypeId} {x y : Operand} {a : Act} {u v r : Value} (hx : VR ρ u (a.eval x)) (hy : VR ρ v (a.eval y))
    (e : nilv E op t x y u v = some r) (w : World) : ∃ r', ((do eqGuard op t x y (a.eval x) (a.eval y); binOp op t (a.eval x) (a.eval y)) : Sem Value).run P w = .ok r' w ∧ VR ρ r r' := by
  generalize a.eval x = u' at *
  generalize a.eval y = v' at *
  unfold nilv at e
  split at e
  · cases hc : (isConst x || isConst y) with
    | false => rw [hc] at e; cases e
    | true =>
      rw [hc] at e
      simp only [cond_true] at e
      split at e
      · rename_i b hq
        cases e
        cases hx; cases hy
        rw [bind_ok (eqGuard_nil hc w)]
        exact ⟨_, (eql_run hE (ρ := ρ) .nilIface .nilIface ⟨fun k a l b h => (by cases h.1), fun a b h => (by cases h.1)⟩ hq w).1, .bool _⟩
      · cases e
  · cases hc : (isConst x || isConst y) with
    | false => rw [hc] at e; cases e
    | true =>
      rw [hc] at e
      simp only [cond_true] at e
      split at e
      · rename_i b hq
        cases e
        cases hx; cases hy
        rw [bind_ok (eqGuard_nil hc w)]
        exact ⟨_, (eql_run hE (ρ := ρ) .nilIface .nilIface ⟨fun k a l b h => (by cases h.1), fun a b h => (by cases h.1)⟩ hq w).2, .bool _⟩
      · cases e
  · cases e
theorem convv_sim [Sy] (hE : EnvOk E P) {s d : TypeId} {x x' r : Value} (hx : VR ρ x x') (e : convv E s d x = some r) (w : World) : ∃ r', (convert s d x').run P w = .ok r' w ∧ VR ρ r r' := by
  unfold convv at e
  split at e
  · rename_i i j hi hj
    split at e
    · rename_i k n m hk
      cases e; cases hx
      refine ⟨_, ?_, .int _ _⟩
      unfold convert
      rw [bind_ok (hE.under hi w), bind_ok (hE.under hj w), hk]
      simp [Conv.intToInt]
    · rename_i b hk
      cases e; cases hx
      refine ⟨_, ?_, .str _⟩
      unfold convert
      rw [bind_ok (hE.under hi w), bind_ok (hE.under hj w), hk]
      rfl
    · cases e
  · cases e
theorem asIntOf_sim [Sy] {k : IntKind} {n : Int} {v' : Value} (h : VR ρ (.int k n) v') (w : World) : (asIntOf v').run P w = .ok (k, n) w := by
  cases h; rfl
theorem sliceBound_sim [Sy] {y y' : Nat} {v v' : Value} {n : Nat} {code : BoundsCode} {d : Option Nat} (hv : VR ρ v v') (hy : y ≤ y') (e : boundOf y (some v) d = some n) (w : World) :
    (Instr.sliceBound v' y' code).run P w = .ok n w ∧ n ≤ y := by
  cases v <;> simp only [boundOf, reduceCtorEq] at e
  rename_i k i
  cases hv
  split at e
  · rename_i h
    cases e
    unfold Instr.sliceBound
    rw [bind_ok (asIntOf_sim (ρ := ρ) (.int k i) w)]
    have : 0 ≤ i ∧ i ≤ (y' : Int) := ⟨h.1, by omega⟩
    simp only [if_pos this, Sem.run_pure, true_and]
    omega
  · cases e
inductive OVR [Sy] (ρ : Ren) : Option Value → Option Value → Prop
  | none : OVR ρ none none
  | some {v v' : Value} (h : VR ρ v v') : OVR ρ (some v) (some v')
theorem sliceBounds_sim [Sy] {b : Bool} {len cap cap' m h l : Nat} {lo hi mx lo' hi' mx' : Option Value} (hlo : OVR ρ lo lo') (hhi : OVR ρ hi hi') (hmx : OVR ρ mx mx')
    (hc : cap ≤ cap') (em : boundOf cap mx (some cap) = some m) (eh : boundOf m hi (bif mx.isSome then none else some len) = some h) (el : boundOf h lo (some 0) = some l) (w : World) :
    (Instr.sliceBounds b len cap' lo' hi' mx').run P w = .ok (l, h, bif mx.isSome then m else cap') w ∧ m ≤ cap ∧ (∀ v, hi = some v → h ≤ m) ∧ (lo ≠ none → l ≤ h) ∧ l ≤ h := by
  unfold Instr.sliceBounds
  cases hmx with
  | none =>
    simp only [boundOf, Option.some.injEq] at em
    subst em
    simp only [Option.isSome_none, cond_false] at eh ⊢
    cases hhi with
    | none =>
      simp only [boundOf, Option.some.injEq] at eh
      subst eh
      cases hlo with
      | none => simp only [boundOf, Option.some.injEq] at el; subst el; simp
      | some h3 =>
        have := fun c => sliceBound_sim (P := P) (code := c) h3 (Nat.le_refl _) el w
        simp [(this _).1, (this .sliceB).2]
    | some h2 =>
      have k := fun c => sliceBound_sim (P := P) (code := c) h2 hc eh w
      cases hlo with
      | none => simp only [boundOf, Option.some.injEq] at el; subst el; simp [(k _).1, (k .sliceB).2]
      | some h3 =>
        have := fun c => sliceBound_sim (P := P) (code := c) h3 (Nat.le_refl _) el w
        simp [(k _).1, (k .sliceB).2, (this _).1, (this .sliceB).2]
  | some h1 =>
    have j := fun c => sliceBound_sim (P := P) (code := c) h1 hc em w
    simp only [Option.isSome_some, cond_true] at eh ⊢
    cases hhi with
    | none => simp [boundOf] at eh
    | some h2 =>
      have k := fun c => sliceBound_sim (P := P) (code := c) h2 (Nat.le_refl _) eh w
      cases hlo with
      | none => simp only [boundOf, Option.some.injEq] at el; subst el; simp [(k _).1, (k .sliceB).2, (j _).1, (j .sliceB).2]
      | some h3 =>
        have := fun c => sliceBound_sim (P := P) (code := c) h3 (Nat.le_refl _) el w
        simp [(k _).1, (k .sliceB).2, (j _).1, (j .sliceB).2, (this _).1, (this .sliceB).2]
theorem slicev_sim [Sy] (hE : EnvOk E P) {H : AH} {w : World} (hR : Rel ρ H w) {t : TypeId} {x x' r : Value} {lo hi mx lo' hi' mx' : Option Value} (hx : VR ρ x x')
    (hlo : OVR ρ lo lo') (hhi : OVR ρ hi hi') (hmx : OVR ρ mx mx')
    (e : slicev E H t x lo hi mx = some r) : ∃ r', (Instr.sliceAt t x' lo' hi' mx').run P w = .ok r' w ∧ VR ρ r r' := by
  unfold slicev at e
  split at e
  · cases e
  · rename_i i hi0
    obtain ⟨inf, hinf, hund, _⟩ := hE.ty t i hi0
    split at e
    · rename_i s hu
      obtain ⟨hm, e⟩ := bif_none e
      split at e
      · cases e
      · rename_i h hh
        split at e
        · cases e
        · rename_i l hl
          cases e; cases hx
          cases hmx with
          | some _ => simp at hm
          | none =>
            have hb := (sliceBounds_sim (P := P) (b := false) (len := s.data.toList.length) (cap := s.data.toList.length) (cap' := s.data.toList.length) hlo hhi (.none (ρ := ρ)) (Nat.le_refl _) rfl hh hl w).1
            refine ⟨.string (s.extract l h), ?_, ?_⟩
            · unfold Instr.sliceAt
              rw [bind_ok (run_underlying hund w), hu]
              simp only
              unfold Instr.slice
              rw [bind_ok (run_underlying hund w), hu]
              simp only [Option.isSome_none, Bool.false_eq_true, if_false]
              have hs : s.size = s.data.toList.length := rfl
              rw [hs]
              simp only [Sem.run_bind, hb, Result.andThen_ok, Sem.run_pure]
            · have : (⟨((s.data.toList.drop l).take (h - l)).toArray⟩ : ByteArray) = s.extract l h := by
                apply ByteArray.ext
                apply Array.ext'
                simp [ByteArray.data_extract, List.extract_eq_take_drop]
              rw [this]; exact .str _
    · rename_i el a len cap hu
      rw [hu] at hund
      split at e
      · cases e
      · rename_i j hj
        split at e
        · cases e
        · rename_i m em
          split at e
          · cases e
          · rename_i h eh
            split at e
            · cases e
            · rename_i l el'
              obtain ⟨hhm, e⟩ := bif_some e
              have hhm : h ≤ m := Nat.le_of_ble_eq_true hhm
              have conc : ∀ (a' : Option Addr) (cap' : Nat), capN cap ≤ cap' → (Instr.sliceAt t (.slice a' len cap') lo' hi' mx').run P w =
                  .ok (.slice (if (bif mx.isSome then m else cap') = l then a' else a'.map (·.add (l * j.size))) (h - l) ((bif mx.isSome then m else cap') - l)) w := by
                intro a' cap' hc
                have hb := (sliceBounds_sim (P := P) (b := true) hlo hhi hmx hc em eh el' w).1
                unfold Instr.sliceAt
                rw [bind_ok (run_underlying hund w)]
                simp only
                unfold Instr.slice
                rw [bind_ok (run_underlying hund w)]
                simp only [Sem.run_bind, hb, Result.andThen_ok, Sem.run_pure, hE.sizeOf hj]
              obtain ⟨_, hmc, hh1, _, hlh⟩ := sliceBounds_sim (P := P) (b := true) (len := len) hlo hhi hmx (Nat.le_refl _) em eh el' w
              have hmx' : mx.isSome = false → m = capN cap := by
                intro hn
                cases mx with
                | none => simp only [boundOf, Option.some.injEq] at em; exact em.symm
                | some _ => cases hn
              generalize mx.isSome = full at *
              have add : ∀ (c o : Nat), (⟨c, o, none⟩ : Addr).add (l * j.size) = ⟨c, o + l * j.size, none⟩ := by
                intro c o
                unfold Addr.add
                split
                · rename_i h0; rw [h0]; rfl
                · rfl
              cases hx with
              | snil =>
                simp only [cutv] at e
                obtain ⟨hb, e⟩ := bif_some e
                cases e
                simp only [Bool.and_eq_true] at hb
                have h1 := Nat.eq_of_beq_eq_true hb.1
                have h2 := Nat.eq_of_beq_eq_true hb.2
                have hm0 : m = 0 := by simp only [capN] at hmc; omega
                refine ⟨_, conc none 0 (by simp [capN]), ?_⟩
                have : (bif full then m else 0) = 0 := by cases full <;> simp [hm0]
                rw [this]
                subst h1; subst h2
                subst hm0
                simpa using VR.snil
              | sany a' k =>
                simp only [cutv] at e
                obtain ⟨hb, e⟩ := bif_some e
                cases e
                simp only [Bool.and_eq_true] at hb
                have h1 := Nat.eq_of_beq_eq_true hb.1
                have h2 := Nat.eq_of_beq_eq_true hb.2
                subst h1; subst h2
                refine ⟨_, conc (some a') k (by simp [capN]), ?_⟩
                rw [Nat.sub_self]
                split
                · exact VR.sany _ _
                · exact VR.sany _ _
              | @sl b o n c c' p hb h0 h1 h2 =>
                refine ⟨_, conc _ c' (by simpa [capN] using h1), ?_⟩
                simp only [cutv] at e
                cases hml : Nat.beq m l
                · rw [hml] at e
                  simp only [cond_false] at e
                  have hml' : m ≠ l := by intro e; subst e; simp at hml
                  have hlm : l < m := by omega
                  have hM : (bif full then m else c') ≠ l := by
                    cases full
                    · simp only [cond_false, ne_eq]; have := hmx' rfl; simp only [capN] at this; omega
                    · simpa using hml'
                  rw [if_neg hM]
                  simp only [Option.map_some, add, Nat.add_assoc]
                  cases hfo : (full || Nat.beq (cap % 2) 0)
                  · rw [hfo] at e
                    simp only [cond_false] at e
                    obtain ⟨hes, e⟩ := bif_some e
                    cases e
                    simp only [Bool.or_eq_false_iff] at hfo
                    obtain ⟨hf, hcap⟩ := hfo
                    subst hf
                    simp only [cond_false]
                    have hodd : cap % 2 = 1 := by
                      have : cap % 2 ≠ 0 := by intro e; rw [e] at hcap; simp at hcap
                      omega
                    have hmm := hmx' rfl
                    simp only [capN] at hmm
                    have hpe : p.e = j.size := by
                      unfold esAt at hes
                      split at hes
                      · rename_i cs es hget
                        obtain ⟨ob, _, hor⟩ := hR.obj b p _ hb hget
                        cases hor with
                        | cells hz he hl hc hf _ => have := Nat.eq_of_beq_eq_true hes; omega
                      · cases hes
                    refine VR.sl (p := p) hb (by omega) (by omega) (fun _ => ?_)
                    have := h2 hodd
                    rw [hpe] at this ⊢
                    have : l * j.size + (c' - l) * j.size = c' * j.size := by
                      rw [← Nat.add_mul]; congr 1; omega
                    omega
                  · rw [hfo] at e
                    simp only [cond_true, Option.some.injEq] at e
                    subst e
                    refine VR.sl (p := p) hb (fun _ => ?_) ?_ (fun h => by omega)
                    · cases full
                      · simp only [Bool.false_or] at hfo
                        have := Nat.eq_of_beq_eq_true hfo
                        have hmm := hmx' rfl
                        simp only [capN] at hmm
                        have := h0 this
                        simp only [cond_false]; omega
                      · simp only [cond_true]; omega
                    · cases full
                      · have hmm := hmx' rfl
                        simp only [capN] at hmm
                        simp only [cond_false]; omega
                      · simp only [cond_true]; omega
                · have hml' := Nat.eq_of_beq_eq_true hml
                  rw [hml] at e
                  simp only [cond_true] at e
                  subst hml'
                  have hhl : h = m := by omega
                  subst hhl
                  cases hfo : (full || Nat.beq (cap % 2) 0)
                  · rw [hfo] at e
                    simp only [cond_false, Option.some.injEq] at e
                    subst e
                    rw [Nat.sub_self]
                    split <;> exact VR.sany _ _
                  · rw [hfo] at e
                    simp only [cond_true, Option.some.injEq] at e
                    subst e
                    have hM : (bif full then h else c') = h := by
                      cases full
                      · simp only [Bool.false_or] at hfo
                        have := Nat.eq_of_beq_eq_true hfo
                        have hmm := hmx' rfl
                        simp only [capN] at hmm
                        have := h0 this
                        simp only [cond_false]; omega
                      · rfl
                    rw [hM, if_pos rfl, Nat.sub_self]
                    exact VR.sl (p := p) hb (fun _ => rfl) (by omega) (fun h => by omega)
    · cases e
end
end Go.Ev
