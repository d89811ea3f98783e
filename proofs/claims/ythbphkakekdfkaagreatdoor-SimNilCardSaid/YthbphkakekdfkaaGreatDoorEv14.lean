/- Iterators; all operations that change memory but calls. -/
import Derived.Test.YthbphkakekdfkaaGreatDoorEv13
namespace Go.Ev
open Go Go.RowKit
section
variable {E : Env} {P : Program} {ρ : Ren}
theorem alloc_eff [Sy] {H : AH} {w : World} (hR : Rel ρ H w) (hf : ρ H.next = none) {o : AObj} {ob : Obj} {s : Sem Value} (ho : ∀ ρ', Ext ρ ρ' → OR ρ' ⟨w.heap.size, 0, 0, 0⟩ o ob)
    (hs : s.run P w = .ok (.pointer (some ⟨w.heap.size, 0, none⟩)) { w with heap := w.heap.push ob }) :
    EffR ρ H w P s (.pointer (some ⟨H.next, 0, none⟩)) (H.new o) := by
  let p : Pl := ⟨w.heap.size, 0, 0, 0⟩
  refine ⟨ρ.add H.next p, _, _, hs, Post.alloc hR hf o ob p rfl w.drawn (ho _ (Ren.ext_add hf)), ?_⟩
  exact VR.ptr (ρ := ρ.add H.next p) (b := H.next) (o := 0) (p := p) (Ren.add_self _ _ _)
theorem rangev_post [Sy] (hE : EnvOk E P) {H H' : AH} {w : World} (hR : Rel ρ H w) {t : TypeId} {x x' v : Value} (hx : VR ρ x x') (e : rangev E H t x = some (v, H')) (hf : Free ρ H.next H'.next) :
    EffR ρ H w P (Instr.range t x') v H' := by
  unfold rangev at e
  cases hi : E.ty.get t with
  | none => rw [hi] at e; cases e
  | some i =>
    rw [hi] at e
    simp only at e
    obtain ⟨inf, _, hund, _⟩ := hE.ty t i hi
    split at e
    · rename_i s hu
      rw [hu] at hund
      simp only [Option.some.injEq, Prod.mk.injEq] at e
      obtain ⟨rfl, rfl⟩ := e
      cases hx
      refine alloc_eff hR (hf _ (Nat.le_refl _) (by simp [AH.new])) (ob := .stringIter s 0) (fun ρ' _ => .strIter s 0 rfl) ?_
      unfold Instr.range
      rw [bind_ok (run_underlying hund w)]
      simp
    · rename_i kt et hu
      rw [hu] at hund
      simp only [Option.some.injEq, Prod.mk.injEq] at e
      obtain ⟨rfl, rfl⟩ := e
      cases hx
      refine alloc_eff hR (hf _ (Nat.le_refl _) (by simp [AH.new])) (ob := .mapIter none 0 #[] 0) (fun ρ' _ => .iterNil 0 0 rfl rfl) ?_
      unfold Instr.range
      rw [bind_ok (run_underlying hund w)]
      simp
    · rename_i kt et m hu
      rw [hu] at hund
      cases hg : H.get m with
      | none => rw [hg] at e; cases e
      | some o =>
        rw [hg] at e
        cases o <;> simp only [reduceCtorEq] at e
        rename_i es clock
        simp only [Option.some.injEq, Prod.mk.injEq] at e
        obtain ⟨rfl, rfl⟩ := e
        cases hx with
        | @map _ p hp =>
          obtain ⟨ob, h1, h2⟩ := hR.obj m p _ hp hg
          cases h2 with
          | @map _ es' _ hes =>
            have g1 := run_getObj (P := P) h1 (by intro c t f h; cases h)
            refine alloc_eff hR (hf _ (Nat.le_refl _) (by simp [AH.new])) (ob := .mapIter (some p.c) clock #[] clock) (fun ρ' hx => .iter (hx _ _ hp) clock clock rfl rfl) ?_
            unfold Instr.range
            rw [bind_ok (run_underlying hund w)]
            simp only [Sem.run_bind, g1, Result.andThen_ok, Sem.run_pure, run_newObj]
    · cases e
theorem decode_ascii (s : ByteArray) (pos : Nat) (h : pos < s.data.toList.length) (h2 : (s.data.toList.getD pos 0).toNat < 128) : Utf8.decode s pos = ((s.data.toList.getD pos 0).toNat, 1) := by
  have hg : s.get! pos = s.data.toList.getD pos 0 := by
    have hlt : pos < s.data.size := by simpa using h
    show s.data[pos]! = _
    rw [getElem!_pos s.data pos hlt, List.getD_eq_getElem?_getD, Array.getElem?_toList, Array.getElem?_eq_getElem hlt]
    rfl
  unfold Utf8.decode
  simp only [Nat.add_zero, hg]
  rw [if_pos h2]
theorem ERs.filter [Sy] {f g : MapEntry → Bool} (hfg : ∀ a b : MapEntry, a.born = b.born → f a = g b) : ∀ {es es' : List MapEntry}, ERs ρ es es' → ERs ρ (es.filter f) (es'.filter g)
  | _, _, .nil => .nil
  | _, _, .cons (a := a) (b := b) h t => by
    simp only [List.filter_cons, hfg a b h.born.symm]
    split
    · exact .cons h (ERs.filter hfg t)
    · exact ERs.filter hfg t
theorem ERs.all [Sy] {f g : MapEntry → Bool} (hfg : ∀ a b : MapEntry, a.born = b.born → f a = g b) : ∀ {es es' : List MapEntry}, ERs ρ es es' → es'.all g = es.all f
  | _, _, .nil => rfl
  | _, _, .cons (a := a) (b := b) h t => by simp only [List.all_cons, hfg a b h.born.symm, ERs.all hfg t]
theorem nextv_post [Sy] {H H' : AH} {w : World} (hR : Rel ρ H w) {x x' v : Value} {isStr : Bool} {ty : TypeId} (hx : VR ρ x x') (e : nextv H x isStr = some (v, H')) :
    EffR ρ H w P (Instr.next x' isStr ty) v H' := by
  cases hx <;> simp only [nextv, reduceCtorEq] at e
  rename_i b o p hb
  have ho := (bif_none e).1
  have e2 := (bif_none e).2
  clear e
  simp only [Bool.not_eq_false'] at ho
  have ho := Nat.eq_of_beq_eq_true ho
  subst ho
  have vf : VR ρ (.tuple #[.bool false]) (.tuple #[.bool false]) := .tuple (.cons (.bool _) .nil)
  split at e2
  · rename_i s pos hg
    obtain ⟨ob, h1, h2⟩ := hR.obj b p _ hb hg
    cases h2 with
    | strIter _ _ hd =>
      have g1 := run_getObj (P := P) h1 (by intro c t f h; cases h)
      have g2 := fun o' => run_setObj (P := P) (o' := o') h1 (by intro c t f h; cases h)
      have hd' : p.d = 0 := hd
      have hsz : s.size = s.data.toList.length := rfl
      split at e2
      · rename_i hlt
        split at e2
        · rename_i hasc
          simp only [Option.some.injEq, Prod.mk.injEq] at e2
          obtain ⟨rfl, rfl⟩ := e2
          refine ⟨ρ, _, _, ?_, Post.setObj hR hb hg (.strIter s (pos + 1) hd), .tuple (.cons (.bool _) (.cons (.int _ _) (.cons (.int _ _) .nil)))⟩
          unfold Instr.next
          rw [hd']
          simp only [Nat.add_zero, Sem.run_bind, g1, Result.andThen_ok]
          rw [hsz, if_pos hlt]
          simp only [decode_ascii s pos hlt hasc, Sem.run_bind, g2, Result.andThen_ok, Sem.run_pure, goInt]
        · cases e2
      · rename_i hlt
        simp only [Option.some.injEq, Prod.mk.injEq] at e2
        obtain ⟨rfl, rfl⟩ := e2
        refine ⟨ρ, w, _, ?_, Post.refl hR, vf⟩
        unfold Instr.next
        rw [hd']
        simp only [Nat.add_zero, Sem.run_bind, g1, Result.andThen_ok]
        rw [hsz, if_neg hlt]
        rfl
  · rename_i since seen last hg
    obtain ⟨ob, h1, h2⟩ := hR.obj b p _ hb hg
    cases h2 with
    | iterNil _ _ hd hs =>
      have g1 := run_getObj (P := P) h1 (by intro c t f h; cases h)
      have hd' : p.d = 0 := hd
      simp only [Option.some.injEq, Prod.mk.injEq] at e2
      obtain ⟨rfl, rfl⟩ := e2
      refine ⟨ρ, w, _, ?_, Post.refl hR, vf⟩
      unfold Instr.next
      rw [hd']
      simp only [Nat.add_zero, Sem.run_bind, g1, Result.andThen_ok, Sem.run_pure]
  · rename_i m since seen last hg
    obtain ⟨ob, h1, h2⟩ := hR.obj b p _ hb hg
    cases h2 with
    | @iter _ q hm _ _ seen' _ hd hs =>
      have g1 := run_getObj (P := P) h1 (by intro c t f h; cases h)
      have g2 := fun o' => run_setObj (P := P) (o' := o') h1 (by intro c t f h; cases h)
      have hd' : p.d = 0 := hd
      cases hgm : H.get m with
      | none => rw [hgm] at e2; cases e2
      | some om =>
        rw [hgm] at e2
        cases om <;> simp only [reduceCtorEq] at e2
        rename_i es clock
        obtain ⟨obm, k1, k2⟩ := hR.obj m q _ hm hgm
        cases k2 with
        | @map _ es' _ hes =>
          have gm := run_getObj (P := P) k1 (by intro c t f h; cases h)
          have hgone := (bif_none e2).1
          have e3 := (bif_none e2).2
          clear e2
          subst hs
          have hall : (es'.toList.all fun e => decide (e.born ≥ last)) = es.all (fun e => decide (e.born ≥ last)) := hes.all (fun a b h => by rw [h])
          have hlen := hes.length
          have hemp : es'.isEmpty = es.isEmpty := by
            have h1 : es'.size = es.length := by simpa using hlen
            cases es with
            | nil => simpa using h1
            | cons a l =>
              have h2 : es'.size ≠ 0 := by rw [h1]; simp
              simpa using h2
          have hsemp : seen'.isEmpty = seen'.toList.isEmpty := by simp
          have hcond : (!seen'.isEmpty && !es'.isEmpty && es'.all fun x => decide (x.born ≥ last)) = false := by
            rw [hemp, hsemp, ← Array.all_toList, hall]; exact hgone
          have hfil : ERs ρ (es.filter fun e => !seen'.toList.contains e.born) (es'.toList.filter fun e => !seen'.contains e.born) := hes.filter (fun a b h => by rw [h]; simp)
          have hstart : (Instr.next (.pointer (some ⟨p.c, p.d + 0, none⟩)) false ty).run P w = (do
              let left := es'.filter fun e => !seen'.contains e.born
              let old := left.filter (·.born < since)
              let new := left.filter (·.born ≥ since)
              let candidates := (if old.isEmpty then #[none] else #[]) ++ (old ++ new).map some
              match candidates[← choose (.mapNext candidates.size)]? with
              | some (some e) =>
                setObj p.c (.mapIter (some q.c) since (seen'.push e.born) clock)
                pure (.tuple #[.bool true, e.key, e.val])
              | some none => pure (.tuple #[.bool false])
              | none => stuck "Next: no such candidate" : Sem Value).run P w := by
            unfold Instr.next
            rw [hd']
            simp only [Nat.add_zero]
            rw [bind_ok g1]
            simp only
            rw [bind_ok gm]
            simp only [hcond, Bool.false_eq_true, if_false]
            rfl
          have hlist : (es'.filter fun e => !seen'.contains e.born).toList = es'.toList.filter fun e => !seen'.contains e.born := by simp
          split at e3
          · rename_i hnil
            simp only [Option.some.injEq, Prod.mk.injEq] at e3
            obtain ⟨rfl, rfl⟩ := e3
            rw [hnil] at hfil
            have h0 : (es'.filter fun e => !seen'.contains e.born) = #[] := by
              apply Array.ext'
              rw [hlist]
              generalize (es'.toList.filter fun e => !seen'.contains e.born) = l at hfil
              cases hfil; rfl
            refine ⟨ρ, w, _, ?_, Post.refl hR, vf⟩
            rw [hstart]
            simp only [h0]
            simp [choose, Sem.run, Question.forced]
          · rename_i en hone
            split at e3
            · rename_i hborn
              simp only [Option.some.injEq, Prod.mk.injEq] at e3
              obtain ⟨rfl, rfl⟩ := e3
              rw [hone] at hfil
              obtain ⟨en', h0, hen⟩ : ∃ en', (es'.filter fun e => !seen'.contains e.born) = #[en'] ∧ ER ρ en en' := by
                generalize hl : (es'.toList.filter fun e => !seen'.contains e.born) = l at hfil
                cases hfil with
                | cons h t =>
                  cases t
                  refine ⟨_, ?_, h⟩
                  apply Array.ext'
                  rw [hlist, hl]
              have hb' : en'.born < since := by rw [hen.born]; exact hborn
              refine ⟨ρ, _, _, ?_, Post.setObj hR hb hg (.iter hm since clock hd (seen' := seen'.push en'.born) ?_), .tuple (.cons (.bool _) (.cons hen.key (.cons hen.val .nil)))⟩
              · rw [hstart]
                simp only [h0]
                have hnb : ¬ (en'.born ≥ since) := by omega
                simp [choose, Sem.run, Question.forced, hb', hnb, g2]
              · simp [hen.born]
            · cases e3
          · cases e3
  · cases e2
end
end Go.Ev
