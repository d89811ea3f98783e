/- A region whose order is open, whole. -/
import Derived.Test.YthbphkakekdfkaaGreatDoorEv23
namespace Go.Ev
open Go Go.RowKit
section
variable {E : Env} {P : Program} {r : Rec} {ρ : Ren} {b : Frame} {tmps : Array Value} {ds : List Deferred} {k : List Item} {cs : List Frame} {w : World} {H H' : AH}
theorem dstsOk_spec {n : Nat} : ∀ {ops : List Oper}, dstsOk n ops = true → ∀ (i : Nat) (o : Oper) (d : Tmp), ops[i]? = some o → o.dst = some d → d < n
  | [], _, i, o, d, h, _ => by simp at h
  | o0 :: ops, h, i, o, d, hi, hd => by
    simp only [dstsOk, Bool.and_eq_true] at h
    cases i with
    | zero =>
      simp only [List.getElem?_cons_zero, Option.some.injEq] at hi
      subst hi
      have h1 := h.1
      rw [hd] at h1
      simpa [Nat.blt_eq] using h1
    | succ i => exact dstsOk_spec h.2 i o d (by simpa using hi) hd
theorem runDraw_each [Sy] (hX : ExtNext E) (hM : Mono r) {ops : List Oper} {Ts : Nat → Tmps} {Hs : Nat → AH} {val : Nat → Value} {W : Nat → Bool} {N : Notes} (hD : RunD E r ops Ts Hs val W N) :
    ∀ i, i < ops.length → (Hs i).next ≤ (Hs (i + 1)).next := by
  intro i hi
  have ho := List.getElem?_eq_getElem hi
  cases hw : W i with
  | false => rw [(hD.skip i _ ho hw).2]; exact Nat.le_refl _
  | true => exact doOp_next hX hM (hD.run i _ ho hw)
theorem drawRegion_sim [Sy] (hE : EnvOk E P) (hX : ExtOk E P) (hN : ExtNext E) (hM : Mono r) (hB : Below' E P r) {id : Nat} {ops : Array Oper} {T T' : Tmps} (hR : Rel ρ H w) (hG : GOk ρ E.g) (hT : TR ρ T tmps)
    (e : drawRegion E r ops.toList T H = some (T', H')) (hf : Free ρ H.next H'.next) :
    ∃ ρ' w' tmps', Post ρ H w ρ' H' w' ∧ TR ρ' T' tmps' ∧ Steps P (lone (fat b tmps (.code (.region id ops true) :: k) ds) cs w) (lone (fat b tmps' k ds) cs w') := by
  unfold drawRegion at e
  simp only at e
  obtain ⟨hchk, e⟩ := bif_some e
  simp only [Bool.and_eq_true] at hchk
  obtain ⟨⟨⟨hs, hch⟩, hds⟩, hed⟩ := hchk
  split at e
  · rename_i T1 H1 N hrun
    obtain ⟨hreads, e⟩ := bif_some e
    simp only [Option.some.injEq, Prod.mk.injEq] at e
    obtain ⟨rfl, rfl⟩ := e
    obtain ⟨Ts, Hs, val, W, hD, rfl, rfl, rfl, rfl⟩ := runDraw_run hrun
    have hm := runDraw_each hN hM hD
    have mono := run_next hD hm
    have hW : Drawn E ops.toList (Ts 0).n (befores ops.toList 0 []).reverse :=
      ⟨rfl, ssaOk_spec hs, hch, dstsOk_spec hds, fun j o hj e he hb => by have := edgesOk_spec hed j o hj e he hb; omega⟩
    obtain ⟨t, hdraw⟩ := step_draw' (b := b) (tmps := tmps) (ds := ds) (k := k) (cs := cs) (w := w) (id := id) (ops := ops) hE.mixed
    have hinv : Inv E r ops.toList Ts Hs val W ρ { w with drawn := w.drawn + 1 } (fun _ => False) 0 ρ { w with drawn := w.drawn + 1 } tmps :=
      { size := hT.size, glob := ⟨hG, hT.glob⟩, old := fun t v _ hg => hT.get t v hg, done := fun _ _ _ _ h => h.elim, qle := Nat.zero_le _, eff := fun i o _ _ => ⟨fun h => h.elim, fun h => by omega⟩
        rel := hR.draws _, late := fun i _ _ h => by omega, early := fun _ _ _ _ h => h.elim, apart := fun _ _ _ _ _ _ _ _ h => h.elim
        free := fun i hi _ x h1 h2 => hf x (Nat.le_trans (mono i (by omega) 0 (by omega)) h1) (Nat.lt_of_lt_of_le h2 (mono _ (Nat.le_refl _) (i + 1) hi))
        ext := Ext.refl _, dom := fun b p h1 h2 => (by rw [h1] at h2; cases h2), kept := fun _ _ _ => rfl, os := rfl, tape := rfl, output := rfl, wsize := Nat.le_refl _, frame := fun _ _ _ => rfl
        img := fun b p o h1 h2 _ => ⟨b, p, o, h1, h2, fun e => e, rfl⟩ }
    obtain ⟨S', q', ρ', w', tmps', hall, hI, hsteps⟩ := Inv.all (b := b) (ds := ds) (k := k) (cs := cs) hE hX hB hD hm hW hreads ops.size t (Array.replicate ops.size false) (by simp)
      (fun i => ⟨fun h => h.elim, fun h => by simp [Array.getElem?_replicate] at h⟩) (by rw [Array.toList_replicate]; exact Nat.le_trans List.count_le_length (by simp)) hinv (fun _ _ _ h => h.elim)
    obtain ⟨p, hI, hp⟩ := hI.settle hD hm _ q' rfl
    have hpl : p = ops.toList.length := by
      rcases hp with hp | ⟨o, ho, hc⟩
      · exact hp
      · have hpl := (List.getElem?_eq_some_iff.1 ho).1
        have := (hI.eff p o ho hc).1 (hall p (by simpa using hpl))
        omega
    subst hpl
    have hpost : Post ρ (Hs 0) { w with drawn := w.drawn + 1 } ρ' (Hs ops.toList.length) w' :=
      { ext := hI.ext, dom := hI.dom, next := mono _ (Nat.le_refl _) 0 (Nat.zero_le _), kept := hI.kept, os := hI.os, tape := hI.tape, output := hI.output, size := hI.wsize, frame := hI.frame, img := hI.img, rel := hI.rel }
    obtain ⟨hn, hg⟩ := text_n hD ops.toList.length (Nat.le_refl _)
    refine ⟨ρ', w', tmps', hpost.drawn, ⟨by rw [hg]; exact hI.glob.2, by rw [hn]; exact hI.size, ?_⟩, .head hdraw (Steps.trans hsteps (.one step_regionEnd'))⟩
    intro t v hv
    obtain ⟨t1, t2⟩ := text_get hD (fun i hi => (text_n hD i hi).1) hW.dst hW.ssa t ops.toList.length (Nat.le_refl _)
    by_cases hw : ∃ (k : Nat) (ok : Oper), ops.toList[k]? = some ok ∧ ok.dst = some t
    · obtain ⟨k, ok, hk, hd⟩ := hw
      have hkl := (List.getElem?_eq_some_iff.1 hk).1
      rw [t1 k ok hkl hk hd] at hv
      cases hv
      exact hI.done k ok t hk (hall k (by simpa using hkl)) hd
    · have hnot : ∀ (i : Nat) (o' : Oper), ops.toList[i]? = some o' → o'.dst ≠ some t := fun i o' ho' hd' => hw ⟨i, o', ho', hd'⟩
      rw [t2 (fun i o' _ ho' => hnot i o' ho')] at hv
      exact hI.old t v (fun i o' ho' _ => hnot i o' ho') hv
  · cases e
end
end Go.Ev
