/- A law that answers true and leaves all as it was. -/
import Derived.Test.YthbphkakekdfkaaGreatDoorEv29
import Derived.WideKeyArgs
import Derived.OpenShut
import Derived.ChangeSame
namespace Go.Ev
open Go Go.RowKit Go.ChangeShapes Go.WideShapes
section
variable {H : Type} {enc : TypeId × Value → H} {P : Program}
theorem below_same {W W' : World} (hb : Below W.heap.size W W') {p : MemPlace} (hp : p.block < W.heap.size) : W.sameAt W' p := by
  obtain ⟨b1, b2, b3, b4, b5⟩ := hb
  cases p with
  | cell b off =>
    have := b5 b hp
    simp only [World.sameAt, World.cell?]
    rw [this]
  | map b => exact b5 b hp
theorem trodAll_stays {W W' : World} {base : Nat} {sp' : Nat → Bool} (hl : laidOutB P = true) (hb : Below W.heap.size W W') :
    ∀ {ts : List TypeId} {vs : List Value} {ds : List (DataW H)} {ps : List MemPlace}, (∀ t ∈ ts, P.readableRec t = true ∧ t < P.types.size) → DataW.TrodAll enc P W base (fun _ => true) true ts vs ds ps →
      (∀ p ∈ ps, p.block < W.heap.size) → (∀ p ∈ ps, sp' p.block = true) → DataW.TrodAll enc P W' base sp' true ts vs ds ps
  | [], [], [], _, _, h, _, _ => h
  | [], [], _ :: _, _, _, h, _, _ => by simp [DataW.TrodAll] at h
  | [], _ :: _, _, _, _, h, _, _ => by simp [DataW.TrodAll] at h
  | _ :: _, [], _, _, _, h, _, _ => by simp [DataW.TrodAll] at h
  | _ :: _, _ :: _, [], _, _, h, _, _ => by simp [DataW.TrodAll] at h
  | t :: ts, v :: vs, d :: ds, ps, hr, h, hlt, hsp => by
    obtain ⟨p, q, h1, h2, rfl⟩ := h
    obtain ⟨r1, r2⟩ := hr t (by simp)
    refine ⟨p, q, ?_, ?_, rfl⟩
    · exact WideElems.Trod_stays hl r1 r2 h1 (fun x hx => below_same hb (hlt x (by simp [hx]))) (fun x hx => hsp x (by simp [hx]))
    · exact trodAll_stays hl hb (fun t ht => hr t (by simp [ht])) h2 (fun x hx => hlt x (by simp [hx])) (fun x hx => hsp x (by simp [hx]))
theorem law_post {f : Func} {s : ChangeSpec} {apart fresh handsOn again : Bool} {W W' : World} {args : Array Value} {ds gs : List (DataW H)} {before : List MemPlace} {tb : TypeId}
    (hW : DataW.Whole enc P f.params.toList s.vars apart W args.toList ds gs before) (hv : s.vars = []) (hl : laidOutB P = true) (hr : ∀ t ∈ f.params.toList, P.readableRec t = true ∧ t < P.types.size)
    (hs : (s.fn H (ds ++ gs)).results = [.lit (.bool true)] ∧ (s.fn H (ds ++ gs)).args = ds ∧ (s.fn H (ds ++ gs)).vars = []) (hres : f.resultTypes = #[tb]) (htb : P.underlying tb = some .bool) (hb : Below W.heap.size W W') :
    s.post enc P f apart fresh handsOn again W args (.bool true) W' := by
  have hlt := fun p hp => hW.lt p hp
  have hlt' : ∀ p ∈ before, p.block < W.heap.size := fun p hp => hlt p hp
  have hW' := hW
  obtain ⟨p, q, hA, hV, hpq, hz, hn⟩ := hW'
  rw [hv] at hV
  obtain ⟨rfl, rfl⟩ := trodVars_none hV
  simp only [List.append_nil] at hpq hs
  subst hpq
  obtain ⟨hs1, hs2, hs3⟩ := hs
  have hsize : f.resultTypes.size = 1 := by rw [hres]; rfl
  have hrl : (Value.bool true).resultList f.resultTypes.size = [.bool true] := by rw [hsize]; rfl
  have hR : ∀ (b : Nat) (sp : Nat → Bool) (hd : Bool), DataW.TrodAll enc P W' b sp hd f.resultTypes.toList ((Value.bool true).resultList f.resultTypes.size) [.lit (.bool true)] [] := by
    intro b sp hd
    rw [hrl, hres]
    exact trodAll_mk1 (shut_bool htb true)
  have hAr : ∀ sp : Nat → Bool, (∀ x ∈ before, sp x.block = true) → DataW.TrodAll enc P W' 0 sp true f.params.toList args.toList ds before := fun sp hsp => trodAll_stays hl hb hr hA hlt' hsp
  have hfz : ∀ b off, MemPlace.cell b off ∈ before → W'.frozen? ⟨b, off, none⟩ = false := by
    intro b off hp
    have h1 := hz b off hp
    have h2 : b < W.heap.size := hlt' _ hp
    unfold World.frozen? at h1 ⊢
    simp only at h1 ⊢
    rw [hb.block b h2]
    exact h1
  have hkept : W.keptBut W' (fun x => x ∈ before ∧ (x ∈ ([] : List MemPlace) ∨ x ∈ before ∨ x ∈ ([] : List MemPlace))) := by
    refine ⟨hb.os, hb.output, fun i hi => ?_⟩
    rw [hb.block i hi]
    cases W.heap[i]? with
    | none => rfl
    | some o => cases o <;> first | exact ⟨rfl, rfl, rfl, fun _ _ => rfl⟩ | exact .inr ⟨rfl, rfl⟩ | rfl
  have hds : s.fn H (ds ++ []) = s.fn H ds := by rw [List.append_nil]
  refine ⟨ds, [], before, [], before, [], hW, ?_, ?_, ?_, hkept, fun _ => ⟨?_, ?_⟩⟩
  · rw [hds, hs1]; exact hR _ _ _
  · rw [hds, hs2]; exact hAr _ (fun x hx => by simpa using hlt' x hx)
  · rw [hds, hs3, hv]; rfl
  · intro j t r h1 h2
    rw [hrl] at h2
    rw [hres] at h1
    cases j with
    | zero =>
      simp at h1 h2
      subst h1; subst h2
      exact okWide_bool_mk htb true
    | succ j => simp at h2
  · refine ⟨.lit (.bool true) :: ds, [], before, ⟨before, [], ?_, by rw [hv]; rfl, by simp, ?_, hn⟩, fun x hx _ => hx⟩
    · rw [hrl, hres]
      exact ⟨[], before, shut_bool htb true, hAr _ (fun _ _ => rfl), rfl⟩
    · exact hfz
end
end Go.Ev
