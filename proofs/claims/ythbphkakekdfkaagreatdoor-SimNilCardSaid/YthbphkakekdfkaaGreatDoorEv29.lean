/- Symbols and what is known of them; calls that are known. -/
import Derived.Test.YthbphkakekdfkaaGreatDoorEv28
namespace Go.Ev
open Go Go.RowKit
def envW (P : Program) (orc : List (BinOp × Value × Value × Value)) (sum : Tr (List Value → AH → Option (Value × AH))) (fns : List (FuncId × FuncId × Nat) := []) : Env := { envOf P with orc := orc, sum := sum, fns := fns }
def sub [Sy] : Value → Value
  | .chan (some k) => Sy.val k
  | v => v
def leafyS : Value → Bool
  | .chan (some _) => true
  | v => leafy v
section
variable {P : Program} {ρ : Ren}
theorem leafyS_eq [Sy] {v v' : Value} (h : VR ρ v v') (hl : leafyS v = true) : v' = sub v := by
  unfold leafyS at hl
  split at hl
  · cases h; rfl
  · rename_i hn
    have h1 := leafy_eq h hl
    rw [h1]
    unfold sub
    split
    · exact (hn _ rfl).elim
    · rfl
theorem sub_VR [Sy] {v : Value} (hl : leafyS v = true) : VR ρ v (sub v) := by
  unfold leafyS at hl
  split at hl
  · exact .sym _
  · rename_i hn
    have : sub v = v := by
      unfold sub
      split
      · exact (hn _ rfl).elim
      · rfl
    rw [this]
    exact VR.leafy hl
theorem veqS_eq {x y : Value} (h : veqS x y = true) : x = y := by
  unfold veqS at h
  split at h
  · simp at h; rw [h.1, h.2]
  · have := Nat.eq_of_beq_eq_true h; rw [this]
  · rename_i a b
    have : a.data.toList = b.data.toList := by simpa using h
    have : a = b := by apply ByteArray.ext; exact Array.ext' this
    rw [this]
  · simp at h; rw [h]
  · cases h
theorem orcFind_mem {op : BinOp} {x y r : Value} : ∀ {l : List (BinOp × Value × Value × Value)}, orcFind op x y l = some r → (op, x, y, r) ∈ l
  | [], h => by simp [orcFind] at h
  | (o, a, b, r0) :: l, h => by
    unfold orcFind at h
    cases hc : (decide (o = op) && veqS a x && veqS b y)
    · rw [hc] at h
      exact List.mem_cons_of_mem _ (orcFind_mem h)
    · rw [hc] at h
      simp only [cond_true, Option.some.injEq] at h
      simp only [Bool.and_eq_true, decide_eq_true_eq] at hc
      rw [hc.1.1, veqS_eq hc.1.2, veqS_eq hc.2, h]
      exact List.mem_cons_self
def OrcOk [Sy] (orc : List (BinOp × Value × Value × Value)) : Prop :=
  ∀ e ∈ orc, (leafyS e.2.1 && leafyS e.2.2.1 && leafyS e.2.2.2) = true ∧ leafy (sub e.2.1) = true ∧ leafy (sub e.2.2.1) = true ∧ leafy (sub e.2.2.2) = true ∧ ∀ E t, binv E e.1 t (sub e.2.1) (sub e.2.2.1) = some (sub e.2.2.2)
theorem envW_ok [Sy] (hm : P.follows .mixedOrders = true) (hn : ∀ (f : Nat) (fn : Func), P.funcs[f]? = some fn → (fn.name == "runtime.NumGoroutine") = false) {orc : List (BinOp × Value × Value × Value)} {sum : Tr (List Value → AH → Option (Value × AH))}
    {fns : List (FuncId × FuncId × Nat)} (ho : OrcOk orc) : EnvOk (envW P orc sum fns) P := by
  have h0 := envOf_ok hm hn
  refine ⟨h0.fn, h0.name, h0.ty, h0.mixed, ?_⟩
  intro op u v r e ρ a x y hx hy t w
  have hmem : (op, u, v, r) ∈ orc := by
    unfold orcv at e
    split at e
    · exact orcFind_mem e
    · exact orcFind_mem e
    · cases e
  obtain ⟨h1, h2, h3, h4, h5⟩ := ho _ hmem
  simp only [Bool.and_eq_true] at h1 h2 h3 h4 h5
  have hxe := leafyS_eq hx h1.1.1
  have hye := leafyS_eq hy h1.1.2
  obtain ⟨r', g1, g2⟩ := binv_sim (ρ := ρ) h0 (u := sub u) (v := sub v) (x := x) (y := y) (a := a) (by rw [hxe]; exact VR.leafy h2) (by rw [hye]; exact VR.leafy h3) (h5 (envOf P) t) w
  refine ⟨r', g1, ?_⟩
  have := leafy_eq g2 h4
  rw [this]
  exact sub_VR h1.2
theorem Post.of_below [Sy] {H : AH} {w w' : World} (hR : Rel ρ H w) (h : Below w.heap.size w w') : Post ρ H w ρ H w' := by
  obtain ⟨b1, b2, b3, b4, b5⟩ := h
  refine ⟨Ext.refl _, fun b p a e => (by rw [a] at e; cases e), Nat.le_refl _, fun _ _ _ => rfl, b1, b2, b3, b4, fun c hc _ => b5 c hc, fun b p o a e _ => ⟨b, p, o, a, e, id, rfl⟩, ⟨?_, hR.inj, hR.fresh⟩⟩
  intro b p o hb ho
  obtain ⟨ob, g1, g2⟩ := hR.obj b p o hb ho
  exact ⟨ob, by rw [b5 p.c (Array.getElem?_eq_some_iff.1 g1).1]; exact g1, g2⟩
def truth : List Value → AH → Option (Value × AH) := fun args H => match args with
  | [] => some (.bool true, H)
  | _ => none
def sum1 (f : FuncId) : Tr (List Value → AH → Option (Value × AH)) := Tr.leaf.set f (some truth)
theorem sum1_get {f g : FuncId} {h : List Value → AH → Option (Value × AH)} (e : (sum1 f).get g = some h) : g = f ∧ h = truth := by
  unfold sum1 at e
  rw [Tr.get_set] at e
  by_cases hg : g = f
  · rw [if_pos hg] at e; exact ⟨hg, (Option.some.inj e).symm⟩
  · rw [if_neg hg] at e; simp [Tr.get] at e
theorem truth_some {args : List Value} {H H' : AH} {v : Value} (e : truth args H = some (v, H')) : args = [] ∧ v = .bool true ∧ H' = H := by
  unfold truth at e
  split at e
  · cases e; exact ⟨rfl, rfl, rfl⟩
  · cases e
theorem sum1_ok [Sy] {f : FuncId} {E : Env} (hE : E.sum = sum1 f) (hf : ∀ w, Calls P f #[] w fun e w' => e = .returned (.bool true) ∧ Below w.heap.size w w') : SumOk E P := by
  intro g h e args H v H' e2 ρ w args' hR _ ha _
  rw [hE] at e
  obtain ⟨rfl, rfl⟩ := sum1_get e
  obtain ⟨rfl, rfl, rfl⟩ := truth_some e2
  cases ha
  refine Calls.mono' (hf w) ?_
  rintro e' w' ⟨rfl, hb⟩
  exact ⟨ρ, .bool true, rfl, Post.of_below hR hb, .bool true⟩
theorem sum1_next {f : FuncId} {E : Env} (hx : E.ext = .leaf) (hE : E.sum = sum1 f) : ExtNext E := by
  refine ⟨fun g h e => by rw [hx] at e; simp [Tr.get] at e, fun g h e a H v H' e2 => ?_⟩
  rw [hE] at e
  obtain ⟨rfl, rfl⟩ := sum1_get e
  obtain ⟨_, _, rfl⟩ := truth_some e2
  exact Nat.le_refl _
end
end Go.Ev
