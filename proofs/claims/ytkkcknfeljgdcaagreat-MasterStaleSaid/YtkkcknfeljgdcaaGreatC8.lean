/- MasterBytes: jobs that are taken, and all that was agreed on. MasterStale: lists looked through and copied. MasterStale: copies of lists, graphs and jobs. MasterStale: copies, whole. MasterStale: a master whose one job runs, all its partitions with worker 5. MasterStale: the task of a worker that has no partition. MasterStale: a queued job begins. MasterStale: the master starts the one job that waits. MasterStale: worker 5 joins; a job is submitted and starts. MasterStale: a job is submitted where one worker is: it runs. MasterStale: the first request of a session. MasterStale: commands of a worker that joins, and of a session, on a new master. MasterStale: a report that nobody waits for. -/
import Derived.Test.YtkkcknfeljgdcaaGreatC7
import Derived.Test.YtkkcknfeljgdcaaGreatVc3
namespace Go.Proofs.Cx
open Go Go.Ev
section
variable {H : AH} {b : Nat} {s : List UInt8} {q : RSt}
end
end Go.Proofs.Cx

namespace Go.Ev
open Go
/-- what two contracts say of a call, both say -/
theorem FW.and {E : Env} {f : FuncId} {args : List Value} {H : AH} {Q Q' : Value → AH → Prop} (h : FW E f args H Q) (k : FW E f args H Q') : FW E f args H fun v H' => Q v H' ∧ Q' v H' := by
  obtain ⟨n, v, H', h1, h2⟩ := h.run
  obtain ⟨m, w, H2, k1, k2⟩ := k.run
  have a := (evalN_le (Nat.le_max_left n m)).call _ _ _ _ h1
  have b := (evalN_le (Nat.le_max_right n m)).call _ _ _ _ k1
  rw [a] at b
  cases b
  exact ⟨_, _, _, a, h2, k2⟩
/-- a list's cells, all there -/
theorem takev_all {H : AH} {x : Addr} {l c sz : Nat} (h : ∀ i, i < l * sz → ∃ v, H.cell x.block (x.off + i) = some v ∧ oneCell v = true) (hpos : 0 < l * sz) : ∃ vs, takev H sz l (.slice (some x) l c) = some vs ∧ vs.length = l * sz ∧ vs.all oneCell = true ∧ ∀ i v, H.cell x.block (x.off + i) = some v → i < l * sz → vs[i]? = some v := by
  obtain ⟨b, o, sp⟩ := x
  simp only at h ⊢
  obtain ⟨v0, h0, _⟩ := h (l * sz - 1) (by omega)
  unfold AH.cell at h0
  cases hr : H.rd b with
  | none => rw [hr] at h0; simp at h0
  | some cs =>
    rw [hr] at h0
    have hlen : o + l * sz ≤ cs.length := by
      have := (List.getElem?_eq_some_iff.1 h0).1
      omega
    have get : ∀ i, i < l * sz → ((cs.drop o).take (l * sz))[i]? = cs[o + i]? := fun i hi => by rw [List.getElem?_take, if_pos hi, List.getElem?_drop]
    refine ⟨(cs.drop o).take (l * sz), ?_, by rw [List.length_take, List.length_drop]; omega, List.all_eq_true.2 fun v hv => ?_, fun i v e hi => ?_⟩
    · have hb : Nat.beq l 0 = false := by
        cases l with
        | zero => omega
        | succ l => rfl
      simp only [takev, hb, hr, Nat.ble_eq_true_of_le hlen, cond_true, cond_false]
    · obtain ⟨i, hi, rfl⟩ := List.getElem_of_mem hv
      have hi' : i < l * sz := by rw [List.length_take] at hi; omega
      obtain ⟨w, e1, e2⟩ := h i hi'
      unfold AH.cell at e1
      rw [hr] at e1
      simp only at e1
      have := get i hi'
      rw [List.getElem?_eq_getElem hi, e1] at this
      cases this
      exact e2
    · unfold AH.cell at e
      rw [hr] at e
      rw [get i hi]; exact e
end Go.Ev
namespace Go.Proofs.Cx
open Go Go.Ev
section
variable {H : AH}
theorem index_ok {F : Nat → Prop} {a : Option Addr} {l c : Nat} {zs : List Int} {w : Int} (hA : SlI F H a l zs) (hl : l ≤ 4611686018427387904) :
    FW Ee F_slices_Index_L_int_int [.slice a l c, .int .i64 w] H fun r H' => (∃ k : Int, r = .int .i64 k ∧ (0 ≤ k ↔ w ∈ zs)) ∧ H = H' := by
  have hlen := hA.len
  refine fw_slices_Index_L_int_int ?_
  refine ⟨fun n _ t Hx => ∃ i : Nat, t = i ∧ i ≤ zs.length ∧ n = zs.length - i ∧ (∀ k (hk : k < zs.length), k < i → zs[k] ≠ w) ∧ Hx = H, ⟨_, 0, rfl, by omega, rfl, fun k _ h => by omega, rfl⟩, ?_⟩
  rintro n t4 t Hx ⟨i, rfl, hi, rfl, hne, rfl⟩
  refine cond_dec (fun hlt => ?_) (fun hge => ?_)
  · have hik : i < zs.length := by omega
    obtain ⟨h1, h2⟩ := hA.nth hik
    refine grd_intro h1 ⟨by omega, by omega, zs[i], by rw [Int.toNat_natCast]; exact h2, cond_intro (fun he => ?_) (fun he => ?_)⟩
    · have he : w = zs[i] := by simpa using he
      exact ⟨⟨_, rfl, fun _ => he ▸ List.getElem_mem hik, fun _ => by omega⟩, rfl⟩
    · have he : w ≠ zs[i] := by simpa using he
      intro t18 e18
      rw [wrap_i64 (by omega) (by omega)] at e18
      subst e18
      refine ⟨zs.length - (i + 1), by omega, i + 1, by simp, by omega, rfl, fun k hk hki => ?_, rfl⟩
      by_cases e : k = i
      · subst e; exact fun h => he h.symm
      · exact hne k hk (by omega)
  · refine ⟨⟨-1, rfl, fun h => by omega, fun h => ?_⟩, rfl⟩
    obtain ⟨k, hk, e⟩ := List.getElem_of_mem h
    exact (hne k hk (by omega) e).elim
theorem contains_ok {F : Nat → Prop} {a : Option Addr} {l c : Nat} {zs : List Int} {w : Int} (hA : SlI F H a l zs) (hl : l ≤ 4611686018427387904) :
    FW Ee F_slices_Contains_L_int_int [.slice a l c, .int .i64 w] H fun r H' => r = .bool (decide (w ∈ zs)) ∧ H = H' := by
  refine fw_slices_Contains_L_int_int ?_
  refine (index_ok hA hl).mono ?_
  rintro _ _ ⟨⟨k, rfl, hk⟩, rfl⟩
  refine ⟨_, rfl, ?_, rfl⟩
  by_cases h : w ∈ zs
  · simp [h, hk.2 h]
  · have : ¬ 0 ≤ k := fun e => h (hk.1 e)
    simp [h]; omega
theorem parts_ok {F : Nat → Prop} {a : Option Addr} {l c : Nat} {zs : List Int} {w : Int} (ok : Ok H) (hA : SlI F H a l zs) (hl : zs.length ≤ 1000) :
    FW Ee F_plan_Parts [.slice a l c, .int .i64 w] H fun r H' => (∃ a' l' c', r = .slice a' l' c') ∧ Grow H H' := by
  have hlen := hA.len
  refine fw_plan_Parts ?_
  refine ⟨fun n a' l' c' t Hx => ∃ (i : Nat) (cs : List Value), t = i ∧ i ≤ zs.length ∧ n = zs.length - i ∧ l' ≤ i ∧ Own Hx 1 a' l' c' cs ∧ (∀ x, a' = some x → H.next ≤ x.block) ∧ Grow H Hx, ⟨_, 0, [], rfl, by omega, rfl, by omega, Own.nil _ _, fun x e => (by cases e), .refl ok⟩, ?_⟩
  rintro n a' l' c' t H1 ⟨i, cs, rfl, hi, rfl, hl', hO, hfar, g1⟩
  refine cond_dec (fun hlt => ?_) (fun hge => ⟨⟨_, _, _, rfl⟩, g1⟩)
  have hik : i < zs.length := by omega
  obtain ⟨h1, h2⟩ := (hA.grow loc_int g1).nth hik
  refine grd_intro h1 ⟨by omega, by omega, zs[i], by rw [Int.toNat_natCast]; exact h2, cond_intro (fun _ => ?_) (fun _ => ?_)⟩
  · intro H2 e2
    have g2 : Grow H1 H2 := e2 ▸ Grow.new g1.ok _
    obtain ⟨H3, k1, k2, k3, k4⟩ := (hO.mod g2 fun _ h => h.elim).append (n := 1) (bytes := 8) (new := [.int .i64 (i : Int)]) (x := .slice (some ⟨H1.next, 0, none⟩) 1 2) g2.ok rfl (takev_new e2 rfl) (by omega) rfl rfl (by omega) (by omega)
    refine ⟨_, _, _, H3, k1, ?_⟩
    intro t22 e22
    rw [wrap_i64 (by omega) (by omega)] at e22
    subst e22
    have n1 := g1.next
    have n2 := g2.next
    refine ⟨zs.length - (i + 1), by omega, i + 1, _, by simp, by omega, rfl, by omega, k2, fun x e => by cases e; simp only; omega, (g1.trans g2).ext k4 ok fun x hx => .inr ?_⟩
    obtain ⟨z, ez, rfl⟩ := off_not hx
    exact hfar z ez
  · intro t22 e22
    rw [wrap_i64 (by omega) (by omega)] at e22
    subst e22
    exact ⟨zs.length - (i + 1), by omega, i + 1, cs, by simp, by omega, rfl, by omega, hO, hfar, g1⟩
end
end Go.Proofs.Cx

namespace Go.Proofs.Cx
open Go Go.Ev
section
variable {H : AH}
set_option maxRecDepth 100000 in
theorem eqnil_int (a : Option Addr) (l c : Nat) : ∃ e, binv Ee .eql T_L_int (.slice a l c) (.slice none 0 0) = some (.bool e) := by
  cases a with
  | some x => exact ⟨false, by kernel_rfl⟩
  | none => cases l with
    | succ l => cases c with
      | zero => exact ⟨true, by kernel_rfl⟩
      | succ c => exact ⟨false, by kernel_rfl⟩
    | zero => cases c with
      | zero => exact ⟨true, by kernel_rfl⟩
      | succ c => exact ⟨false, by kernel_rfl⟩
set_option maxRecDepth 100000 in
theorem eqnil_int64 (a : Option Addr) (l c : Nat) : ∃ e, binv Ee .eql T_L_int64 (.slice a l c) (.slice none 0 0) = some (.bool e) := by
  cases a with
  | some x => exact ⟨false, by kernel_rfl⟩
  | none => cases l with
    | succ l => cases c with
      | zero => exact ⟨true, by kernel_rfl⟩
      | succ c => exact ⟨false, by kernel_rfl⟩
    | zero => cases c with
      | zero => exact ⟨true, by kernel_rfl⟩
      | succ c => exact ⟨false, by kernel_rfl⟩
set_option maxRecDepth 100000 in
theorem eqnil_vtx (a : Option Addr) (l c : Nat) : ∃ e, binv Ee .eql T_L_api_Vertex (.slice a l c) (.slice none 0 0) = some (.bool e) := by
  cases a with
  | some x => exact ⟨false, by kernel_rfl⟩
  | none => cases l with
    | succ l => cases c with
      | zero => exact ⟨true, by kernel_rfl⟩
      | succ c => exact ⟨false, by kernel_rfl⟩
    | zero => cases c with
      | zero => exact ⟨true, by kernel_rfl⟩
      | succ c => exact ⟨false, by kernel_rfl⟩
set_option maxRecDepth 100000 in
theorem eqnil_edge (a : Option Addr) (l c : Nat) : ∃ e, binv Ee .eql T_L_api_Edge (.slice a l c) (.slice none 0 0) = some (.bool e) := by
  cases a with
  | some x => exact ⟨false, by kernel_rfl⟩
  | none => cases l with
    | succ l => cases c with
      | zero => exact ⟨true, by kernel_rfl⟩
      | succ c => exact ⟨false, by kernel_rfl⟩
    | zero => cases c with
      | zero => exact ⟨true, by kernel_rfl⟩
      | succ c => exact ⟨false, by kernel_rfl⟩
/-- a copy: a list of its own, of the same cells -/
theorem copy_vc {sz bytes : Nat} {a : Option Addr} {l c : Nat} {Q : Value → AH → Prop} {P : Bool → Prop} (hP : ∃ e, P e) (ok : Ok H) (hb : l * bytes ≤ 140737488355328 ∧ l ≤ 140737488355328) (hsz : 0 < sz)
    (hc : 0 < l → ∃ x, a = some x ∧ ∀ i, i < l * sz → ∃ v, H.cell x.block (x.off + i) = some v ∧ oneCell v = true)
    (h0 : Q (.slice none 0 0) H) (h1 : ∀ a' l' c' cs H', (l' = 0 ∨ l' = l) → Own H' sz a' l' c' cs → (∀ y, a' = some y → H.next ≤ y.block) → (∀ x i v, a = some x → H.cell x.block (x.off + i) = some v → i < l' * sz → cs[i]? = some v) → Grow H H' → Q (.slice a' l' c') H') :
    ∃ eq, P eq ∧ cond eq (Q (.slice none 0 0) H) (∀ H1, H1 = H.new (.cells [] 0) → ∃ (ta : Option Addr) (tl tc : Nat) (H2 : AH), apnd H1 sz bytes (some ⟨H.next, 0, none⟩) 0 0 (.slice a l c) = some (.slice ta tl tc, H2) ∧ Q (.slice ta tl tc) H2) := by
  obtain ⟨e, he⟩ := hP
  refine ⟨e, he, cond_intro (fun _ => h0) (fun _ => ?_)⟩
  intro H1 e1
  obtain ⟨g1, b1, n1⟩ := new_job ok e1
  have O1 : Own H1 sz (some ⟨H.next, 0, none⟩) 0 0 [] := Own.empty sz b1
  rcases Nat.eq_zero_or_pos l with hl | hl
  · subst hl
    refine ⟨some ⟨H.next, 0, none⟩, 0, 0, H1, ?_, h1 _ _ _ [] _ (.inl rfl) O1 (fun y ey => by cases ey; exact Nat.le_refl _) (fun x i v _ _ hi => by omega) g1⟩
    have : takev H1 sz 0 (.slice a 0 c) = some [] := takev_none rfl
    simp only [apnd, lenOfv, this]
    rfl
  · obtain ⟨x, rfl, hcells⟩ := hc hl
    have hpos : 0 < l * sz := Nat.mul_pos hl hsz
    have up : ∀ i v, H.cell x.block (x.off + i) = some v → H1.cell x.block (x.off + i) = some v := fun i v k => loc_cell (F := (· = x.block)) (fun _ _ _ e => g1.get _ _ not_false e) rfl k
    obtain ⟨vs, k1, k2, k3, k4⟩ := takev_all (H := H1) (x := x) (l := l) (c := c) (sz := sz) (fun i hi => by obtain ⟨v, e1, e2⟩ := hcells i hi; exact ⟨v, up i v e1, e2⟩) hpos
    obtain ⟨H2, p1, p2, p3, p4⟩ := O1.append (n := l) (bytes := bytes) (new := vs) (x := .slice (some x) l c) g1.ok rfl k1 hl k2 k3 (by rw [Nat.zero_add]; exact hb.1) (by rw [Nat.zero_add]; exact hb.2)
    rw [Nat.zero_add, List.nil_append] at *
    refine ⟨_, _, _, H2, p1, h1 _ _ _ vs H2 (.inr rfl) p2 (fun y ey => by cases ey; show H.next ≤ H1.next; omega) (fun y i v ey ev hi => ?_) (g1.ext p4 ok fun y hy => .inr ?_)⟩
    · cases ey
      exact k4 i v (up i v ev) hi
    · obtain ⟨z, ez, rfl⟩ := off_not hy
      cases ez
      exact Nat.le_refl _
end
end Go.Proofs.Cx

namespace Go.Proofs.Cx
open Go Go.Ev
section
variable {H : AH} {F : Nat → Prop} {a : Option Addr} {l c : Nat}
theorem cloneI_ok {zs : List Int} (ok : Ok H) (hA : SlI F H a l zs) (hl : l ≤ 1000000) : FW Ee F_slices_Clone_L_int_int [.slice a l c] H fun r H' => (∃ a' l' c', r = .slice a' l' c') ∧ Grow H H' := by
  refine fw_slices_Clone_L_int_int ?_
  have hlen := hA.len
  refine copy_vc (sz := 1) (bytes := 8) (a := a) (l := l) (c := c) (Q := fun r H' => (∃ a' l' c', r = .slice a' l' c') ∧ Grow H H') (P := fun e => binv Ee .eql T_L_int (.slice a l c) (.slice none 0 0) = some (.bool e)) (eqnil_int a l c) ok (by omega) (by omega) (fun hp => ?_) ⟨⟨_, _, _, rfl⟩, .refl ok⟩ fun a' l' c' cs H' _ _ _ _ g => ⟨⟨_, _, _, rfl⟩, g⟩
  obtain ⟨h1, _⟩ := hA.nth (k := 0) (by omega)
  obtain ⟨x, rfl⟩ := Option.isSome_iff_exists.1 h1
  refine ⟨x, rfl, fun i hi => ?_⟩
  obtain ⟨_, h2⟩ := hA.nth (k := i) (by omega)
  have h2 : H.cell x.block (x.off + i * 1) = _ := h2
  rw [Nat.mul_one] at h2
  exact ⟨_, h2, rfl⟩
theorem cloneI64_ok {zs : List Int} (ok : Ok H) (hA : SlI F H a l zs) (hl : l ≤ 1000000) : FW Ee F_slices_Clone_L_int64_int64 [.slice a l c] H fun r H' => (∃ a' l' c', r = .slice a' l' c') ∧ Grow H H' := by
  refine fw_slices_Clone_L_int64_int64 ?_
  have hlen := hA.len
  refine copy_vc (sz := 1) (bytes := 8) (a := a) (l := l) (c := c) (Q := fun r H' => (∃ a' l' c', r = .slice a' l' c') ∧ Grow H H') (P := fun e => binv Ee .eql T_L_int64 (.slice a l c) (.slice none 0 0) = some (.bool e)) (eqnil_int64 a l c) ok (by omega) (by omega) (fun hp => ?_) ⟨⟨_, _, _, rfl⟩, .refl ok⟩ fun a' l' c' cs H' _ _ _ _ g => ⟨⟨_, _, _, rfl⟩, g⟩
  obtain ⟨h1, _⟩ := hA.nth (k := 0) (by omega)
  obtain ⟨x, rfl⟩ := Option.isSome_iff_exists.1 h1
  refine ⟨x, rfl, fun i hi => ?_⟩
  obtain ⟨_, h2⟩ := hA.nth (k := i) (by omega)
  have h2 : H.cell x.block (x.off + i * 1) = _ := h2
  rw [Nat.mul_one] at h2
  exact ⟨_, h2, rfl⟩
theorem cloneE_ok {es : List (Int × Int)} (ok : Ok H) (hA : SlE F H a l es) (hl : l ≤ 1000000) : FW Ee F_slices_Clone_L_api_Edge_api_Edge [.slice a l c] H fun r H' => (∃ a' l' c', r = .slice a' l' c') ∧ Grow H H' := by
  refine fw_slices_Clone_L_api_Edge_api_Edge ?_
  have hlen := hA.len
  refine copy_vc (sz := 2) (bytes := 16) (a := a) (l := l) (c := c) (Q := fun r H' => (∃ a' l' c', r = .slice a' l' c') ∧ Grow H H') (P := fun e => binv Ee .eql T_L_api_Edge (.slice a l c) (.slice none 0 0) = some (.bool e)) (eqnil_edge a l c) ok (by omega) (by omega) (fun hp => ?_) ⟨⟨_, _, _, rfl⟩, .refl ok⟩ fun a' l' c' cs H' _ _ _ _ g => ⟨⟨_, _, _, rfl⟩, g⟩
  obtain ⟨h1, _⟩ := hA.nth (k := 0) (by omega)
  obtain ⟨x, rfl⟩ := Option.isSome_iff_exists.1 h1
  refine ⟨x, rfl, fun i hi => ?_⟩
  obtain ⟨_, h2, h3⟩ := hA.nth (k := i / 2) (by omega)
  have h2 : H.cell x.block (x.off + i / 2 * 2) = _ := h2
  have h3 : H.cell x.block (x.off + i / 2 * 2 + 1) = _ := h3
  rcases Nat.mod_two_eq_zero_or_one i with e | e
  · rw [show x.off + i / 2 * 2 = x.off + i from by omega] at h2
    exact ⟨_, h2, rfl⟩
  · rw [show x.off + i / 2 * 2 + 1 = x.off + i from by omega] at h3
    exact ⟨_, h3, rfl⟩
/-- a vertex's cells in a row of them -/
def VRow (F : Nat → Prop) (H : AH) (cs : List Value) (i : Nat) : Prop := ∃ id val ea el ec es, cs[i * 3]? = some (.int .i64 id) ∧ cs[i * 3 + 1]? = some (.int .i64 val) ∧ cs[i * 3 + 2]? = some (.slice ea el ec) ∧ SlE F H ea el es ∧ el ≤ 1000000
theorem cloneV_ok {G : List Vtx} (ok : Ok H) (hA : SlV F H a l G) (hl : l ≤ 1000000) (hE : ∀ v ∈ G, v.edges.length ≤ 1000000) : FW Ee F_slices_Clone_L_api_Vertex_api_Vertex [.slice a l c] H fun r H' => (∃ a' l' c' cs, r = .slice a' l' c' ∧ Own H' 3 a' l' c' cs ∧ (∀ y, a' = some y → H.next ≤ y.block) ∧ l' ≤ 1000000 ∧ ∀ i, i < l' → VRow F H cs i) ∧ Grow H H' := by
  refine fw_slices_Clone_L_api_Vertex_api_Vertex ?_
  have hlen := hA.len
  refine copy_vc (sz := 3) (bytes := 40) (a := a) (l := l) (c := c) (Q := fun r H' => (∃ a' l' c' cs, r = .slice a' l' c' ∧ Own H' 3 a' l' c' cs ∧ (∀ y, a' = some y → H.next ≤ y.block) ∧ l' ≤ 1000000 ∧ ∀ i, i < l' → VRow F H cs i) ∧ Grow H H') (P := fun e => binv Ee .eql T_L_api_Vertex (.slice a l c) (.slice none 0 0) = some (.bool e)) (eqnil_vtx a l c) ok (by omega) (by omega) (fun hp => ?_) ⟨⟨none, 0, 0, [], rfl, Own.nil _ _, fun y e => (by cases e), by omega, fun i hi => by omega⟩, .refl ok⟩ fun a' l' c' cs H' hl' hO hfar hcs g => ⟨⟨a', l', c', cs, rfl, hO, hfar, by omega, fun i hi => ?_⟩, g⟩
  · obtain ⟨h1, _⟩ := hA.nth (k := 0) (by omega)
    obtain ⟨x, rfl⟩ := Option.isSome_iff_exists.1 h1
    refine ⟨x, rfl, fun i hi => ?_⟩
    obtain ⟨_, h2, h3, ea, el, ec, h4, _⟩ := hA.nth (k := i / 3) (by omega)
    have h2 : H.cell x.block (x.off + i / 3 * 3) = _ := h2
    have h3 : H.cell x.block (x.off + i / 3 * 3 + 1) = _ := h3
    have h4 : H.cell x.block (x.off + i / 3 * 3 + 2) = _ := h4
    have : i % 3 = 0 ∨ i % 3 = 1 ∨ i % 3 = 2 := by omega
    rcases this with e | e | e
    · rw [show x.off + i / 3 * 3 = x.off + i from by omega] at h2
      exact ⟨_, h2, rfl⟩
    · rw [show x.off + i / 3 * 3 + 1 = x.off + i from by omega] at h3
      exact ⟨_, h3, rfl⟩
    · rw [show x.off + i / 3 * 3 + 2 = x.off + i from by omega] at h4
      exact ⟨_, h4, rfl⟩
  · have hik : i < G.length := by omega
    obtain ⟨h1, h2, h3, ea, el, ec, h4, h5⟩ := hA.nth (k := i) hik
    obtain ⟨x, rfl⟩ := Option.isSome_iff_exists.1 h1
    have h2 : H.cell x.block (x.off + i * 3) = _ := h2
    have h3 : H.cell x.block (x.off + i * 3 + 1) = _ := h3
    have h4 : H.cell x.block (x.off + i * 3 + 2) = _ := h4
    rw [Nat.add_assoc] at h3 h4
    have hel := h5.len
    have := hE _ (List.getElem_mem hik)
    exact ⟨_, _, ea, el, ec, _, hcs x _ _ rfl h2 (by omega), hcs x _ _ rfl h3 (by omega), hcs x _ _ rfl h4 (by omega), h5, by omega⟩
theorem gclone_ok {G : List Vtx} (ok : Ok H) (hA : SlV F H a l G) (hl : l ≤ 1000000) (hE : ∀ v ∈ G, v.edges.length ≤ 1000000) : FW Ee F_graph_Clone [.agg ⟨[.slice a l c]⟩] H fun r H' => (∃ a' l' c', r = .agg ⟨[.slice a' l' c']⟩) ∧ Grow H H' := by
  refine fw_graph_Clone ?_
  intro H1 e1 H2 e2
  obtain ⟨g2, v2, z2, n1, n2⟩ := two_new ok e1 e2
  refine ⟨a, l, c, cell_of v2 rfl, (cloneV_ok g2.ok (hA.grow loc_vtx g2) hl hE).mono ?_⟩
  rintro _ H3 ⟨⟨a', l', c', cs, rfl, hO, hfar, hl', hV⟩, g3⟩
  have n3 := g3.next
  refine ⟨a', l', c', rfl, ?_⟩
  intro H4 e4
  obtain ⟨H5, s5, o5, g5, n5⟩ := fresh_store (vs := [.slice a' l' c']) e4 rfl rfl g3.ok
  refine ⟨H5, s5, a', l', c', cell_of o5 rfl, ?_⟩
  have z5 := g5.get _ _ not_false (g3.get _ _ not_false z2)
  have gg5 := (g2.trans g3).trans g5
  have fin : ∀ {Hx : AH}, Hx.get H3.next = some (.cells [.slice a' l' c'] 0) → Hx.get H1.next = some (.cells [.slice none 0 0] 0) → Grow H Hx → ∃ (ta : Option Addr) (tl tc : Nat), Hx.cell H3.next (0 + 0) = some (.slice ta tl tc) ∧ ∃ (H11 : AH), storeCellsv Hx H1.next 0 [.slice ta tl tc] = some H11 ∧ ∃ (ra : Option Addr) (rl rc : Nat), H11.cell H1.next (0 + 0) = some (.slice ra rl rc) ∧
      ((∃ a' l' c', Value.agg ⟨[.slice ra rl rc]⟩ = .agg ⟨[.slice a' l' c']⟩) ∧ Grow H H11) := by
    intro Hx ho hz hg
    obtain ⟨H11, s11, c11, m11, _⟩ := st_cell (o := 0) (w := [.slice a' l' c']) (cs' := [.slice a' l' c']) hg.ok hz (by simp) rfl rfl
    exact ⟨_, _, _, cell_of ho rfl, H11, s11, _, _, _, cell_of c11 rfl, ⟨_, _, _, rfl⟩, hg.ext m11 ok fun x hx => .inr (by omega)⟩
  rcases Nat.eq_zero_or_pos l' with h0 | h0
  · subst h0
    refine ⟨fun _ t Hx => t = 0 ∧ Hx = H5, ⟨0, rfl, rfl⟩, ?_⟩
    rintro n t Hx ⟨rfl, rfl⟩
    exact cond_neg (by simp) (fin o5 z5 gg5)
  · obtain ⟨cb, ha', hcb⟩ : ∃ cb, a' = some ⟨cb, 0, none⟩ ∧ H3.get cb = some (.cells cs 3) := by
      rcases hO.st with ⟨_, h, _⟩ | ⟨_, _, h, _⟩ | ⟨b, h1, _, h2⟩
      · omega
      · omega
      · exact ⟨b, h1, h2⟩
    have hcl := hO.len
    have hcn := hfar _ ha'
    simp only at hcn
    have hcl3 := g3.ok.lt hcb
    have hne : cb ≠ H3.next := by omega
    refine ⟨fun n t Hx => ∃ (i : Nat) (cs : List Value), t = i ∧ i ≤ l' ∧ n = l' - i ∧ Hx.get H3.next = some (.cells [.slice a' l' c'] 0) ∧ Hx.get H1.next = some (.cells [.slice none 0 0] 0) ∧ Hx.get cb = some (.cells cs 3) ∧ cs.length = l' * 3 ∧ (∀ k, i ≤ k → k < l' → VRow F H2 cs k) ∧ Grow H Hx ∧ Grow H2 Hx, ⟨_, 0, cs, rfl, by omega, rfl, o5, z5, g5.get _ _ not_false hcb, hcl, fun k _ hk => hV k hk, gg5, g3.trans g5⟩, ?_⟩
    rintro n t H6 ⟨i, cs, rfl, hi, rfl, o6, z6, c6, l6, hV6, g6, gg6⟩
    refine cond_dec (fun hlt => ?_) (fun hge => fin o6 z6 g6)
    have hik : i < l' := by omega
    obtain ⟨id, val, ea, el, ec, es, k1, k2, k3, k4, k5⟩ := hV6 i (Nat.le_refl _) hik
    subst ha'
    refine grd_intro rfl ⟨by omega, by omega, id, val, ea, el, ec, ?_, ?_, ?_, ?_⟩
    · rw [show (adr (some (⟨cb, 0, none⟩ : Addr))).off + ((i : Nat) : Int).toNat * 3 + 0 = i * 3 from by simp [adr]]
      exact cell_of c6 k1
    · rw [show (adr (some (⟨cb, 0, none⟩ : Addr))).off + ((i : Nat) : Int).toNat * 3 + 1 = i * 3 + 1 from by simp [adr]]
      exact cell_of c6 k2
    · rw [show (adr (some (⟨cb, 0, none⟩ : Addr))).off + ((i : Nat) : Int).toNat * 3 + 2 = i * 3 + 2 from by simp [adr]]
      exact cell_of c6 k3
    intro H7 e7
    obtain ⟨H8, s8, b8, g8, n8⟩ := fresh_store (vs := [.int .i64 id, .int .i64 val, .slice ea el ec]) e7 rfl rfl g6.ok
    refine ⟨H8, s8, _, _, _, cell_of (g8.get _ _ not_false o6) rfl, ea, el, ec, cell_of b8 rfl, (cloneE_ok g8.ok ((k4.grow loc_edge gg6).grow loc_edge g8) k5).mono ?_⟩
    rintro _ H9 ⟨⟨ra, rl, rc, rfl⟩, g9⟩
    have g69 := g8.trans g9
    obtain ⟨H10, s10, c10, m10, n10⟩ : ∃ H10, storeCellsv H9 cb (i * 3 + 2) [.slice ra rl rc] = some H10 ∧ H10.get cb = some (.cells (lset cs (i * 3 + 2) [.slice ra rl rc]) 3) ∧ Mod (· = cb) H9 H10 ∧ H10.next = H9.next :=
      ⟨_, store_of (o := i * 3 + 2) (g69.get _ _ not_false c6) (by simp; omega) rfl, get_set_self _ _ _, Mod.set g9.ok (g69.get _ _ not_false c6) _, rfl⟩
    refine ⟨ra, rl, rc, rfl, grd_intro rfl ⟨by omega, by omega, H10, ?_, cell_of (g69.get _ _ not_false o6) rfl, ?_⟩⟩
    · rw [show (adr (some (⟨cb, 0, none⟩ : Addr))).off + ((i : Nat) : Int).toNat * 3 + 2 = i * 3 + 2 from by simp [adr]]
      exact s10
    · intro t26 e26
      rw [wrap_i64 (by omega) (by omega)] at e26
      subst e26
      refine ⟨l' - (i + 1), by omega, i + 1, _, by simp, by omega, rfl, m10.get _ _ (by omega) (g69.get _ _ not_false o6), m10.get _ _ (by omega) (g69.get _ _ not_false z6), c10, by rw [lset_len (by simp; omega)]; exact l6, fun k hk hk2 => ?_, (g6.trans g69).ext m10 ok fun x hx => .inr (by omega), (gg6.trans g69).ext m10 g2.ok fun x hx => .inr (by omega)⟩
      obtain ⟨id, val, ea, el, ec, es, k1, k2, k3, k4, k5⟩ := hV6 k (by omega) hk2
      exact ⟨id, val, ea, el, ec, es, by rw [lset_out (by simp; omega) (by simp; omega)]; exact k1, by rw [lset_out (by simp; omega) (by simp; omega)]; exact k2, by rw [lset_out (by simp; omega) (by simp; omega)]; exact k3, k4, k5⟩
theorem mclone_ok {Fp : Nat → Prop} {j : JobW} {pa : Option Addr} {pl pc : Nat} (ok : Ok H) (hA : SlV F H a l j.graph) (hl : l ≤ 1000000) (hE : ∀ v ∈ j.graph, v.edges.length ≤ 1000000) (hP : SlI Fp H pa pl j.params) (hpl : pl ≤ 1000000) :
    FW Ee F_master_clone [jV j a l c pa pl pc] H fun r H' => (∃ a' l' c' pa' pl' pc', r = jV j a' l' c' pa' pl' pc') ∧ Grow H H' := by
  refine fw_master_clone ?_
  intro H1 e1 H2 e2
  obtain ⟨g2, v2, z2, n1, n2⟩ := two_new ok e1 e2
  refine ⟨a, l, c, cell_of v2 rfl, (gclone_ok g2.ok (hA.grow loc_vtx g2) hl hE).mono ?_⟩
  rintro _ H3 ⟨⟨a', l', c', rfl⟩, g3⟩
  have g23 := g2.trans g3
  refine ⟨a', l', c', rfl, pa, pl, pc, cell_of (g3.get _ _ not_false v2) rfl, (cloneI64_ok g3.ok (hP.grow loc_int g23) hpl).mono ?_⟩
  rintro _ H4 ⟨⟨pa', pl', pc', rfl⟩, g4⟩
  have g24 := g23.trans g4
  have v4 := (g3.trans g4).get _ _ not_false v2
  have z4 := (g3.trans g4).get _ _ not_false z2
  obtain ⟨H5, s5, c5, m5, n5⟩ := st_cell (o := 1) (w := [.slice a' l' c']) (cs' := jC j a' l' c' pa pl pc) g4.ok v4 (by simp) rfl rfl
  obtain ⟨H6, s6, c6, m6, n6⟩ := st_cell (o := 2) (w := [.slice pa' pl' pc']) (cs' := jC j a' l' c' pa' pl' pc') m5.ok c5 (by simp) rfl rfl
  have m56 := m5.trans m6
  obtain ⟨H7, s7, c7, m7, n7⟩ := st_cell (o := 0) (w := jC j a' l' c' pa' pl' pc') (cs' := jC j a' l' c' pa' pl' pc') m6.ok (m56.get _ _ (show ¬ H1.next = H.next by omega) z4) (by simp) rfl rfl
  exact ⟨_, _, _, rfl, H5, s5, H6, s6, cell_of v2 rfl, _, _, _, _, _, _, _, _, _, _, cell_of c6 rfl, cell_of c6 rfl, cell_of c6 rfl, cell_of c6 rfl, cell_of c6 rfl, cell_of c6 rfl, H7, s7, _, _, _, _, _, _, _, _, _, _, cell_of c7 rfl, cell_of c7 rfl, cell_of c7 rfl, cell_of c7 rfl, cell_of c7 rfl, cell_of c7 rfl, ⟨_, _, _, _, _, _, rfl⟩, (g24.ext m56 ok fun x hx => .inr (by omega)).ext m7 ok fun x hx => .inr (by omega)⟩
end
end Go.Proofs.Cx

namespace Go.Ev
open Go
abbrev zAgg : List Value := [.bool false, .bool false, .bool false, .bool false, .bool false, .int .i64 0, .int .i64 0, .int .i64 0, .int .i64 0, .int .i64 0]
/-- the cells of the job that runs -/
def jobRC (J : JobW) (a : Option Addr) (l c : Nat) (pa : Option Addr) (pl pc : Nat) (aa : Option Addr) (al ac rb : Nat) : List Value :=
  [.int .i64 1, .string ⟨⟨J.prog⟩⟩, .slice a l c, .slice pa pl pc, .int .i64 J.steps, .int .i64 J.sent, .int .i64 J.parts, .int .i64 2, .int .i64 0, .int .i64 0, .int .i64 0, .slice none 0 0, .int .i64 1, .int .i64 0, .int .i64 1, .slice aa al ac, .map (some rb),
    .bool false, .bool false, .bool false, .bool false, .bool false, .int .i64 0, .int .i64 0, .int .i64 0, .int .i64 0, .int .i64 0, .int .i64 0,
    .bool false, .bool false, .bool false, .bool false, .bool false, .int .i64 0, .int .i64 0, .int .i64 0, .int .i64 0, .int .i64 0, .int .i64 0, .int .i64 0,
    .bool false, .bool false, .bool false, .bool false, .bool false, .int .i64 0, .int .i64 0, .int .i64 0, .int .i64 0, .int .i64 0]
structure RM (H : AH) (n0 L jb : Nat) (J : JobW) (a : Option Addr) (l c : Nat) (pa : Option Addr) (pl pc : Nat) (aa : Option Addr) (al ac rb : Nat) (rt : List UInt8) : Prop where
  lo : L ≤ jb ∧ L ≤ rb ∧ n0 + 4 < L
  m : H.get (n0 + 4) = some (.cells [.pointer (some ⟨n0 + 1, 0, none⟩), .map (some (n0 + 2)), .map (some (n0 + 3)), .int .i64 1, .int .i64 1] 0)
  s : H.get (n0 + 1) = some (.cells [.map (some n0)] 0)
  t : MapV H n0 [1] fun _ => .agg ⟨[.int .i64 1, .string ⟨⟨rt⟩⟩]⟩
  j : MapV H (n0 + 2) [1] fun _ => .pointer (some ⟨jb, 0, none⟩)
  w : MapV H (n0 + 3) [5] fun _ => .int .i64 1
  job : H.get jb = some (.cells (jobRC J a l c pa pl pc aa al ac rb) 0)
  r : H.get rb = some (.map [] 0)
  asg : SlI (L ≤ ·) H aa al (List.replicate al 5)
  alb : 1 ≤ al ∧ al ≤ 16
  g : SlV (L ≤ ·) H a l J.graph
  p : SlI (L ≤ ·) H pa pl J.params
  ji : JobI J
  ok : jchk J = 0
theorem RM.mod {S : Nat → Prop} {H H' : AH} {n0 L jb : Nat} {J : JobW} {a : Option Addr} {l c : Nat} {pa : Option Addr} {pl pc : Nat} {aa : Option Addr} {al ac rb : Nat} {rt : List UInt8} (h : RM H n0 L jb J a l c pa pl pc aa al ac rb rt) (k : Mod S H H') (hs : ∀ x, n0 ≤ x ∧ x ≤ n0 + 4 ∨ L ≤ x → ¬ S x) : RM H' n0 L jb J a l c pa pl pc aa al ac rb rt := by
  obtain ⟨lo, m, s, t, j, w, job, r, asg, alb, g, p, ji, okj⟩ := h
  exact ⟨lo, k.get _ _ (hs _ (by omega)) m, k.get _ _ (hs _ (by omega)) s, t.mod k (hs _ (by omega)), j.mod k (hs _ (by omega)), w.mod k (hs _ (by omega)), k.get _ _ (hs _ (by omega)) job, k.get _ _ (hs _ (by omega)) r, asg.mod loc_int k fun x hx => hs x (.inr hx), alb, g.mod loc_vtx k fun x hx => hs x (.inr hx), p.mod loc_int k fun x hx => hs x (.inr hx), ji, okj⟩
end Go.Ev
namespace Go.Proofs.Cx
open Go Go.Ev
section
variable {H : AH} {n0 L jb : Nat} {J : JobW} {a : Option Addr} {l c : Nat} {pa : Option Addr} {pl pc : Nat} {aa : Option Addr} {al ac rb : Nat} {rt : List UInt8}
set_option maxRecDepth 100000 in
theorem look_ir {H : AH} {m : Value} {c : Int} {ok : Bool} : lookupv Ee H T_M_int_api_Report m (.int .i64 c) ok = lookX Ee T_int H m c (.agg ⟨repC (fun _ => 0) (fun _ => false) (fun _ => 0) none 0 0⟩) ok := by kernel_rfl
theorem currentr_ok (ok : Ok H) (h : RM H n0 L jb J a l c pa pl pc aa al ac rb rt) : FW Ee F_master_Master_current [.pointer (some ⟨n0 + 4, 0, none⟩)] H fun r H' => r = .pointer (some ⟨jb, 0, none⟩) ∧ Grow H H' := by
  refine fw_master_Master_current ?_
  refine (idsn_ok ok h.m h.j).mono ?_
  rintro _ H1 ⟨a1, c1, rfl, hS, g1⟩
  have e1 : sortI [1] = [1] := by simp [sortI]
  rw [e1] at hS
  have h1 := h.mod g1 fun _ _ => id
  refine ⟨_, _, _, rfl, fun _ _ t Hx => t = 0 ∧ Hx = H1, ⟨0, rfl, rfl⟩, ?_⟩
  rintro n t2 t8 H2 ⟨rfl, rfl⟩
  obtain ⟨hs, hx⟩ := hS.nth (k := 0) (by simp)
  have lk : lookupv Ee H2 T_M_int_P_master_job (.map (some (n0 + 2))) (.int .i64 1) false = some (.pointer (some ⟨jb, 0, none⟩)) := by
    rw [look_ij, h1.j.look (fun _ _ => eqv_I)]
    simp
  exact cond_pos (by simp) (grd_intro hs ⟨by omega, by simp, 1, hx, _, cell_of h1.m rfl, _, lk, grd_intro rfl (grd_intro rfl ⟨2, cell_of h1.job rfl, cond_pos rfl ⟨_, cell_of h1.m rfl, _, lk, rfl, g1⟩⟩)⟩)
/-- who has no partition, or tells of something else, is not waited for -/
theorem wantsr_ok {f : Nat → Int} {hh : Nat → Bool} {v : Nat → Int} {va : Option Addr} {vl vc : Nat} (ok : Ok H) (h : RM H n0 L jb J a l c pa pl pc aa al ac rb rt) (hf : f 0 ≠ 1 ∨ f 1 ≠ 1 ∨ f 2 ≠ 0 ∨ f 3 ≠ 1 ∨ f 4 ≠ 5) :
    FW Ee F_master_Master_Wants [.pointer (some ⟨n0 + 4, 0, none⟩), .agg ⟨repC f hh v va vl vc⟩] H fun r H' => r = .bool false ∧ Grow H H' := by
  refine fw_master_Master_Wants ?_
  intro H1 e1
  obtain ⟨g1, p1, n1⟩ := new_job ok e1
  have h1 := h.mod g1 fun _ _ => id
  refine (currentr_ok g1.ok h1).mono ?_
  rintro _ H2 ⟨rfl, g2⟩
  have h2 := h1.mod g2 fun _ _ => id
  have p2 := g2.get _ _ not_false p1
  have g12 := g1.trans g2
  refine ⟨_, rfl, cond_neg rfl (grd_intro rfl (grd_intro rfl ⟨1, cell_of h2.job rfl, _, cell_of p2 rfl, cond_intro (fun _ => ⟨rfl, g12⟩) (fun q0 => ?_)⟩))⟩
  refine grd_intro rfl (grd_intro rfl ⟨1, cell_of h2.job rfl, _, cell_of p2 rfl, cond_intro (fun _ => ⟨rfl, g12⟩) (fun q1 => ?_)⟩)
  refine grd_intro rfl (grd_intro rfl ⟨0, cell_of h2.job rfl, _, cell_of p2 rfl, cond_intro (fun _ => ⟨rfl, g12⟩) (fun q2 => ?_)⟩)
  refine grd_intro rfl (grd_intro rfl ⟨1, cell_of h2.job rfl, _, cell_of p2 rfl, cond_intro (fun _ => ⟨rfl, g12⟩) (fun q3 => ?_)⟩)
  refine grd_intro rfl (grd_intro rfl ⟨aa, al, ac, cell_of h2.job rfl, _, cell_of p2 rfl, (contains_ok (w := f 4) h2.asg (by have := h.alb; omega)).mono ?_⟩)
  rintro _ _ ⟨rfl, rfl⟩
  refine ⟨_, rfl, cond_pos ?_ ⟨rfl, g12⟩⟩
  have q0 : f 0 = 1 := by have := q0; simp at this; omega
  have q1 : f 1 = 1 := by have := q1; simp at this; omega
  have q2 : f 2 = 0 := by have := q2; simp at this; omega
  have q3 : f 3 = 1 := by have := q3; simp at this; omega
  have q4 : f 4 ≠ 5 := by omega
  have : f 4 ∉ List.replicate al (5 : Int) := fun hm => q4 (List.eq_of_mem_replicate hm)
  simp [this]
theorem reportr_ok {f : Nat → Int} {hh : Nat → Bool} {v : Nat → Int} {va : Option Addr} {vl vc : Nat} (ok : Ok H) (h : RM H n0 L jb J a l c pa pl pc aa al ac rb rt) (hf : f 0 ≠ 1 ∨ f 1 ≠ 1 ∨ f 2 ≠ 0 ∨ f 3 ≠ 1 ∨ f 4 ≠ 5) :
    FW Ee F_master_Master_report [.pointer (some ⟨n0 + 4, 0, none⟩), .agg ⟨repC f hh v va vl vc⟩] H fun r H' => r = .tuple ⟨[]⟩ ∧ Grow H H' := by
  refine fw_master_Master_report ?_
  intro H1 e1
  obtain ⟨g1, p1, n1⟩ := new_job ok e1
  refine ⟨_, _, _, _, _, _, _, _, _, _, _, _, _, _, _, _, _, _, _, _, _, _, cell_of p1 rfl, cell_of p1 rfl, cell_of p1 rfl, cell_of p1 rfl, cell_of p1 rfl, cell_of p1 rfl, cell_of p1 rfl, cell_of p1 rfl, cell_of p1 rfl, cell_of p1 rfl, cell_of p1 rfl, cell_of p1 rfl, cell_of p1 rfl, cell_of p1 rfl, cell_of p1 rfl, cell_of p1 rfl, cell_of p1 rfl, cell_of p1 rfl, cell_of p1 rfl, cell_of p1 rfl, (wantsr_ok (f := f) (hh := hh) (v := v) (va := va) (vl := vl) (vc := vc) g1.ok (h.mod g1 fun _ _ => id) hf).mono ?_⟩
  rintro _ H2 ⟨rfl, g2⟩
  exact ⟨_, rfl, cond_pos rfl ⟨rfl, g1.trans g2⟩⟩
end
end Go.Proofs.Cx

namespace Go.Proofs.Cx
open Go Go.Ev
theorem restore {H : AH} {b : Nat} {zs vs : List Value} (p : H.get b = some (.cells zs 0)) (hl : vs.length = zs.length) (hv : vs.all oneCell = true) (ok : Ok H) :
    ∃ H2, storeCellsv H b 0 vs = some H2 ∧ H2.get b = some (.cells vs 0) ∧ Mod (· = b) H H2 ∧ H2.next = H.next := by
  refine ⟨_, store_of p (by omega) hv, ?_, Mod.set ok p _, rfl⟩
  rw [get_set_self]; simp [lset, hl]
section
variable {H : AH} {n0 L jb : Nat} {J : JobW} {a : Option Addr} {l c : Nat} {pa : Option Addr} {pl pc : Nat} {aa : Option Addr} {al ac rb : Nat} {rt : List UInt8}
theorem taskr0_ok {w : Int} (hw : w ≠ 5) (ok : Ok H) (h : RM H n0 L jb J a l c pa pl pc aa al ac rb rt) : FW Ee F_master_Master_Task [.pointer (some ⟨n0 + 4, 0, none⟩), .int .i64 w] H fun r H' => r = .tuple ⟨[.agg ⟨zTask⟩, .bool false]⟩ ∧ Grow H H' := by
  refine fw_master_Master_Task ?_
  intro H1 e1
  obtain ⟨g1, p1, n1⟩ := new_job ok e1
  refine (currentr_ok g1.ok (h.mod g1 fun _ _ => id)).mono ?_
  rintro _ H2 ⟨rfl, g2⟩
  have h2 := (h.mod g1 fun _ _ => id).mod g2 fun _ _ => id
  have p2 := g2.get _ _ not_false p1
  refine ⟨_, rfl, cond_neg rfl (grd_intro rfl (grd_intro rfl ⟨aa, al, ac, cell_of h2.job rfl, (contains_ok (w := w) h2.asg (by have := h.alb; omega)).mono ?_⟩))⟩
  rintro _ _ ⟨rfl, rfl⟩
  have : w ∉ List.replicate al (5 : Int) := fun hm => hw (List.eq_of_mem_replicate hm)
  refine ⟨_, rfl, cond_pos (by simp [this]) ?_⟩
  obtain ⟨H4, e4, b4, m4, n4⟩ := restore (vs := zTask) p2 rfl rfl (g1.trans g2).ok
  refine ⟨H4, e4, _, _, _, _, _, _, _, _, _, _, _, _, _, _, _, _, _, _, _, _, _, _, _, _, _, _, _, _, _, _, _, _, _, _, cell_of b4 rfl, cell_of b4 rfl, cell_of b4 rfl, cell_of b4 rfl, cell_of b4 rfl, cell_of b4 rfl, cell_of b4 rfl, cell_of b4 rfl, cell_of b4 rfl, cell_of b4 rfl, cell_of b4 rfl, cell_of b4 rfl, cell_of b4 rfl, cell_of b4 rfl, cell_of b4 rfl, cell_of b4 rfl, cell_of b4 rfl, cell_of b4 rfl, cell_of b4 rfl, cell_of b4 rfl, cell_of b4 rfl, cell_of b4 rfl, cell_of b4 rfl, cell_of b4 rfl, cell_of b4 rfl, cell_of b4 rfl, rfl, ?_⟩
  exact Mod.then (g1.trans g2) m4 ok (fun b hb => by omega)
abbrev taskV (J : JobW) (p0 : Option Addr) (p1 p2 : Nat) (q0 : Option Addr) (q1 q2 : Nat) (g0 : Option Addr) (g1 g2 : Nat) (m0 : Option Addr) (m1 m2 : Nat) (k : Bool) : List Value :=
  [.int .i64 1, .int .i64 1, .int .i64 0, .int .i64 1, .slice p0 p1 p2, .slice q0 q1 q2, .string ⟨⟨J.prog⟩⟩, .slice g0 g1 g2, .slice m0 m1 m2, .int .i64 J.steps, .int .i64 J.sent, .int .i64 J.parts, .bool false, .bool false, .bool false, .bool false, .bool false, .int .i64 0, .int .i64 0, .int .i64 0, .int .i64 0, .int .i64 0, .int .i64 0, .int .i64 0, .int .i64 0, .bool k]
theorem taskr1_ok (ok : Ok H) (h : RM H n0 L jb J a l c pa pl pc aa al ac rb rt) : FW Ee F_master_Master_Task [.pointer (some ⟨n0 + 4, 0, none⟩), .int .i64 5] H fun r H' => (∃ p0 p1 p2 q0 q1 q2 g0 g1 g2 m0 m1 m2 k, r = .tuple ⟨[.agg ⟨taskV J p0 p1 p2 q0 q1 q2 g0 g1 g2 m0 m1 m2 k⟩, .bool true]⟩) ∧ Grow H H' := by
  refine fw_master_Master_Task ?_
  intro H1 e1
  obtain ⟨g1, p1, n1⟩ := new_job ok e1
  refine (currentr_ok g1.ok (h.mod g1 fun _ _ => id)).mono ?_
  rintro _ H2 ⟨rfl, g2⟩
  have h2 := (h.mod g1 fun _ _ => id).mod g2 fun _ _ => id
  have p2 := g2.get _ _ not_false p1
  refine ⟨_, rfl, cond_neg rfl (grd_intro rfl (grd_intro rfl ⟨aa, al, ac, cell_of h2.job rfl, (contains_ok (w := 5) h2.asg (by have := h.alb; omega)).mono ?_⟩))⟩
  rintro _ _ ⟨rfl, rfl⟩
  have hm : (5 : Int) ∈ List.replicate al (5 : Int) := List.mem_replicate.2 ⟨by have := h.alb; omega, rfl⟩
  refine ⟨_, rfl, cond_neg (by simp [hm]) (grd_intro rfl (grd_intro rfl ⟨some rb, cell_of h2.job rfl, 0, 0, 0, 0, 0, 0, 0, 0, 0, false, false, false, false, false, 0, 0, 0, 0, 0, none, 0, 0, false, by rw [look_ir, lookX_nil h2.r]; rfl, fun H6 e6 => ?_⟩))⟩
  obtain ⟨H7, e7, _, g7, n7⟩ := fresh_store (vs := repC (fun _ => 0) (fun _ => false) (fun _ => 0) none 0 0) e6 rfl rfl g2.ok
  have h7 := h2.mod g7 fun _ _ => id
  refine ⟨H7, e7, cond_neg rfl (grd_intro rfl (grd_intro rfl ⟨1, cell_of h7.job rfl, grd_intro rfl (grd_intro rfl ⟨1, cell_of h7.job rfl, grd_intro rfl (grd_intro rfl ⟨0, cell_of h7.job rfl, grd_intro rfl (grd_intro rfl ⟨1, cell_of h7.job rfl, grd_intro rfl (grd_intro rfl ⟨aa, al, ac, cell_of h7.job rfl, (parts_ok g7.ok h7.asg (by have := h.alb; simp; omega)).mono ?_⟩)⟩)⟩)⟩)⟩))⟩
  rintro _ H9 ⟨⟨p0, p1', p2', rfl⟩, g9⟩
  have h9 := h7.mod g9 fun _ _ => id
  refine ⟨p0, p1', p2', rfl, grd_intro rfl (grd_intro rfl ⟨aa, al, ac, cell_of h9.job rfl, (cloneI_ok g9.ok h9.asg (by have := h.alb; omega)).mono ?_⟩)⟩
  rintro _ H10 ⟨⟨q0, q1, q2, rfl⟩, g10⟩
  have h10 := h9.mod g10 fun _ _ => id
  refine ⟨q0, q1, q2, rfl, grd_intro rfl (grd_intro rfl ⟨_, _, _, _, _, _, _, _, _, _, cell_of h10.job rfl, cell_of h10.job rfl, cell_of h10.job rfl, cell_of h10.job rfl, cell_of h10.job rfl, cell_of h10.job rfl, (mclone_ok g10.ok h10.g (by have := h.ji.graph.len; have := h.g.len; omega) (fun v hv => by have := (h.ji.graph.each v hv).len; omega) h10.p (by have := h.ji.params; have := h.p.len; omega)).mono ?_⟩)⟩
  rintro _ H11 ⟨⟨b0, b1, b2, m0, m1, m2, rfl⟩, g11⟩
  have h11 := h10.mod g11 fun _ _ => id
  refine ⟨_, b0, b1, b2, m0, m1, m2, _, _, _, rfl, grd_intro rfl (grd_intro rfl ⟨_, _, _, _, _, _, _, _, _, _, cell_of h11.job rfl, cell_of h11.job rfl, cell_of h11.job rfl, cell_of h11.job rfl, cell_of h11.job rfl, cell_of h11.job rfl, cell_of h11.job rfl, cell_of h11.job rfl, cell_of h11.job rfl, cell_of h11.job rfl, grd_intro rfl (grd_intro rfl ⟨0, cell_of h11.job rfl, grd_intro rfl (grd_intro rfl ⟨0, cell_of h11.job rfl, grd_intro rfl (grd_intro rfl ⟨0, cell_of h11.job rfl, grd_intro rfl (grd_intro rfl ⟨0, cell_of h11.job rfl, ?_⟩)⟩)⟩)⟩)⟩)⟩
  rintro _ rfl
  refine ⟨by decide, ?_⟩
  rintro _ rfl
  have gA := ((((g1.trans g2).trans g7).trans g9).trans g10).trans g11
  have p11 := g11.get _ _ not_false (g10.get _ _ not_false (g9.get _ _ not_false (g7.get _ _ not_false p2)))
  obtain ⟨H12, e12, b4, m12, n12⟩ := restore (vs := taskV J p0 p1' p2' q0 q1 q2 b0 b1 b2 m0 m1 m2 ((IntKind.i64.wrap (0 + 1)).tmod 4 == 0)) p11 rfl rfl gA.ok
  refine ⟨H12, e12, cell_of h10.job rfl, cell_of h9.job rfl, cell_of h7.job rfl, cell_of h10.job rfl, cell_of h9.job rfl, cell_of h7.job rfl, cell_of h10.job rfl, cell_of h9.job rfl, cell_of h7.job rfl, cell_of h10.job rfl, cell_of h9.job rfl, cell_of h7.job rfl, cell_of h10.job rfl, cell_of h10.job rfl, cell_of h10.job rfl, cell_of h10.job rfl, cell_of h10.job rfl, cell_of h10.job rfl, cell_of h10.job rfl, cell_of h10.job rfl, cell_of h10.job rfl, cell_of h10.job rfl, cell_of h9.job rfl, cell_of h9.job rfl, cell_of h9.job rfl, cell_of h9.job rfl, cell_of h9.job rfl, cell_of h9.job rfl, cell_of h9.job rfl, cell_of h9.job rfl, cell_of h9.job rfl, cell_of h9.job rfl, cell_of h7.job rfl, cell_of h7.job rfl, cell_of h7.job rfl, cell_of h7.job rfl, cell_of h7.job rfl, cell_of h7.job rfl, cell_of h7.job rfl, cell_of h7.job rfl, cell_of h7.job rfl, cell_of h7.job rfl, cell_of h9.job rfl, cell_of h9.job rfl, cell_of h9.job rfl, cell_of h9.job rfl, cell_of h9.job rfl, cell_of h9.job rfl, cell_of h7.job rfl, cell_of h7.job rfl, cell_of h7.job rfl, cell_of h7.job rfl, cell_of h7.job rfl, cell_of h7.job rfl, cell_of h7.job rfl, cell_of h11.job rfl, cell_of h10.job rfl, cell_of h9.job rfl, cell_of h11.job rfl, cell_of h10.job rfl, cell_of h9.job rfl, cell_of h11.job rfl, cell_of h10.job rfl, cell_of h9.job rfl, cell_of h11.job rfl, cell_of h10.job rfl, cell_of h9.job rfl, _, _, _, _, _, _, _, _, _, _, _, _, _, _, _, _, _, _, _, _, _, _, _, _, _, _, _, _, _, _, _, _, _, _, cell_of b4 rfl, cell_of b4 rfl, cell_of b4 rfl, cell_of b4 rfl, cell_of b4 rfl, cell_of b4 rfl, cell_of b4 rfl, cell_of b4 rfl, cell_of b4 rfl, cell_of b4 rfl, cell_of b4 rfl, cell_of b4 rfl, cell_of b4 rfl, cell_of b4 rfl, cell_of b4 rfl, cell_of b4 rfl, cell_of b4 rfl, cell_of b4 rfl, cell_of b4 rfl, cell_of b4 rfl, cell_of b4 rfl, cell_of b4 rfl, cell_of b4 rfl, cell_of b4 rfl, cell_of b4 rfl, cell_of b4 rfl, ⟨p0, p1', p2', q0, q1, q2, b0, b1, b2, m0, m1, m2, _, rfl⟩, Mod.then gA m12 ok (fun b hb => by omega)⟩
end
end Go.Proofs.Cx

namespace Go.Ev
open Go
/-- the cells of a job on its way -/
def jobGC (J : JobW) (a : Option Addr) (l c : Nat) (pa : Option Addr) (pl pc : Nat) (st ep ph : Int) (asg mm : Value) : List Value :=
  [.int .i64 1, .string ⟨⟨J.prog⟩⟩, .slice a l c, .slice pa pl pc, .int .i64 J.steps, .int .i64 J.sent, .int .i64 J.parts, .int .i64 st, .int .i64 0, .int .i64 0, .int .i64 0, .slice none 0 0, .int .i64 ep, .int .i64 0, .int .i64 ph, asg, mm,
    .bool false, .bool false, .bool false, .bool false, .bool false, .int .i64 0, .int .i64 0, .int .i64 0, .int .i64 0, .int .i64 0, .int .i64 0,
    .bool false, .bool false, .bool false, .bool false, .bool false, .int .i64 0, .int .i64 0, .int .i64 0, .int .i64 0, .int .i64 0, .int .i64 0, .int .i64 0,
    .bool false, .bool false, .bool false, .bool false, .bool false, .int .i64 0, .int .i64 0, .int .i64 0, .int .i64 0, .int .i64 0]
/-- the job that waits -/
abbrev jobQC (J : JobW) (a : Option Addr) (l c : Nat) (pa : Option Addr) (pl pc : Nat) : List Value := jobGC J a l c pa pl pc 1 0 0 (.slice none 0 0) (.map none)
end Go.Ev
namespace Go.Proofs.Cx
open Go Go.Ev
section
variable {H : AH} {n0 jb : Nat} {J : JobW} {a : Option Addr} {l c : Nat} {pa : Option Addr} {pl pc : Nat}
theorem assign_eq {args : List Value} {H : AH} : (evalN Ee 1).call F_plan_Assign args H = assignW args H := by kernel_rfl
theorem assign_ok {p : Int} {b : Nat} (ok : Ok H) (h1 : 1 ≤ p) (h2 : p ≤ 16) (hb : H.get b = some (.cells [.int .i64 5] 1)) :
    FW Ee F_plan_Assign [.int .i64 p, .slice (some ⟨b, 0, none⟩) 1 3] H fun r H' => r = .slice (some ⟨H.next, 0, none⟩) p.toNat (2 * p.toNat + 1) ∧ H'.get H.next = some (.cells (List.replicate p.toNat (.int .i64 5)) 1) ∧ Grow H H' ∧ H'.next = H.next + 1 := by
  refine ⟨1, .slice (some ⟨H.next, 0, none⟩) p.toNat (2 * p.toNat + 1), H.new (.cells (List.replicate p.toNat (.int .i64 5)) 1), ?_, rfl, get_new_self _ _, Grow.new ok _, rfl⟩
  rw [assign_eq]
  unfold assignW
  simp only [hb, h1, h2, decide_true, Bool.and_self, cond_true]
theorem sorted1_ok {B m g : Nat} {val : Int → Value} (ok : Ok H) (hg : g ∈ [F_maps_Keys_map_int_int_int_int_1, F_maps_Keys_map_int_P_master_job_int_P_master_job_1, F_maps_Keys_map_int_api_Report_int_api_Report_1])
    (hB : H.get B = some (.cells [.map (some m)] 0)) (hm : MapV H m [5] val) :
    FW Ee F_slices_Sorted_int [.func (.func g) ⟨[]⟩ ⟨[.pointer (some ⟨B, 0, none⟩)]⟩] H fun r H' => r = .slice (some ⟨H.next, 0, none⟩) 1 3 ∧ H'.get H.next = some (.cells [.int .i64 5] 1) ∧ Grow H H' ∧ H'.next = H.next + 1 := by
  obtain ⟨es, clock, h1, h2, _⟩ := hm
  have hc : List.contains [F_maps_Keys_map_int_int_int_int_1, F_maps_Keys_map_int_P_master_job_int_P_master_job_1, F_maps_Keys_map_int_api_Report_int_api_Report_1] g = true := List.contains_iff_mem.2 hg
  have e5 : sortI [5] = [5] := by simp [sortI]
  refine ⟨1, .slice (some ⟨H.next, 0, none⟩) 1 3, H.new (.cells [.int .i64 5] 1), ?_, rfl, get_new_self _ _, Grow.new ok _, rfl⟩
  rw [sorted_eq]
  simp only [keysW, hc, cond_true, hB, h1, h2.keys, if_pos h2, if_neg (List.cons_ne_nil (5 : Int) [])]
  rw [e5]
  rfl
theorem workers1_ok {mb jm wm : Nat} {sp : Option Addr} {la ep : Int} {val : Int → Value} (ok : Ok H) (h : H.get mb = some (.cells [.pointer sp, .map (some jm), .map (some wm), .int .i64 la, .int .i64 ep] 0)) (hw : MapV H wm [5] val) :
    FW Ee F_master_Master_Workers [.pointer (some ⟨mb, 0, none⟩)] H fun r H' => ∃ b, H.next ≤ b ∧ r = .slice (some ⟨b, 0, none⟩) 1 3 ∧ H'.get b = some (.cells [.int .i64 5] 1) ∧ Grow H H' := by
  refine fw_master_Master_Workers ?_
  refine ⟨_, cell_of h rfl, (keys_ok ok).mono ?_⟩
  rintro _ H1 ⟨rfl, b1, g1⟩
  refine ⟨_, rfl, (sorted1_ok g1.ok (by simp) b1 (hw.mod g1 id)).mono ?_⟩
  rintro _ H2 ⟨rfl, b2, g2, _⟩
  exact ⟨_, _, _, rfl, _, g1.next, rfl, b2, g1.trans g2⟩
theorem put_ok {H : AH} {b o : Nat} {cs vs cs' : List Value} (h : H.get b = some (.cells cs 0)) (e : lset cs o vs = cs') (hl : o + vs.length ≤ cs.length) (hv : vs.all oneCell = true) (ok : Ok H) :
    ∃ H', storeCellsv H b o vs = some H' ∧ H'.get b = some (.cells cs' 0) ∧ Mod (· = b) H H' ∧ H'.next = H.next := ⟨_, store_of h hl hv, by rw [get_set_self, e], Mod.set ok h _, rfl⟩
theorem beginq_ok {mb jm wm : Nat} {sp : Option Addr} {val : Int → Value} (ok : Ok H) (m : H.get mb = some (.cells [.pointer sp, .map (some jm), .map (some wm), .int .i64 1, .int .i64 0] 0)) (hw : MapV H wm [5] val)
    (job : H.get jb = some (.cells (jobQC J a l c pa pl pc) 0)) (h1 : 1 ≤ J.parts) (h2 : J.parts ≤ 16) (d1 : mb ≠ jb) (d2 : wm ≠ mb) (d3 : wm ≠ jb) :
    FW Ee F_master_Master_begin [.pointer (some ⟨mb, 0, none⟩), .pointer (some ⟨jb, 0, none⟩)] H fun r H' => r = .tuple ⟨[]⟩ ∧ (∃ ab rb, H.next ≤ ab ∧ H.next ≤ rb ∧ H'.get mb = some (.cells [.pointer sp, .map (some jm), .map (some wm), .int .i64 1, .int .i64 1] 0) ∧
      H'.get jb = some (.cells (jobRC J a l c pa pl pc (some ⟨ab, 0, none⟩) J.parts.toNat (2 * J.parts.toNat + 1) rb) 0) ∧ H'.get ab = some (.cells (List.replicate J.parts.toNat (.int .i64 5)) 1) ∧ H'.get rb = some (.map [] 0)) ∧ Mod (fun x => x = mb ∨ x = jb) H H' := by
  have hmlt := ok.lt m
  have hjlt := ok.lt job
  refine fw_master_Master_begin ?_
  refine ⟨0, cell_of m rfl, ?_⟩
  intro t8 e8
  have e8 : t8 = 1 := e8
  subst e8
  obtain ⟨H1, s1, m1, k1, n1⟩ := put_ok (o := 4) (vs := [.int .i64 1]) (cs' := [.pointer sp, .map (some jm), .map (some wm), .int .i64 1, .int .i64 1]) m rfl (by simp) rfl ok
  have j1 := k1.get _ _ (Ne.symm d1) job
  refine ⟨H1, s1, 1, cell_of m1 rfl, grd_intro rfl (grd_intro rfl ?_)⟩
  obtain ⟨H2, s2, j2, k2, n2⟩ := put_ok (o := 7) (vs := [.int .i64 2]) (cs' := jobGC J a l c pa pl pc 2 0 0 (.slice none 0 0) (.map none)) j1 rfl (by simp [jobGC]) rfl k1.ok
  refine ⟨H2, s2, grd_intro rfl (grd_intro rfl ?_)⟩
  obtain ⟨H3, s3, j3, k3, n3⟩ := put_ok (o := 12) (vs := [.int .i64 1]) (cs' := jobGC J a l c pa pl pc 2 1 0 (.slice none 0 0) (.map none)) j2 rfl (by simp [jobGC]) rfl k2.ok
  refine ⟨H3, s3, grd_intro rfl (grd_intro rfl ?_)⟩
  obtain ⟨H4, s4, j4, k4, n4⟩ := put_ok (o := 14) (vs := [.int .i64 1]) (cs' := jobGC J a l c pa pl pc 2 1 1 (.slice none 0 0) (.map none)) j3 rfl (by simp [jobGC]) rfl k3.ok
  refine ⟨H4, s4, grd_intro rfl (grd_intro rfl ⟨0, cell_of j4 rfl, grd_intro rfl (grd_intro rfl ⟨false, false, false, false, false, 0, 0, 0, 0, 0, cell_of j4 rfl, cell_of j4 rfl, cell_of j4 rfl, cell_of j4 rfl, cell_of j4 rfl, cell_of j4 rfl, cell_of j4 rfl, cell_of j4 rfl, cell_of j4 rfl, cell_of j4 rfl, grd_intro rfl (grd_intro rfl ?_)⟩)⟩)⟩
  obtain ⟨H5, s5, j5, k5, n5⟩ := put_ok (o := 13) (vs := [.int .i64 0]) (cs' := jobGC J a l c pa pl pc 2 1 1 (.slice none 0 0) (.map none)) j4 rfl (by simp [jobGC]) rfl k4.ok
  refine ⟨H5, s5, grd_intro rfl (grd_intro rfl ?_)⟩
  obtain ⟨H6, s6, j6, k6, n6⟩ := put_ok (o := 17) (vs := [.bool false, .bool false, .bool false, .bool false, .bool false, .int .i64 0, .int .i64 0, .int .i64 0, .int .i64 0, .int .i64 0]) (cs' := jobGC J a l c pa pl pc 2 1 1 (.slice none 0 0) (.map none)) j5 rfl (by simp [jobGC]) rfl k5.ok
  have kj := (((k2.trans k3).trans k4).trans k5).trans k6
  have m6 := kj.get _ _ d1 m1
  have w6 := (hw.mod k1 d2).mod kj d3
  refine ⟨H6, s6, grd_intro rfl (grd_intro rfl ⟨J.parts, cell_of j6 rfl, (workers1_ok k6.ok m6 w6).mono ?_⟩)⟩
  rintro _ H7 ⟨b, hb, rfl, b7, g7⟩
  refine ⟨_, _, _, rfl, (assign_ok g7.ok h1 h2 b7).mono ?_⟩
  rintro _ H8 ⟨rfl, a8, g8, n8⟩
  have j8 := g8.get _ _ id (g7.get _ _ id j6)
  have n7 := g7.next
  obtain ⟨H9, s9, j9, k9, n9⟩ := put_ok (o := 15) (vs := [.slice (some ⟨H7.next, 0, none⟩) J.parts.toNat (2 * J.parts.toNat + 1)]) (cs' := jobGC J a l c pa pl pc 2 1 1 (.slice (some ⟨H7.next, 0, none⟩) J.parts.toNat (2 * J.parts.toNat + 1)) (.map none)) j8 rfl (by simp [jobGC]) rfl g8.ok
  refine ⟨_, _, _, rfl, grd_intro rfl (grd_intro rfl ⟨H9, s9, cell_of (g7.get _ _ id j6) rfl, ?_⟩)⟩
  intro H10 e10
  have g10 : Grow H9 H10 := e10 ▸ Grow.new k9.ok _
  have r10 : H10.get H9.next = some (.map [] 0) := e10 ▸ get_new_self _ _
  obtain ⟨H11, s11, j11, k11, n11⟩ := put_ok (o := 16) (vs := [.map (some H9.next)]) (cs' := jobGC J a l c pa pl pc 2 1 1 (.slice (some ⟨H7.next, 0, none⟩) J.parts.toNat (2 * J.parts.toNat + 1)) (.map (some H9.next))) (g10.get _ _ id j9) rfl (by simp [jobGC]) rfl g10.ok
  refine grd_intro rfl (grd_intro rfl ⟨H11, s11, rfl, ⟨H7.next, H9.next, by omega, by omega, ?_, j11, ?_, ?_⟩, ?_⟩)
  · exact k11.get _ _ d1 (g10.get _ _ id (k9.get _ _ d1 (g8.get _ _ id (g7.get _ _ id m6))))
  · exact k11.get _ _ (by omega) (g10.get _ _ id (k9.get _ _ (by omega) a8))
  · exact k11.get _ _ (by omega) r10
  · have A : Mod (fun x => x = mb ∨ x = jb) H H1 := k1.le (fun _ e _ => .inl e) ok
    have B : ∀ {Hx Hy : AH}, Ok Hx → Mod (· = jb) Hx Hy → Mod (fun x => x = mb ∨ x = jb) Hx Hy := fun o k => k.le (fun _ e _ => .inr e) o
    exact ((((A.trans (B k1.ok kj)).add g7).add g8).trans (B g8.ok k9)).add g10 |>.trans (B g10.ok k11)
end
end Go.Proofs.Cx

namespace Go.Proofs.Cx
open Go Go.Ev
section
variable {H : AH} {n0 jb : Nat} {J : JobW} {a : Option Addr} {l c : Nat} {pa : Option Addr} {pl pc : Nat}
theorem startq_ok (ok : Ok H) (m : H.get (n0 + 4) = some (.cells [.pointer (some ⟨n0 + 1, 0, none⟩), .map (some (n0 + 2)), .map (some (n0 + 3)), .int .i64 1, .int .i64 0] 0)) (hw : MapV H (n0 + 3) [5] fun _ => .int .i64 1)
    (hj : MapV H (n0 + 2) [1] fun _ => .pointer (some ⟨jb, 0, none⟩)) (job : H.get jb = some (.cells (jobQC J a l c pa pl pc) 0)) (h1 : 1 ≤ J.parts) (h2 : J.parts ≤ 16) (d : n0 + 4 < jb) :
    FW Ee F_master_Master_start [.pointer (some ⟨n0 + 4, 0, none⟩)] H fun r H' => r = .tuple ⟨[]⟩ ∧ (∃ ab rb, H.next ≤ ab ∧ H.next ≤ rb ∧ H'.get (n0 + 4) = some (.cells [.pointer (some ⟨n0 + 1, 0, none⟩), .map (some (n0 + 2)), .map (some (n0 + 3)), .int .i64 1, .int .i64 1] 0) ∧
      H'.get jb = some (.cells (jobRC J a l c pa pl pc (some ⟨ab, 0, none⟩) J.parts.toNat (2 * J.parts.toNat + 1) rb) 0) ∧ H'.get ab = some (.cells (List.replicate J.parts.toNat (.int .i64 5)) 1) ∧ H'.get rb = some (.map [] 0)) ∧ Mod (fun x => x = n0 + 4 ∨ x = jb) H H' := by
  have e1 : sortI [1] = [1] := by simp [sortI]
  have lk : ∀ {Hx : AH}, Grow H Hx → lookupv Ee Hx T_M_int_P_master_job (.map (some (n0 + 2))) (.int .i64 1) false = some (.pointer (some ⟨jb, 0, none⟩)) := by
    intro Hx g
    rw [look_ij, (hj.mod g id).look (fun _ _ => eqv_I)]
    simp
  refine fw_master_Master_start ?_
  obtain ⟨es, cl, hes, hents, _⟩ := hw
  have hlen : es.length = 1 := mkeys_len hents.keys
  have hw : MapV H (n0 + 3) [5] fun _ => .int .i64 1 := ⟨es, cl, hes, hents, by assumption⟩
  refine ⟨_, cell_of m rfl, .inr ⟨_, _, _, rfl, hes, cond_neg (by rw [hlen]; rfl) ?_⟩⟩
  refine FW.mono (Q := fun r H' => r = .pointer none ∧ Grow H H') ?_ ?_
  · refine fw_master_Master_current ?_
    refine (idsn_ok ok m hj).mono ?_
    rintro _ H1 ⟨a1, c1, rfl, hS, g1⟩
    rw [e1] at hS
    refine ⟨_, _, _, rfl, fun n _ t Hx => (t = 0 ∧ n = 1 ∨ t = 1 ∧ n = 0) ∧ Hx = H1, ⟨1, .inl ⟨rfl, rfl⟩, rfl⟩, ?_⟩
    rintro n t2 t8 H2 ⟨(⟨rfl, rfl⟩ | ⟨rfl, rfl⟩), rfl⟩
    · obtain ⟨hs, hx⟩ := hS.nth (k := 0) (by simp)
      refine cond_pos (by simp) (grd_intro hs ⟨by omega, by simp, 1, hx, _, cell_of (g1.get _ _ id m) rfl, _, lk g1, grd_intro rfl (grd_intro rfl ⟨1, cell_of (g1.get _ _ id job) rfl, cond_neg rfl ?_⟩)⟩)
      intro t28 e28
      have e28 : t28 = 1 := e28
      subst e28
      exact ⟨0, by omega, .inr ⟨rfl, rfl⟩, rfl⟩
    · exact cond_neg (by simp) ⟨rfl, g1⟩
  rintro _ H6 ⟨rfl, g6⟩
  refine ⟨none, rfl, cond_neg rfl ((idsn_ok g6.ok (g6.get _ _ id m) (hj.mod g6 id)).mono ?_)⟩
  rintro _ H8 ⟨a1, c1, rfl, hS, g8⟩
  rw [e1] at hS
  have g := g6.trans g8
  refine ⟨_, _, _, rfl, fun _ t Hx => t = 0 ∧ Hx = H8, ⟨0, rfl, rfl⟩, ?_⟩
  rintro n t H9 ⟨rfl, rfl⟩
  obtain ⟨hs, hx⟩ := hS.nth (k := 0) (by simp)
  refine cond_pos (by simp) (grd_intro hs ⟨by omega, by simp, 1, hx, _, cell_of (g.get _ _ id m) rfl, _, lk g, grd_intro rfl (grd_intro rfl ⟨1, cell_of (g.get _ _ id job) rfl, cond_pos rfl ⟨_, cell_of (g.get _ _ id m) rfl, _, lk g, ?_⟩⟩)⟩)
  refine (beginq_ok g.ok (g.get _ _ id m) (hw.mod g id) (g.get _ _ id job) h1 h2 (by omega) (by omega) (by omega)).mono ?_
  rintro _ H10 ⟨rfl, ⟨ab, rb, q1, q2, q3, q4, q5, q6⟩, k⟩
  have := g.next
  exact ⟨rfl, rfl, ⟨ab, rb, by omega, by omega, q3, q4, q5, q6⟩, (g.le (fun _ hf _ => hf.elim) ok).trans k⟩
end
end Go.Proofs.Cx

namespace Go.Ev
open Go
/-- a master with one worker and no job -/
structure WM (H : AH) (n0 : Nat) : Prop where
  t : H.get n0 = some (.map [] 0)
  s : H.get (n0 + 1) = some (.cells [.map (some n0)] 0)
  j : H.get (n0 + 2) = some (.map [] 0)
  w : MapV H (n0 + 3) [5] fun _ => .int .i64 1
  m : H.get (n0 + 4) = some (.cells [.pointer (some ⟨n0 + 1, 0, none⟩), .map (some (n0 + 2)), .map (some (n0 + 3)), .int .i64 0, .int .i64 0] 0)
theorem WM.grow {H H' : AH} {n0 : Nat} (h : WM H n0) (g : Grow H H') : WM H' n0 := ⟨g.get _ _ id h.t, g.get _ _ id h.s, g.get _ _ id h.j, h.w.mod g id, g.get _ _ id h.m⟩
end Go.Ev
namespace Go.Proofs.Cx
open Go Go.Ev
section
variable {H : AH} {n0 jb : Nat} {J : JobW} {a : Option Addr} {l c : Nat} {pa : Option Addr} {pl pc : Nat}
theorem joinq_ok (ok : Ok H) (h : FM H n0) : FW Ee F_master_Master_join [.pointer (some ⟨n0 + 4, 0, none⟩), .int .i64 5, .int .i64 1] H fun r H' => r = .tuple ⟨[]⟩ ∧ WM H' n0 ∧ Mod (· = n0 + 3) H H' := by
  refine fw_master_Master_join ?_
  refine ⟨_, cell_of h.m rfl, _, _, by rw [look_ii, lookX_nil h.w]; rfl, cond_neg rfl ?_⟩
  refine cond_neg rfl (cond_neg rfl (cond_neg rfl ?_))
  obtain ⟨zs', H4, u1, u2, u3, u4, d4, n4⟩ := (MapV.empty (val := fun _ => .bool true) h.w).put (kt := T_int) (fun _ _ => eqv_I) ok (c := 5) (by unfold I64; omega) (by simp) (.int .i64 1)
  have hz : zs' = [5] := by
    rcases u4 with e | e
    · have := (u3 5).2 (.inr rfl)
      rw [e] at this
      cases this
    · simpa using e
  subst hz
  refine ⟨_, cell_of h.m rfl, H4, by rw [upd_ii]; exact u1, ?_⟩
  have t4 := d4.get _ _ (by omega) h.t
  have s4 := d4.get _ _ (by omega) h.s
  have j4 := d4.get _ _ (by omega) h.j
  have m4 := d4.get _ _ (by omega) h.m
  have w4 : MapV H4 (n0 + 3) [5] fun _ => .int .i64 1 := u2.congr fun x hx => by simp at hx; simp [hx]
  obtain ⟨es, cl, hes, _⟩ := id w4
  refine (startn_ok d4.ok m4 j4 hes).mono ?_
  rintro _ H5 ⟨rfl, g5⟩
  exact ⟨rfl, rfl, WM.grow ⟨t4, s4, j4, w4, m4⟩ g5, d4.add g5⟩
end
end Go.Proofs.Cx

namespace Go.Ev
open Go
/-- a master whose one job runs; no word of its sessions -/
structure QJ (H : AH) (n0 L jb : Nat) (J : JobW) (a : Option Addr) (l c : Nat) (pa : Option Addr) (pl pc : Nat) (aa : Option Addr) (al ac rb : Nat) : Prop where
  lo : L ≤ jb ∧ L ≤ rb ∧ n0 + 4 < L
  m : H.get (n0 + 4) = some (.cells [.pointer (some ⟨n0 + 1, 0, none⟩), .map (some (n0 + 2)), .map (some (n0 + 3)), .int .i64 1, .int .i64 1] 0)
  s : H.get (n0 + 1) = some (.cells [.map (some n0)] 0)
  j : MapV H (n0 + 2) [1] fun _ => .pointer (some ⟨jb, 0, none⟩)
  w : MapV H (n0 + 3) [5] fun _ => .int .i64 1
  job : H.get jb = some (.cells (jobRC J a l c pa pl pc aa al ac rb) 0)
  r : H.get rb = some (.map [] 0)
  asg : SlI (L ≤ ·) H aa al (List.replicate al 5)
  alb : 1 ≤ al ∧ al ≤ 16
  g : SlV (L ≤ ·) H a l J.graph
  p : SlI (L ≤ ·) H pa pl J.params
  ji : JobI J
  ok : jchk J = 0
theorem QJ.mod {S : Nat → Prop} {H H' : AH} {n0 L jb : Nat} {J : JobW} {a : Option Addr} {l c : Nat} {pa : Option Addr} {pl pc : Nat} {aa : Option Addr} {al ac rb : Nat} (h : QJ H n0 L jb J a l c pa pl pc aa al ac rb) (k : Mod S H H')
    (hs : ∀ x, n0 + 1 ≤ x ∧ x ≤ n0 + 4 ∨ L ≤ x → ¬ S x) : QJ H' n0 L jb J a l c pa pl pc aa al ac rb := by
  obtain ⟨lo, m, s, j, w, job, r, asg, alb, g, p, ji, okj⟩ := h
  exact ⟨lo, k.get _ _ (hs _ (by omega)) m, k.get _ _ (hs _ (by omega)) s, j.mod k (hs _ (by omega)), w.mod k (hs _ (by omega)), k.get _ _ (hs _ (by omega)) job, k.get _ _ (hs _ (by omega)) r, asg.mod loc_int k fun x hx => hs x (by omega), alb, g.mod loc_vtx k fun x hx => hs x (by omega), p.mod loc_int k fun x hx => hs x (by omega), ji, okj⟩
end Go.Ev
namespace Go.Proofs.Cx
open Go Go.Ev
theorem qj_rm {H : AH} {n0 L jb : Nat} {J : JobW} {a : Option Addr} {l c : Nat} {pa : Option Addr} {pl pc : Nat} {aa : Option Addr} {al ac rb : Nat} {rt : List UInt8} (_ : Ok H) (h : QJ H n0 L jb J a l c pa pl pc aa al ac rb)
    (t : MapV H n0 [1] fun _ => .agg ⟨[.int .i64 1, .string ⟨⟨rt⟩⟩]⟩) : RM H n0 L jb J a l c pa pl pc aa al ac rb rt :=
  ⟨h.lo, h.m, h.s, t, h.j, h.w, h.job, h.r, h.asg, h.alb, h.g, h.p, h.ji, h.ok⟩
section
variable {H : AH} {n0 L jb : Nat} {J : JobW} {a : Option Addr} {l c : Nat} {pa : Option Addr} {pl pc : Nat}
theorem submitq_ok (hL : n0 + 4 < L) (hLn : L ≤ H.next) (ok : Ok H) (h : WM H n0) (hi : JobI J) (hc : jchk J = 0) (hp : J.prog.length < 18446744073709551616) (hs : (jobB J).length ≤ 4611686018427387904) :
    FW Ee F_master_Master_submit [.pointer (some ⟨n0 + 4, 0, none⟩), .string ⟨⟨jobB J⟩⟩] H fun r H' => r = .agg ⟨[.int .i64 0, .int .i64 1]⟩ ∧ (∃ jb a l c pa pl pc aa al ac rb, QJ H' n0 L jb J a l c pa pl pc aa al ac rb) ∧ H'.get n0 = some (.map [] 0) ∧ Mod (fun x => x = n0 + 4 ∨ x = n0 + 2) H H' := by
  obtain ⟨_, _, _, _, _, _, _, _, hp1, hp2⟩ := jchk_zero hc
  refine fw_master_Master_submit ?_
  intro H1 e1
  obtain ⟨g1, p1, n1⟩ := new_job ok e1
  refine (decjob_ok g1.ok hs).mono ?_
  rintro _ H2 ⟨j, a, l, c, pa, pl, pc, e, rfl, T, g2⟩
  have n2 := g2.next
  have he : e = 0 := by rw [T.err]; exact decE_self hi hp hc
  subst he
  obtain ⟨ej, G2, P2⟩ := T.good rfl
  have hself := rJob_self (t := []) hi hp hc
  rw [List.append_nil] at hself
  rw [hself] at ej
  subst ej
  refine ⟨_, _, _, _, _, _, _, _, _, _, _, rfl, ?_⟩
  intro H3 e3
  obtain ⟨H4, e4, b4, g4, n4⟩ := fresh_store (vs := jC j a l c pa pl pc) e3 rfl rfl g2.ok
  have g14 := (g1.trans g2).trans g4
  have p4 := (g2.trans g4).get _ _ not_false p1
  have h4 := h.grow g14
  refine ⟨H4, e4, cond_neg rfl ?_⟩
  refine FW.mono (Q := fun r H' => r = .int .i64 0 ∧ H4 = H') ⟨1, .int .i64 0, H4, by rw [open_eq]; unfold openW; simp only [h4.m, h4.j]; rfl, rfl, rfl⟩ ?_
  rintro _ _ ⟨rfl, rfl⟩
  refine ⟨_, rfl, cond_neg rfl ⟨_, cell_of h4.m rfl, cond_neg rfl ⟨_, cell_of h4.m rfl, ?_⟩⟩⟩
  intro t31 e31
  have e31 : t31 = 1 := e31
  subst e31
  obtain ⟨H9, s9, m9, d9, n9⟩ := put_ok (o := 3) (vs := [.int .i64 1]) (cs' := [.pointer (some ⟨n0 + 1, 0, none⟩), .map (some (n0 + 2)), .map (some (n0 + 3)), .int .i64 1, .int .i64 0]) h4.m rfl (by simp) rfl g4.ok
  have b9 := d9.get _ _ (show ¬ H2.next = n0 + 4 by omega) b4
  refine ⟨H9, s9, _, cell_of m9 rfl, _, cell_of m9 rfl, _, cell_of m9 rfl, _, _, _, _, _, _, _, _, _, _, cell_of b9 rfl, cell_of b9 rfl, cell_of b9 rfl, cell_of b9 rfl, cell_of b9 rfl, cell_of b9 rfl, ?_⟩
  intro H10 e10
  obtain ⟨g10, j10, n10⟩ := new_job d9.ok e10
  have m10 := g10.get _ _ not_false m9
  have b10 := g10.get _ _ not_false b9
  have t10 : H10.get (n0 + 2) = some (.map [] 0) := g10.get _ _ not_false (d9.get _ _ (by omega) h4.j)
  obtain ⟨zs', H11, u1, u2, u3, u4, d11, n11⟩ := (MapV.empty (val := fun _ => .bool true) t10).put (kt := T_int) (fun _ _ => eqv_I) g10.ok (c := 1) (by unfold I64; omega) (by simp) (.pointer (some ⟨H9.next, 0, none⟩))
  have hz : zs' = [1] := by
    rcases u4 with e | e
    · have := (u3 1).2 (.inr rfl)
      rw [e] at this
      cases this
    · simpa using e
  subst hz
  have w11 : MapV H11 (n0 + 2) [1] fun _ => .pointer (some ⟨H9.next, 0, none⟩) := u2.congr fun x hx => by simp at hx; simp [hx]
  have m11 := d11.get _ _ (show ¬ n0 + 4 = n0 + 2 by omega) m10
  have j11 := d11.get _ _ (show ¬ H9.next = n0 + 2 by omega) j10
  have k11 : MapV H11 (n0 + 3) [5] fun _ => .int .i64 1 := ((h4.w.mod d9 (by omega)).mod g10 id).mod d11 (by omega)
  refine ⟨H11, by rw [upd_ij]; exact u1, cell_of b10 rfl, cell_of b10 rfl, cell_of b10 rfl, cell_of b10 rfl, cell_of b10 rfl, cell_of b10 rfl, cell_of m10 rfl, cell_of m10 rfl, cell_of m10 rfl, ?_⟩
  refine (startq_ok (jb := H9.next) d11.ok m11 k11 w11 j11 hp1 hp2 (by omega)).mono ?_
  rintro _ H12 ⟨rfl, ⟨ab, rb, q1, q2, q3, q4, q5, q6⟩, k12⟩
  have hn12 := k12.next
  have pS : ∀ x, (x = n0 + 4 ∨ x = H9.next) → x ≠ H.next := fun x hx => by omega
  have p11 := d11.get _ _ (show ¬ H.next = n0 + 2 by omega) (g10.get _ _ not_false (d9.get _ _ (show ¬ H.next = n0 + 4 by omega) p4))
  have p12 := k12.get _ _ (show ¬ (H.next = n0 + 4 ∨ H.next = H9.next) by omega) p11
  obtain ⟨H13, s13, p13, d13, n13⟩ := put_ok (o := 0) (vs := [.int .i64 0, .int .i64 1]) (cs' := [.int .i64 0, .int .i64 1]) p12 rfl (by simp) rfl k12.ok
  have up : ∀ {x : Nat} {o : AObj}, x ≠ H.next → H12.get x = some o → H13.get x = some o := fun hx e => d13.get _ _ hx e
  -- what came with the job
  have gA : Mod (fun x => x = n0 + 4 ∨ x = n0 + 2 ∨ x = H9.next ∨ x = H.next) H2 H13 := by
    have a1 := (g4.le (S' := fun x => x = n0 + 4 ∨ x = n0 + 2 ∨ x = H9.next ∨ x = H.next) (fun _ hf _ => hf.elim) g2.ok)
    have a2 := a1.trans (d9.le (fun x hx _ => .inl hx) g4.ok)
    have a3 := (a2.add g10).trans (d11.le (fun x hx _ => .inr (.inl hx)) g10.ok)
    have a4 := a3.trans (k12.le (fun x hx _ => by rcases hx with h | h; exact .inl h; exact .inr (.inr (.inl h))) d11.ok)
    exact a4.trans (d13.le (fun x hx _ => .inr (.inr (.inr hx))) k12.ok)
  have hne : ∀ x, H1.next ≤ x ∧ x < H2.next → ¬ (x = n0 + 4 ∨ x = n0 + 2 ∨ x = H9.next ∨ x = H.next) := fun x hx => by omega
  have G13 : SlV (L ≤ ·) H13 a l j.graph := slv_weak gA.ok (G2.mod loc_vtx gA hne) fun x hx _ => by omega
  have P13 : SlI (L ≤ ·) H13 pa pl j.params := (P2.mod loc_int gA hne).weak (fun x hx _ => by omega) (int_lt gA.ok)
  have hab : ab ≠ H.next := by have := g14.next; have := d9.next; have := g10.next; have := d11.next; omega
  have A13 : SlI (L ≤ ·) H13 (some ⟨ab, 0, none⟩) j.parts.toNat (List.replicate j.parts.toNat 5) := by
    refine ⟨by simp, fun _ => ⟨rfl, show L ≤ ab by omega⟩, fun i hi => ?_⟩
    have hi' : i < j.parts.toNat := by simpa using hi
    rw [List.getElem_replicate]
    refine cell_of (up hab q5) ?_
    simp [adr, hi']
  refine ⟨rfl, _, cell_of q3 rfl, H13, s13, _, _, cell_of p13 rfl, cell_of p13 rfl, rfl, ⟨H9.next, a, l, c, pa, pl, pc, _, _, _, rb, ⟨by omega, by omega, hL⟩, up (by omega) q3, ?_, ?_, ?_, up (by omega) q4, up (by omega) q6, A13, by omega, G13, P13, hi, hc⟩, ?_, ?_⟩
  · exact gA.get _ _ (by omega) ((g1.trans g2).get _ _ id h.s)
  · exact (w11.mod k12 (by omega)).mod d13 (by omega)
  · exact (k11.mod k12 (by omega)).mod d13 (by omega)
  · exact gA.get _ _ (by omega) ((g1.trans g2).get _ _ id h.t)
  · have b1 : Mod (fun x => x = n0 + 4 ∨ x = n0 + 2 ∨ x = H9.next ∨ x = H.next) H H13 := ((g1.trans g2).le (fun _ hf _ => hf.elim) ok).trans gA
    exact b1.le (fun x hx hlt => by omega) ok
end
end Go.Proofs.Cx

namespace Go.Proofs.Cx
open Go Go.Ev
section
variable {H : AH} {n0 L jb : Nat} {J : JobW} {a : Option Addr} {l c : Nat} {pa : Option Addr} {pl pc : Nat}
theorem eqv_L {a b : Int} : eqv Ee eqDepth T_int64 (.int .i64 a) (.int .i64 b) = some (a == b) := by kernel_rfl
theorem look11_ok (ok : Ok H) (h : WM H n0) :
    FW Ee F_sess_Table_Look [.pointer (some ⟨n0 + 1, 0, none⟩), .int .i64 1, .int .i64 1] H fun r H' => r = .tuple ⟨[.string ⟨⟨[]⟩⟩, .bool false, .int .i64 0]⟩ ∧ Grow H H' := by
  refine fw_sess_Table_Look ?_
  intro H1 e1
  obtain ⟨g1, p1, n1⟩ := new_job ok e1
  have h1 := h.grow g1
  refine ⟨_, cell_of p1 rfl, cond_neg rfl (cond_neg rfl ⟨_, cell_of p1 rfl, grd_intro rfl (grd_intro rfl ⟨_, cell_of h1.s rfl, 0, [], by rw [look_is, lookX_nil h1.t]; rfl, ?_⟩)⟩)⟩
  intro H2 e2
  obtain ⟨H3, e3, b3, g3, n3⟩ := fresh_store (vs := [.int .i64 0, .string ⟨⟨[]⟩⟩]) e2 rfl rfl g1.ok
  have p3 := g3.get _ _ not_false p1
  have h3 := h1.grow g3
  refine ⟨H3, e3, _, cell_of b3 rfl, cond_neg rfl ⟨_, cell_of b3 rfl, cond_neg rfl ⟨_, cell_of b3 rfl, ?_⟩⟩⟩
  intro t46 e46
  have e46 : t46 = 1 := e46
  subst e46
  refine cond_neg rfl ?_
  refine FW.mono (Q := fun r H' => r = .bool false ∧ H3 = H') ?_ ?_
  · refine fw_sess_Table_Look_2 ?_
    exact ⟨_, cell_of b3 rfl, cond_pos rfl ⟨_, cell_of p3 rfl, grd_intro rfl (grd_intro rfl ⟨_, cell_of h3.s rfl, .inr ⟨_, _, _, rfl, h3.t, rfl, rfl⟩⟩)⟩⟩
  rintro _ _ ⟨rfl, rfl⟩
  refine ⟨_, rfl, cond_neg rfl (look1_ok.mono ?_)⟩
  rintro _ _ ⟨rfl, rfl⟩
  exact ⟨_, _, _, rfl, rfl, g1.trans g3⟩
/-- a good job asked for: it runs, and the answer is kept -/
theorem doq_ok {cb pb : Nat} (hL : n0 + 4 < L) (hLn : L ≤ H.next) (ok : Ok H) (h : WM H n0) (hi : JobI J) (hc : jchk J = 0) (hp : J.prog.length < 18446744073709551616) (hs : (jobB J).length ≤ 4611686018427387904)
    (hp0 : H.cell pb 0 = some (.pointer (some ⟨n0 + 4, 0, none⟩))) (hc0 : H.cell cb 0 = some (.int .i64 1)) (hc3 : H.cell cb 3 = some (.string ⟨⟨jobB J⟩⟩)) :
    FW Ee F_sess_Table_Do [.pointer (some ⟨n0 + 1, 0, none⟩), .int .i64 1, .int .i64 1, .func (.func F_master_Master_Apply_1) ⟨[]⟩ ⟨[.pointer (some ⟨cb, 0, none⟩), .pointer (some ⟨pb, 0, none⟩)]⟩] H fun r H' =>
      (∃ t b e, r = .tuple ⟨[.string ⟨⟨t⟩⟩, .bool b, .int .i64 e]⟩ ∧ t.length ≤ 20 ∧ ∃ jb a l c pa pl pc aa al ac rb, RM H' n0 L jb J a l c pa pl pc aa al ac rb t) ∧ Mod (fun x => x = n0 ∨ x = n0 + 4 ∨ x = n0 + 2) H H' := by
  refine fw_sess_Table_Do ?_
  refine (look11_ok ok h).mono ?_
  rintro _ H1 ⟨rfl, g1⟩
  have h1 := h.grow g1
  have n1 := g1.next
  refine ⟨_, _, _, rfl, cond_neg rfl (cond_neg rfl ?_)⟩
  have up : ∀ {b o : Nat} {v : Value}, H.cell b o = some v → H1.cell b o = some v := fun {b o v} k => loc_cell (F := (· = b)) (fun _ _ _ e => g1.get _ _ not_false e) rfl k
  refine FW.mono (Q := fun r H' => ∃ t, r = .string ⟨⟨t⟩⟩ ∧ t.length ≤ 20 ∧ (∃ jb a l c pa pl pc aa al ac rb, QJ H' n0 L jb J a l c pa pl pc aa al ac rb) ∧ H'.get n0 = some (.map [] 0) ∧ Mod (fun x => x = n0 + 4 ∨ x = n0 + 2) H1 H') ?_ ?_
  · refine fw_master_Master_Apply_1 ?_
    refine ⟨_, up hc0, cond_pos rfl ?_⟩
    refine ⟨_, up hp0, _, up hc3, (submitq_ok (L := L) hL (by omega) g1.ok h1 hi hc hp hs).mono ?_⟩
    rintro _ H2 ⟨rfl, ⟨jb, a, l, c, pa, pl, pc, aa, al, ac, rb, k2⟩, t2, m2⟩
    refine ⟨_, _, rfl, (replyText_ok m2.ok).mono ?_⟩
    rintro _ H3 ⟨t, rfl, ht, g3⟩
    exact ⟨_, rfl, _, rfl, ht, ⟨_, _, _, _, _, _, _, _, _, _, _, k2.mod g3 fun _ _ => id⟩, g3.get _ _ id t2, m2.add g3⟩
  rintro _ H2 ⟨t, rfl, ht, ⟨jb, a, l, c, pa, pl, pc, aa, al, ac, rb, k2⟩, t2, m2⟩
  obtain ⟨zs', H3, u1, u2, u3, u4, d3, n3⟩ := (MapV.empty (val := fun _ => .bool true) t2).put (kt := T_int64) (fun _ _ => eqv_L) m2.ok (c := 1) (by unfold I64; omega) (by simp) (.agg ⟨[.int .i64 1, .string ⟨⟨t⟩⟩]⟩)
  have hz : zs' = [1] := by
    rcases u4 with e | e
    · have := (u3 1).2 (.inr rfl)
      rw [e] at this
      cases this
    · simpa using e
  subst hz
  have w3 : MapV H3 n0 [1] fun _ => .agg ⟨[.int .i64 1, .string ⟨⟨t⟩⟩]⟩ := u2.congr fun x hx => by simp at hx; simp [hx]
  have m1 : Mod (fun x => x = n0 ∨ x = n0 + 4 ∨ x = n0 + 2) H H1 := g1.le (fun _ hf _ => hf.elim) ok
  exact ⟨_, rfl, _, cell_of k2.s rfl, _, by rw [upd_is]; exact u1, ⟨_, _, _, rfl, ht, _, _, _, _, _, _, _, _, _, _, _, qj_rm d3.ok (k2.mod d3 fun x hx => by omega) w3⟩, (m1.ext m2 ok fun x hx => .inl (.inr hx)).ext d3 ok fun x hx => .inl (.inl hx)⟩
end
end Go.Proofs.Cx

namespace Go.Proofs.Cx
open Go Go.Ev
section
variable {H : AH} {n0 L jb : Nat} {J : JobW} {a : Option Addr} {l c : Nat} {pa : Option Addr} {pl pc : Nat}
theorem applyq3_ok {se sq jd : Int} {s : List UInt8} {f : Nat → Int} {hh : Nat → Bool} {v : Nat → Int} {a : Option Addr} {l c : Nat} (ok : Ok H) (h : FM H n0) (hn : n0 + 4 < H.next) :
    FW Ee F_master_Master_Apply [.pointer (some ⟨n0 + 4, 0, none⟩), .agg ⟨cmdV 3 se sq s jd 5 1 f hh v a l c⟩] H fun r H' => (∃ x y e, r = .tuple ⟨[.agg ⟨[.int .i64 x, .int .i64 y]⟩, .int .i64 e]⟩) ∧ WM H' n0 ∧ Mod (n0 ≤ ·) H H' := by
  refine fw_master_Master_Apply ?_
  intro H1 e1 H2 e2 H3 e3
  obtain ⟨g1, p1, n1⟩ := new_job ok e1
  obtain ⟨g2, c2, n2⟩ := new_job g1.ok e2
  obtain ⟨g3, r3, n3⟩ := new_job g2.ok e3
  have p3 := (g2.trans g3).get _ _ not_false p1
  have c3 := g3.get _ _ not_false c2
  have g03 := (g1.trans g2).trans g3
  have h3 := h.grow g03
  refine ⟨_, cell_of p3 rfl, cond_neg rfl ⟨_, cell_of c3 rfl, cond_neg rfl (cond_neg rfl (cond_pos rfl ?_))⟩⟩
  refine ⟨_, cell_of p3 rfl, _, cell_of c3 rfl, _, cell_of c3 rfl, (joinq_ok g03.ok h3).mono ?_⟩
  rintro _ H5 ⟨rfl, k5, m5⟩
  obtain ⟨H6, s6, p6, d6, n6⟩ := put_ok (o := 0) (vs := [.int .i64 0, .int .i64 0]) (cs' := [.int .i64 0, .int .i64 0]) (m5.get _ _ (by omega) r3) rfl (by simp) rfl m5.ok
  have M : Mod (n0 ≤ ·) H H6 := ((g03.le (fun _ hf _ => hf.elim) ok).trans (m5.le (fun x hx _ => by omega) g03.ok)).trans (d6.le (fun x hx _ => by omega) m5.ok)
  refine ⟨rfl, H6, s6, _, _, cell_of p6 rfl, cell_of p6 rfl, ⟨_, _, _, rfl⟩, ?_, M⟩
  exact ⟨d6.get _ _ (by omega) k5.t, d6.get _ _ (by omega) k5.s, d6.get _ _ (by omega) k5.j, k5.w.mod d6 (by omega), d6.get _ _ (by omega) k5.m⟩
theorem rm_low (ok : Ok H) {L' : Nat} {aa : Option Addr} {al ac rb : Nat} {rt : List UInt8} (h : RM H n0 L' jb J a l c pa pl pc aa al ac rb rt) (k : L ≤ L') (hL : n0 + 4 < L) : RM H n0 L jb J a l c pa pl pc aa al ac rb rt :=
  ⟨⟨by have := h.lo; omega, by have := h.lo; omega, hL⟩, h.m, h.s, h.t, h.j, h.w, h.job, h.r, h.asg.weak (fun _ hx _ => by omega) (int_lt ok), h.alb, slv_weak ok h.g fun _ hx _ => by omega, h.p.weak (fun _ hx _ => by omega) (int_lt ok), h.ji, h.ok⟩
theorem applyq1_ok {jd wk li : Int} {f : Nat → Int} {hh : Nat → Bool} {v : Nat → Int} {a : Option Addr} {l c : Nat} (ok : Ok H) (h : WM H n0) (hL : n0 + 4 < L) (hLn : L ≤ H.next) (hi : JobI J) (hc : jchk J = 0) (hp : J.prog.length < 18446744073709551616) (hs : (jobB J).length ≤ 4611686018427387904) :
    FW Ee F_master_Master_Apply [.pointer (some ⟨n0 + 4, 0, none⟩), .agg ⟨cmdV 1 1 1 (jobB J) jd wk li f hh v a l c⟩] H fun r H' => (∃ x y e, r = .tuple ⟨[.agg ⟨[.int .i64 x, .int .i64 y]⟩, .int .i64 e]⟩) ∧ (∃ jb a l c pa pl pc aa al ac rb t, t.length ≤ 20 ∧ RM H' n0 L jb J a l c pa pl pc aa al ac rb t) ∧ Mod (fun x => n0 ≤ x ∧ x ≤ n0 + 4) H H' := by
  refine fw_master_Master_Apply ?_
  intro H1 e1 H2 e2 H3 e3
  obtain ⟨g1, p1, n1⟩ := new_job ok e1
  obtain ⟨g2, c2, n2⟩ := new_job g1.ok e2
  obtain ⟨g3, r3, n3⟩ := new_job g2.ok e3
  have p3 := (g2.trans g3).get _ _ not_false p1
  have c3 := g3.get _ _ not_false c2
  have g03 := (g1.trans g2).trans g3
  have h3 := h.grow g03
  refine ⟨_, cell_of p3 rfl, cond_neg rfl ⟨_, cell_of c3 rfl, cond_pos rfl ?_⟩⟩
  refine ⟨_, cell_of p3 rfl, grd_intro rfl (grd_intro rfl ⟨_, cell_of h3.m rfl, _, cell_of c3 rfl, _, cell_of c3 rfl, (doq_ok (L := H3.next) (J := J) (by omega) (Nat.le_refl _) g03.ok h3 hi hc hp hs (cell_of p3 rfl) (cell_of c3 rfl) (cell_of c3 rfl)).mono ?_⟩)⟩
  rintro _ H5 ⟨⟨t, b, e, rfl, ht, jb, a', l', c', pa, pl, pc, aa, al, ac, rb, k5⟩, m5⟩
  have r5 := m5.get _ _ (show ¬ (H2.next = n0 ∨ H2.next = n0 + 4 ∨ H2.next = n0 + 2) by omega) r3
  have fin : ∀ {Hx : AH} (e x y : Int), Grow H5 Hx → ∃ Hy, storeCellsv Hx H2.next 0 [.int .i64 x, .int .i64 y] = some Hy ∧ ∃ (r1 r2 : Int), Hy.cell H2.next (0 + 0) = some (.int .i64 r1) ∧ Hy.cell H2.next (0 + 1) = some (.int .i64 r2) ∧
      (∃ x y e', Value.tuple ⟨[.agg ⟨[.int .i64 r1, .int .i64 r2]⟩, .int .i64 e]⟩ = .tuple ⟨[.agg ⟨[.int .i64 x, .int .i64 y]⟩, .int .i64 e']⟩) ∧ (∃ jb a l c pa pl pc aa al ac rb t, t.length ≤ 20 ∧ RM Hy n0 L jb J a l c pa pl pc aa al ac rb t) ∧ Mod (fun x => n0 ≤ x ∧ x ≤ n0 + 4) H Hy := by
    intro Hx e x y gx
    obtain ⟨Hy, sy, py, dy, ny⟩ := put_ok (o := 0) (vs := [.int .i64 x, .int .i64 y]) (cs' := [.int .i64 x, .int .i64 y]) (gx.get _ _ id r5) rfl (by simp) rfl gx.ok
    have M : Mod (fun x => n0 ≤ x ∧ x ≤ n0 + 4) H Hy := (((g03.le (fun _ hf _ => hf.elim) ok).ext m5 ok fun x hx => .inl (by omega)).add gx).ext dy ok fun x hx => .inr (by omega)
    refine ⟨Hy, sy, _, _, cell_of py rfl, cell_of py rfl, ⟨_, _, _, rfl⟩, ⟨jb, a', l', c', pa, pl, pc, aa, al, ac, rb, t, ht, ?_⟩, M⟩
    exact rm_low dy.ok ((k5.mod gx fun _ _ => id).mod dy fun x hx => by omega) (by omega) hL
  refine ⟨_, _, _, rfl, cond_intro (fun _ => fin _ _ _ (.refl m5.ok)) (fun _ => (replyOf_ok (by omega) m5.ok).mono ?_)⟩
  rintro _ H7 ⟨x, y, rfl, g7⟩
  exact ⟨_, _, rfl, fin _ _ _ g7⟩
end
end Go.Proofs.Cx

namespace Go.Proofs.Cx
open Go Go.Ev
section
variable {H : AH} {n0 L jb : Nat} {J : JobW} {a : Option Addr} {l c : Nat} {pa : Option Addr} {pl pc : Nat} {aa : Option Addr} {al ac rb : Nat} {rt : List UInt8}
theorem applyr5_ok {se sq jd wk li : Int} {s : List UInt8} {f : Nat → Int} {hh : Nat → Bool} {v : Nat → Int} {va : Option Addr} {vl vc : Nat} (ok : Ok H) (h : RM H n0 L jb J a l c pa pl pc aa al ac rb rt) (hf : f 0 ≠ 1 ∨ f 1 ≠ 1 ∨ f 2 ≠ 0 ∨ f 3 ≠ 1 ∨ f 4 ≠ 5) :
    FW Ee F_master_Master_Apply [.pointer (some ⟨n0 + 4, 0, none⟩), .agg ⟨cmdV 5 se sq s jd wk li f hh v va vl vc⟩] H fun r H' => r = .tuple ⟨[.agg ⟨[.int .i64 0, .int .i64 0]⟩, .int .i64 0]⟩ ∧ Grow H H' := by
  refine fw_master_Master_Apply ?_
  intro H1 e1 H2 e2 H3 e3
  obtain ⟨g1, p1, n1⟩ := new_job ok e1
  obtain ⟨g2, c2, n2⟩ := new_job g1.ok e2
  obtain ⟨g3, r3, n3⟩ := new_job g2.ok e3
  have p3 := (g2.trans g3).get _ _ not_false p1
  have c3 := g3.get _ _ not_false c2
  have g03 := (g1.trans g2).trans g3
  have h3 := h.mod g03 fun _ _ => id
  refine ⟨_, cell_of p3 rfl, cond_neg rfl ⟨_, cell_of c3 rfl, cond_neg rfl (cond_neg rfl (cond_neg rfl (cond_neg rfl (cond_pos rfl ?_))))⟩⟩
  refine ⟨_, cell_of p3 rfl, _, _, _, _, _, _, _, _, _, _, _, _, _, _, _, _, _, _, _, _, _, _, cell_of c3 rfl, cell_of c3 rfl, cell_of c3 rfl, cell_of c3 rfl, cell_of c3 rfl, cell_of c3 rfl, cell_of c3 rfl, cell_of c3 rfl, cell_of c3 rfl, cell_of c3 rfl, cell_of c3 rfl, cell_of c3 rfl, cell_of c3 rfl, cell_of c3 rfl, cell_of c3 rfl, cell_of c3 rfl, cell_of c3 rfl, cell_of c3 rfl, cell_of c3 rfl, cell_of c3 rfl,
    (reportr_ok (f := f) (hh := hh) (v := v) (va := va) (vl := vl) (vc := vc) g03.ok h3 hf).mono ?_⟩
  rintro _ H5 ⟨rfl, g5⟩
  obtain ⟨H6, s6, p6, d6, n6⟩ := put_ok (o := 0) (vs := [.int .i64 0, .int .i64 0]) (cs' := [.int .i64 0, .int .i64 0]) (g5.get _ _ id r3) rfl (by simp) rfl g5.ok
  exact ⟨rfl, H6, s6, _, _, cell_of p6 rfl, cell_of p6 rfl, rfl, Mod.then (g03.trans g5) d6 ok fun b hb => by omega⟩
end
end Go.Proofs.Cx
