/- Tasks: what is put is taken. Tasks that are taken. MasterTexts: small jobs, what comes in. MasterTexts: the law, as formulas have it. MasterTexts: what comes in. -/
import Derived.Test.YtkkcknfeljgdcaaGreatC4
import Derived.Test.YtkkcknfeljgdcaaGreatVc6
import Derived.Test.YtkkcknfeljgdcaaGreatVc7
import Derived.Test.YtkkcknfeljgdcaaGreatB3
namespace Go.Ev
open Go
abbrev Sl3 := Option Addr × Nat × Nat
def nil3 : Sl3 := (none, 0, 0)
def sv (x : Sl3) : Value := .slice x.1 x.2.1 x.2.2
def upd {α : Type} (s : Nat → α) (i : Nat) (x : α) : Nat → α := fun k => if k = i then x else s k
theorem upd_same {α : Type} {s : Nat → α} {i : Nat} {x : α} : upd s i x i = x := if_pos rfl
theorem upd_ne {α : Type} {s : Nat → α} {i k : Nat} {x : α} (h : k ≠ i) : upd s i x k = s k := if_neg h
theorem upd_upd {α : Type} {s : Nat → α} {i : Nat} {x y : α} : upd (upd s i x) i y = upd s i y := by
  funext k; unfold upd; by_cases h : k = i
  · simp [h]
  · simp [h]
theorem upd_self {α : Type} {s : Nat → α} {i : Nat} {x : α} (h : s i = x) : upd s i x = s := by
  funext k; unfold upd; by_cases e : k = i
  · subst e; simp [h]
  · simp [e]
def natsB (ns : List Int) : List UInt8 := enc ns.length ++ ns.flatMap fun x => enc x.toNat
def NatI (x : Int) : Prop := 0 ≤ x ∧ x ≤ 2147483647
def zjw : JobW := ⟨[], [], [], 0, 0, 0⟩
structure TaskW where
  f : Nat → Int
  L : Nat → List Int
  h : Nat → Bool
  v : Nat → Int
  j : JobW
  k : Bool
def tskC (f : Nat → Int) (s : Nat → Sl3) (j : JobW) (a : Option Addr) (l c : Nat) (pa : Option Addr) (pl pc : Nat) (h : Nat → Bool) (v : Nat → Int) (k : Bool) : List Value :=
  [.int .i64 (f 0), .int .i64 (f 1), .int .i64 (f 2), .int .i64 (f 3), sv (s 0), sv (s 1), .string ⟨⟨j.prog⟩⟩, .slice a l c, .slice pa pl pc, .int .i64 j.steps, .int .i64 j.sent, .int .i64 j.parts, .bool (h 0), .bool (h 1), .bool (h 2), .bool (h 3), .bool (h 4), .int .i64 (v 0), .int .i64 (v 1), .int .i64 (v 2), .int .i64 (v 3), .int .i64 (v 4), .int .i64 (f 4), .int .i64 (f 5), .int .i64 (f 6), .bool k]
def taskB (t : TaskW) : List UInt8 := cntL (fun i => (t.f i).toNat) 7 0 ++ (natsB (t.L 0) ++ (natsB (t.L 1) ++ (enc (cond t.k 1 0) ++ (aggB t.h t.v ++ jobB t.j))))
theorem seven {i : Nat} (h : i < 7) : i = 0 ∨ i = 1 ∨ i = 2 ∨ i = 3 ∨ i = 4 ∨ i = 5 ∨ i = 6 := by omega
theorem two {i : Nat} (h : i < 2) : i = 0 ∨ i = 1 := by omega
theorem nats_len : ∀ {es : List Int}, (∀ e ∈ es, NatI e) → (es.flatMap fun x => enc x.toNat).length ≤ es.length * 10
  | [], _ => by simp
  | e :: es, h => by
    have h1 := nats_len (es := es) fun x hx => h x (List.mem_cons_of_mem _ hx)
    have h0 := h e List.mem_cons_self
    have h2 := enc_len64 (n := e.toNat) (by unfold NatI at h0; omega)
    rw [List.flatMap_cons, List.length_append, List.length_cons]
    omega
/-- where the program puts the numbers that it reads -/
def tptr (xb i : Nat) : Option Addr := if i < 4 then some ⟨xb, i, none⟩ else some ⟨xb, 18 + i, none⟩
def tR (f : Nat → Int) (i : Nat) (s : Nat → Sl3) : List Value := tskC (upTo 0 f i) s zjw none 0 0 none 0 0 (fun _ => false) (fun _ => 0) false
theorem tR_len (f : Nat → Int) (i : Nat) (s : Nat → Sl3) : (tR f i s).length = 26 := rfl
theorem task_store {f : Nat → Int} {s : Nat → Sl3} {H6 : AH} {xb i : Nat} (ok : Ok H6) (hi : i < 7) (hx : H6.get xb = some (.cells (tR f i s) 0)) :
    (tptr xb i).isSome = true ∧ ∃ H7, storeCellsv H6 (adr (tptr xb i)).block (adr (tptr xb i)).off [.int .i64 (f i)] = some H7 ∧ H7.get xb = some (.cells (tR f (i + 1) s) 0) ∧ Mod (· = xb) H6 H7 ∧ H7.next = H6.next := by
  unfold tptr
  by_cases h4 : i < 4
  · rw [if_pos h4]
    have hset : lset (tR f i s) i [.int .i64 (f i)] = tR f (i + 1) s := by
      rcases seven hi with rfl | rfl | rfl | rfl | rfl | rfl | rfl <;> first | (exfalso; omega) | (simp [tR, tskC, upTo, lset])
    have st := store_of (o := i) (vs := [.int .i64 (f i)]) hx (by rw [tR_len]; simp; omega) rfl
    rw [hset] at st
    exact ⟨rfl, _, st, get_set_self _ _ _, Mod.set ok hx _, rfl⟩
  · rw [if_neg h4]
    have hset : lset (tR f i s) (18 + i) [.int .i64 (f i)] = tR f (i + 1) s := by
      rcases seven hi with rfl | rfl | rfl | rfl | rfl | rfl | rfl <;> first | (exfalso; omega) | (simp [tR, tskC, upTo, lset])
    have st := store_of (o := 18 + i) (vs := [.int .i64 (f i)]) hx (by rw [tR_len]; simp; omega) rfl
    rw [hset] at st
    exact ⟨rfl, _, st, get_set_self _ _ _, Mod.set ok hx _, rfl⟩
theorem tptr_cell {H : AH} {pb xb i : Nat} (hi : i < 7) (h : H.get pb = some (.cells [.pointer (some ⟨xb, 0, none⟩), .pointer (some ⟨xb, 1, none⟩), .pointer (some ⟨xb, 2, none⟩), .pointer (some ⟨xb, 3, none⟩), .pointer (some ⟨xb, 22, none⟩), .pointer (some ⟨xb, 23, none⟩), .pointer (some ⟨xb, 24, none⟩)] 0)) :
    H.cell pb (0 + (i : Int).toNat * 1) = some (.pointer (tptr xb i)) := by
  refine cell_of h ?_
  rcases seven hi with rfl | rfl | rfl | rfl | rfl | rfl | rfl <;> rfl
/-- the lists inside a row -/
theorem tR_get {f : Nat → Int} {s : Nat → Sl3} {n i : Nat} (hi : i < 2) : (tR f n s)[4 + i]? = some (sv (s i)) := by
  rcases two hi with rfl | rfl <;> rfl
theorem tR_set {f : Nat → Int} {s : Nat → Sl3} {n i : Nat} {x : Sl3} (hi : i < 2) : lset (tR f n s) (4 + i) [sv x] = tR f n (upd s i x) := by
  rcases two hi with rfl | rfl <;> simp [tR, tskC, upd, lset]
theorem ret_task {Q : Value → AH → Prop} {H : AH} {vb rb : Nat} {y0 : Int} {y1 : Int} {y2 : Int} {y3 : Int} {y4a : Option Addr} {y4l : Nat} {y4c : Nat} {y5a : Option Addr} {y5l : Nat} {y5c : Nat} {y6 : List UInt8} {y7a : Option Addr} {y7l : Nat} {y7c : Nat} {y8a : Option Addr} {y8l : Nat} {y8c : Nat} {y9 : Int} {y10 : Int} {y11 : Int} {y12 : Bool} {y13 : Bool} {y14 : Bool} {y15 : Bool} {y16 : Bool} {y17 : Int} {y18 : Int} {y19 : Int} {y20 : Int} {y21 : Int} {y22 : Int} {y23 : Int} {y24 : Int} {y25 : Bool} {z : List Value} (ok : Ok H) (hv : H.get vb = some (.cells [.int .i64 y0, .int .i64 y1, .int .i64 y2, .int .i64 y3, .slice y4a y4l y4c, .slice y5a y5l y5c, .string ⟨⟨y6⟩⟩, .slice y7a y7l y7c, .slice y8a y8l y8c, .int .i64 y9, .int .i64 y10, .int .i64 y11, .bool y12, .bool y13, .bool y14, .bool y15, .bool y16, .int .i64 y17, .int .i64 y18, .int .i64 y19, .int .i64 y20, .int .i64 y21, .int .i64 y22, .int .i64 y23, .int .i64 y24, .bool y25] 0)) (hr : H.get rb = some (.cells z 0)) (hz : z.length = 26) (hQ : ∀ H3, Mod (· = rb) H H3 → Q (.agg ⟨[.int .i64 y0, .int .i64 y1, .int .i64 y2, .int .i64 y3, .slice y4a y4l y4c, .slice y5a y5l y5c, .string ⟨⟨y6⟩⟩, .slice y7a y7l y7c, .slice y8a y8l y8c, .int .i64 y9, .int .i64 y10, .int .i64 y11, .bool y12, .bool y13, .bool y14, .bool y15, .bool y16, .int .i64 y17, .int .i64 y18, .int .i64 y19, .int .i64 y20, .int .i64 y21, .int .i64 y22, .int .i64 y23, .int .i64 y24, .bool y25]⟩) H3) :
    ∃ (t0 : Int) (t1 : Int) (t2 : Int) (t3 : Int) (t4a : Option Addr) (t4l : Nat) (t4c : Nat) (t5a : Option Addr) (t5l : Nat) (t5c : Nat) (t6 : List UInt8) (t7a : Option Addr) (t7l : Nat) (t7c : Nat) (t8a : Option Addr) (t8l : Nat) (t8c : Nat) (t9 : Int) (t10 : Int) (t11 : Int) (t12 : Bool) (t13 : Bool) (t14 : Bool) (t15 : Bool) (t16 : Bool) (t17 : Int) (t18 : Int) (t19 : Int) (t20 : Int) (t21 : Int) (t22 : Int) (t23 : Int) (t24 : Int) (t25 : Bool), H.cell vb (0 + 0) = some (.int .i64 t0) ∧ H.cell vb (0 + 1) = some (.int .i64 t1) ∧ H.cell vb (0 + 2) = some (.int .i64 t2) ∧ H.cell vb (0 + 3) = some (.int .i64 t3) ∧ H.cell vb (0 + 4) = some (.slice t4a t4l t4c) ∧ H.cell vb (0 + 5) = some (.slice t5a t5l t5c) ∧ H.cell vb (0 + 6) = some (.string ⟨⟨t6⟩⟩) ∧ H.cell vb (0 + 7) = some (.slice t7a t7l t7c) ∧ H.cell vb (0 + 8) = some (.slice t8a t8l t8c) ∧ H.cell vb (0 + 9) = some (.int .i64 t9) ∧ H.cell vb (0 + 10) = some (.int .i64 t10) ∧ H.cell vb (0 + 11) = some (.int .i64 t11) ∧ H.cell vb (0 + 12) = some (.bool t12) ∧ H.cell vb (0 + 13) = some (.bool t13) ∧ H.cell vb (0 + 14) = some (.bool t14) ∧ H.cell vb (0 + 15) = some (.bool t15) ∧ H.cell vb (0 + 16) = some (.bool t16) ∧ H.cell vb (0 + 17) = some (.int .i64 t17) ∧ H.cell vb (0 + 18) = some (.int .i64 t18) ∧ H.cell vb (0 + 19) = some (.int .i64 t19) ∧ H.cell vb (0 + 20) = some (.int .i64 t20) ∧ H.cell vb (0 + 21) = some (.int .i64 t21) ∧ H.cell vb (0 + 22) = some (.int .i64 t22) ∧ H.cell vb (0 + 23) = some (.int .i64 t23) ∧ H.cell vb (0 + 24) = some (.int .i64 t24) ∧ H.cell vb (0 + 25) = some (.bool t25) ∧
      ∃ (H10 : AH), storeCellsv H rb 0 [.int .i64 t0, .int .i64 t1, .int .i64 t2, .int .i64 t3, .slice t4a t4l t4c, .slice t5a t5l t5c, .string ⟨⟨t6⟩⟩, .slice t7a t7l t7c, .slice t8a t8l t8c, .int .i64 t9, .int .i64 t10, .int .i64 t11, .bool t12, .bool t13, .bool t14, .bool t15, .bool t16, .int .i64 t17, .int .i64 t18, .int .i64 t19, .int .i64 t20, .int .i64 t21, .int .i64 t22, .int .i64 t23, .int .i64 t24, .bool t25] = some H10 ∧
      ∃ (r0 : Int) (r1 : Int) (r2 : Int) (r3 : Int) (r4a : Option Addr) (r4l : Nat) (r4c : Nat) (r5a : Option Addr) (r5l : Nat) (r5c : Nat) (r6 : List UInt8) (r7a : Option Addr) (r7l : Nat) (r7c : Nat) (r8a : Option Addr) (r8l : Nat) (r8c : Nat) (r9 : Int) (r10 : Int) (r11 : Int) (r12 : Bool) (r13 : Bool) (r14 : Bool) (r15 : Bool) (r16 : Bool) (r17 : Int) (r18 : Int) (r19 : Int) (r20 : Int) (r21 : Int) (r22 : Int) (r23 : Int) (r24 : Int) (r25 : Bool), H10.cell rb (0 + 0) = some (.int .i64 r0) ∧ H10.cell rb (0 + 1) = some (.int .i64 r1) ∧ H10.cell rb (0 + 2) = some (.int .i64 r2) ∧ H10.cell rb (0 + 3) = some (.int .i64 r3) ∧ H10.cell rb (0 + 4) = some (.slice r4a r4l r4c) ∧ H10.cell rb (0 + 5) = some (.slice r5a r5l r5c) ∧ H10.cell rb (0 + 6) = some (.string ⟨⟨r6⟩⟩) ∧ H10.cell rb (0 + 7) = some (.slice r7a r7l r7c) ∧ H10.cell rb (0 + 8) = some (.slice r8a r8l r8c) ∧ H10.cell rb (0 + 9) = some (.int .i64 r9) ∧ H10.cell rb (0 + 10) = some (.int .i64 r10) ∧ H10.cell rb (0 + 11) = some (.int .i64 r11) ∧ H10.cell rb (0 + 12) = some (.bool r12) ∧ H10.cell rb (0 + 13) = some (.bool r13) ∧ H10.cell rb (0 + 14) = some (.bool r14) ∧ H10.cell rb (0 + 15) = some (.bool r15) ∧ H10.cell rb (0 + 16) = some (.bool r16) ∧ H10.cell rb (0 + 17) = some (.int .i64 r17) ∧ H10.cell rb (0 + 18) = some (.int .i64 r18) ∧ H10.cell rb (0 + 19) = some (.int .i64 r19) ∧ H10.cell rb (0 + 20) = some (.int .i64 r20) ∧ H10.cell rb (0 + 21) = some (.int .i64 r21) ∧ H10.cell rb (0 + 22) = some (.int .i64 r22) ∧ H10.cell rb (0 + 23) = some (.int .i64 r23) ∧ H10.cell rb (0 + 24) = some (.int .i64 r24) ∧ H10.cell rb (0 + 25) = some (.bool r25) ∧
      Q (.agg ⟨[.int .i64 r0, .int .i64 r1, .int .i64 r2, .int .i64 r3, .slice r4a r4l r4c, .slice r5a r5l r5c, .string ⟨⟨r6⟩⟩, .slice r7a r7l r7c, .slice r8a r8l r8c, .int .i64 r9, .int .i64 r10, .int .i64 r11, .bool r12, .bool r13, .bool r14, .bool r15, .bool r16, .int .i64 r17, .int .i64 r18, .int .i64 r19, .int .i64 r20, .int .i64 r21, .int .i64 r22, .int .i64 r23, .int .i64 r24, .bool r25]⟩) H10 := by
  have k : (H.set rb (.cells (lset z 0 [.int .i64 y0, .int .i64 y1, .int .i64 y2, .int .i64 y3, .slice y4a y4l y4c, .slice y5a y5l y5c, .string ⟨⟨y6⟩⟩, .slice y7a y7l y7c, .slice y8a y8l y8c, .int .i64 y9, .int .i64 y10, .int .i64 y11, .bool y12, .bool y13, .bool y14, .bool y15, .bool y16, .int .i64 y17, .int .i64 y18, .int .i64 y19, .int .i64 y20, .int .i64 y21, .int .i64 y22, .int .i64 y23, .int .i64 y24, .bool y25]) 0)).get rb = some (.cells [.int .i64 y0, .int .i64 y1, .int .i64 y2, .int .i64 y3, .slice y4a y4l y4c, .slice y5a y5l y5c, .string ⟨⟨y6⟩⟩, .slice y7a y7l y7c, .slice y8a y8l y8c, .int .i64 y9, .int .i64 y10, .int .i64 y11, .bool y12, .bool y13, .bool y14, .bool y15, .bool y16, .int .i64 y17, .int .i64 y18, .int .i64 y19, .int .i64 y20, .int .i64 y21, .int .i64 y22, .int .i64 y23, .int .i64 y24, .bool y25] 0) := by
    rw [get_set_self]
    have : lset z 0 [.int .i64 y0, .int .i64 y1, .int .i64 y2, .int .i64 y3, .slice y4a y4l y4c, .slice y5a y5l y5c, .string ⟨⟨y6⟩⟩, .slice y7a y7l y7c, .slice y8a y8l y8c, .int .i64 y9, .int .i64 y10, .int .i64 y11, .bool y12, .bool y13, .bool y14, .bool y15, .bool y16, .int .i64 y17, .int .i64 y18, .int .i64 y19, .int .i64 y20, .int .i64 y21, .int .i64 y22, .int .i64 y23, .int .i64 y24, .bool y25] = [.int .i64 y0, .int .i64 y1, .int .i64 y2, .int .i64 y3, .slice y4a y4l y4c, .slice y5a y5l y5c, .string ⟨⟨y6⟩⟩, .slice y7a y7l y7c, .slice y8a y8l y8c, .int .i64 y9, .int .i64 y10, .int .i64 y11, .bool y12, .bool y13, .bool y14, .bool y15, .bool y16, .int .i64 y17, .int .i64 y18, .int .i64 y19, .int .i64 y20, .int .i64 y21, .int .i64 y22, .int .i64 y23, .int .i64 y24, .bool y25] := lset_all (by rw [hz]; rfl)
    rw [this]
  exact ⟨_, _, _, _, _, _, _, _, _, _, _, _, _, _, _, _, _, _, _, _, _, _, _, _, _, _, _, _, _, _, _, _, _, _, cell_of hv rfl, cell_of hv rfl, cell_of hv rfl, cell_of hv rfl, cell_of hv rfl, cell_of hv rfl, cell_of hv rfl, cell_of hv rfl, cell_of hv rfl, cell_of hv rfl, cell_of hv rfl, cell_of hv rfl, cell_of hv rfl, cell_of hv rfl, cell_of hv rfl, cell_of hv rfl, cell_of hv rfl, cell_of hv rfl, cell_of hv rfl, cell_of hv rfl, cell_of hv rfl, cell_of hv rfl, cell_of hv rfl, cell_of hv rfl, cell_of hv rfl, cell_of hv rfl, _, store_of (o := 0) hr (by rw [hz]; simp) rfl, _, _, _, _, _, _, _, _, _, _, _, _, _, _, _, _, _, _, _, _, _, _, _, _, _, _, _, _, _, _, _, _, _, _, cell_of k rfl, cell_of k rfl, cell_of k rfl, cell_of k rfl, cell_of k rfl, cell_of k rfl, cell_of k rfl, cell_of k rfl, cell_of k rfl, cell_of k rfl, cell_of k rfl, cell_of k rfl, cell_of k rfl, cell_of k rfl, cell_of k rfl, cell_of k rfl, cell_of k rfl, cell_of k rfl, cell_of k rfl, cell_of k rfl, cell_of k rfl, cell_of k rfl, cell_of k rfl, cell_of k rfl, cell_of k rfl, cell_of k rfl, hQ _ (Mod.set ok hr _)⟩
end Go.Ev
namespace Go.Proofs.Cx
open Go Go.Ev
section
variable {H : AH} {b : Nat} {s bs t : List UInt8} {p : Nat}
theorem cnt7 {f : Nat → Int} {i : Nat} (hi : i < 7) : ([.int .i64 (f 0), .int .i64 (f 1), .int .i64 (f 2), .int .i64 (f 3), .int .i64 (f 4), .int .i64 (f 5), .int .i64 (f 6)] : List Value)[0 + (i : Int).toNat * 1]? = some (.int .i64 (f i)) := by
  rcases seven hi with rfl | rfl | rfl | rfl | rfl | rfl | rfl <;> rfl
def natsU (L : Nat → List Int) (i : Nat) : List UInt8 := (List.range i).flatMap fun k => natsB (L k)
theorem natsU_succ (L : Nat → List Int) (i : Nat) : natsU L (i + 1) = natsU L i ++ natsB (L i) := by
  unfold natsU; rw [List.range_succ, List.flatMap_append]; simp
theorem natsB_len {ns : List Int} (h : ∀ e ∈ ns, NatI e) (hl : ns.length ≤ 16) : (natsB ns).length ≤ 170 := by
  have h1 := nats_len h
  have h2 := enc_len64 (n := ns.length) (by omega)
  unfold natsB
  rw [List.length_append]; omega
theorem puttask_ok {F Fg Fp : Nat → Prop} {n0 : Nat} {x : TaskW} {s2 : Nat → Sl3} {a : Option Addr} {l c : Nat} {pa : Option Addr} {pl pc : Nat} (hf : ∀ i, NatI (x.f i)) (hv : ∀ i, I64 (x.v i)) (hL : ∀ i, i < 2 → (x.L i).length ≤ 16 ∧ ∀ e ∈ x.L i, NatI e)
    (ok : Ok H) (hw : Wr H n0 b bs) (hS : ∀ i, i < 2 → SlI F H (s2 i).1 (s2 i).2.1 (x.L i)) (hF : ∀ y, F y → y < H.next ∧ ¬ WrS H b y) (hG : SlV Fg H a l x.j.graph) (hFg : ∀ y, Fg y → y < H.next ∧ ¬ WrS H b y) (hP : SlI Fp H pa pl x.j.params) (hFp : ∀ y, Fp y → y < H.next ∧ ¬ WrS H b y)
    (hI : JobI x.j) (hpl : x.j.prog.length ≤ 1000) (hs : bs.length ≤ 140737300000000) :
    FW Ee F_master_PutTask [.pointer (some ⟨b, 0, none⟩), .agg ⟨tskC x.f s2 x.j a l c pa pl pc x.h x.v x.k⟩] H fun r H' => r = .tuple ⟨[]⟩ ∧ Wr H' n0 b (bs ++ taskB x) ∧ WrX H b H' := by
  have hfn : ∀ i, (x.f i).toNat < 18446744073709551616 := fun i => by have := hf i; unfold NatI at this; omega
  have htot := cntL_len hfn 7 0
  have hagl := aggL_len (h := x.h) hv 5 0
  have hl0 := natsB_len (hL 0 (by omega)).2 (hL 0 (by omega)).1
  have hl1 := natsB_len (hL 1 (by omega)).2 (hL 1 (by omega)).1
  refine fw_master_PutTask ?_
  intro H1 e1
  obtain ⟨g1, b1, n1⟩ := new_job ok e1
  refine ⟨_, cell_of b1 rfl, _, cell_of b1 rfl, _, cell_of b1 rfl, _, cell_of b1 rfl, _, cell_of b1 rfl, _, cell_of b1 rfl, _, cell_of b1 rfl, ?_⟩
  intro H2 e2
  obtain ⟨g2, c2, n2⟩ := new_job g1.ok e2
  have g02 := g1.trans g2
  have x0 := WrX.grow ok hw g02
  have w2 := hw.grow g02
  have o1 : ¬ WrS H2 b H.next := hw.new ok g02 (Nat.le_refl _)
  have o2 : ¬ WrS H2 b H1.next := hw.new ok g02 (by omega)
  have b2 := g2.get _ _ id b1
  refine ⟨fun m t Hb => ∃ (i : Nat) (cs : List UInt8), t = i ∧ i ≤ 7 ∧ m = 7 - i ∧ Wr Hb n0 b (bs ++ cs) ∧ cs ++ cntL (fun i => (x.f i).toNat) (7 - i) i = cntL (fun i => (x.f i).toNat) 7 0 ∧ WrX H2 b Hb, ⟨_, 0, [], rfl, by omega, rfl, by simpa using w2, rfl, WrX.grow g02.ok w2 (.refl g02.ok)⟩, ?_⟩
  rintro m t H3 ⟨i, cs, rfl, hi, rfl, w3, hcs, x3⟩
  have hle := congrArg List.length hcs
  rw [List.length_append] at hle
  refine cond_dec (fun hlt => ?_) (fun hge => ?_)
  · have hi7 : i < 7 := by omega
    have c3 := x3.mod.get _ _ o2 c2
    have hstep : cntL (fun i => (x.f i).toNat) (7 - i) i = enc (x.f i).toNat ++ cntL (fun i => (x.f i).toNat) (7 - (i + 1)) (i + 1) := by
      rw [show 7 - i = 7 - (i + 1) + 1 from by omega]; rfl
    refine ⟨by omega, by omega, x.f i, cell_of c3 (cnt7 hi7), ?_⟩
    have hfi := hf i
    unfold NatI at hfi
    rw [show x.f i = (((x.f i).toNat : Nat) : Int) from by omega]
    refine (yw_count x3.mod.ok w3 (by omega) (by rw [List.length_append]; omega)).mono ?_
    rintro _ H4 ⟨rfl, w4, x4⟩
    refine ⟨rfl, ?_⟩
    intro t33 e33
    rw [wrap_i64 (by omega) (by omega)] at e33
    subst e33
    refine ⟨7 - (i + 1), by omega, i + 1, cs ++ enc (x.f i).toNat, by simp, by omega, rfl, ?_, ?_, x3.trans g02.ok x4⟩
    · rw [← List.append_assoc]; exact w4
    · rw [List.append_assoc, ← hstep]; exact hcs
  · have hi7 : i = 7 := by omega
    subst hi7
    have hc : cs = cntL (fun i => (x.f i).toNat) 7 0 := by rw [← hcs]; simp [cntL]
    subst hc
    have b3 := x3.mod.get _ _ o1 b2
    have x03 := x0.trans ok x3
    refine ⟨_, _, _, cell_of b3 rfl, _, _, _, cell_of b3 rfl, ?_⟩
    intro H5 e5
    obtain ⟨g5, c5, n5⟩ := new_job x3.mod.ok e5
    have w5 := w3.grow g5
    have x5 := x03.trans ok (WrX.grow x3.mod.ok w3 g5)
    have F5 := x5.keep hF
    have o1' : ¬ WrS H5 b H.next := fun k => (x3.off o1 (by omega)) (w3.old g5 k)
    have o5 : ¬ WrS H5 b H3.next := w3.new x3.mod.ok g5 (Nat.le_refl _)
    have b5 := g5.get _ _ id b3
    have S5 : ∀ i, i < 2 → SlI F H5 (s2 i).1 (s2 i).2.1 (x.L i) := fun i hi => (hS i hi).mod loc_int x5.mod fun y hy => (hF y hy).2
    refine ⟨fun m t Hb => ∃ (i : Nat), t = i ∧ i ≤ 2 ∧ m = 2 - i ∧ Wr Hb n0 b (bs ++ cntL (fun i => (x.f i).toNat) 7 0 ++ natsU x.L i) ∧ WrX H5 b Hb, ⟨_, 0, rfl, by omega, rfl, by simpa [natsU] using w5, WrX.grow g5.ok w5 (.refl g5.ok)⟩, ?_⟩
    rintro m t40 H6 ⟨i, rfl, hi, rfl, w6, x6⟩
    refine cond_dec (fun hlt => ?_) (fun hge => ?_)
    · have hi2 : i < 2 := by omega
      have c6 := x6.mod.get _ _ o5 c5
      have hu : (natsU x.L i).length ≤ 340 := by
        rcases two hi2 with rfl | rfl
        · simp [natsU]
        · rw [natsU_succ]; simp [natsU]; omega
      have S6 := (S5 i hi2).mod loc_int x6.mod fun y hy => (F5 y hy).2
      obtain ⟨hl16, hnat⟩ := hL i hi2
      have hlen := S6.len
      refine ⟨by omega, by omega, (s2 i).1, (s2 i).2.1, (s2 i).2.2, ?_, ?_⟩
      · refine cell_of c6 ?_
        rcases two hi2 with rfl | rfl <;> rfl
      refine (yw_count x6.mod.ok w6 (n := (s2 i).2.1) (by omega) (by simp only [List.length_append]; omega)).mono ?_
      rintro _ H7 ⟨rfl, w7, x7⟩
      have k1 := enc_len64 (n := (s2 i).2.1) (by omega)
      refine ⟨rfl, ?_⟩
      refine ⟨fun m t Hb => ∃ (q : Nat), t = q ∧ q ≤ (x.L i).length ∧ m = (x.L i).length - q ∧ Wr Hb n0 b (bs ++ cntL (fun i => (x.f i).toNat) 7 0 ++ natsU x.L i ++ enc (s2 i).2.1 ++ ((x.L i).take q).flatMap fun y => enc y.toNat) ∧ WrX H5 b Hb, ⟨_, 0, rfl, by omega, rfl, by simpa using w7, x6.trans g5.ok x7⟩, ?_⟩
      rintro m t50 H8 ⟨q, rfl, hq, rfl, w8, x8⟩
      refine cond_dec (fun hlt2 => ?_) (fun hge2 => ?_)
      · have hq2 : q < (x.L i).length := by omega
        have S8 := (S5 i hi2).mod loc_int x8.mod fun y hy => (F5 y hy).2
        obtain ⟨k2, k3⟩ := S8.nth hq2
        have hn := hnat _ (List.getElem_mem hq2)
        have hn' := hn
        unfold NatI at hn'
        have htl := nats_len (es := (x.L i).take q) fun e he => hnat e (List.mem_of_mem_take he)
        rw [List.length_take] at htl
        refine grd_intro k2 ⟨by omega, by omega, (x.L i)[q], by rw [Int.toNat_natCast]; exact k3, ?_⟩
        rw [show (x.L i)[q] = (((x.L i)[q].toNat : Nat) : Int) from by omega]
        refine (yw_count x8.mod.ok w8 (by omega) (by simp only [List.length_append]; omega)).mono ?_
        rintro _ H9 ⟨rfl, w9, x9⟩
        refine ⟨rfl, ?_⟩
        intro t57 e57
        rw [wrap_i64 (by omega) (by omega)] at e57
        subst e57
        refine ⟨(x.L i).length - (q + 1), by omega, q + 1, by simp, by omega, rfl, ?_, x8.trans g5.ok x9⟩
        rw [List.take_succ_eq_append_getElem hq2, List.flatMap_append, ← List.append_assoc]
        simpa using w9
      · have hq2 : q = (x.L i).length := by omega
        subst hq2
        intro t58 e58
        rw [wrap_i64 (by omega) (by omega)] at e58
        subst e58
        refine ⟨2 - (i + 1), by omega, i + 1, by simp, by omega, rfl, ?_, x8⟩
        rw [natsU_succ, natsB, ← hlen]
        rw [List.take_length] at w8
        simpa only [List.append_assoc] using w8
    · have hi2 : i = 2 := by omega
      subst hi2
      have hu : natsU x.L 2 = natsB (x.L 0) ++ natsB (x.L 1) := by
        rw [natsU_succ, natsU_succ]; simp [natsU]
      rw [hu] at w6
      have b6 := x6.mod.get _ _ o1' b5
      refine ⟨_, cell_of b6 rfl, (yw_bool x6.mod.ok w6 (by simp only [List.length_append]; omega)).mono ?_⟩
      rintro _ H10 ⟨rfl, w10, x10⟩
      have k1 := enc_len64 (n := cond x.k 1 0) (by cases x.k <;> simp)
      have x510 := x6.trans g5.ok x10
      have b10 := x510.mod.get _ _ o1' b5
      refine ⟨rfl, _, _, _, _, _, _, _, _, _, _, cell_of b10 rfl, cell_of b10 rfl, cell_of b10 rfl, cell_of b10 rfl, cell_of b10 rfl, cell_of b10 rfl, cell_of b10 rfl, cell_of b10 rfl, cell_of b10 rfl, cell_of b10 rfl, (putagg_ok (h := x.h) hv x10.mod.ok w10 (by simp only [List.length_append]; omega)).mono ?_⟩
      rintro _ H11 ⟨rfl, w11, x11⟩
      have x511 := x510.trans g5.ok x11
      have x011 := x5.trans ok x511
      have b11 := x511.mod.get _ _ o1' b5
      refine ⟨rfl, _, _, _, _, _, _, _, _, _, _, cell_of b11 rfl, cell_of b11 rfl, cell_of b11 rfl, cell_of b11 rfl, cell_of b11 rfl, cell_of b11 rfl, (putjob_ok (j := x.j) x11.mod.ok w11 (hG.mod loc_vtx x011.mod fun y hy => (hFg y hy).2) (x011.keep hFg) (hP.mod loc_int x011.mod fun y hy => (hFp y hy).2) (x011.keep hFp) hI hpl (by unfold aggB; simp only [List.length_append]; omega)).mono ?_⟩
      rintro _ H12 ⟨rfl, w12, x12⟩
      refine ⟨rfl, rfl, ?_, x011.trans ok x12⟩
      unfold taskB
      simpa only [List.append_assoc] using w12
end
end Go.Proofs.Cx

namespace Go.Proofs.Cx
open Go Go.Ev
section
variable {H : AH} {b : Nat} {s bs t : List UInt8} {p : Nat}
theorem tk_task {x : TaskW} (hf : ∀ i, NatI (x.f i)) (hv : ∀ i, I64 (x.v i)) (hn : ∀ i, i < 5 → x.h i = false → x.v i = 0) (hL : ∀ i, i < 2 → (x.L i).length ≤ 16 ∧ ∀ e ∈ x.L i, NatI e) (hI : JobI x.j) (hpl : x.j.prog.length ≤ 1000) (hc : jchk x.j = 0)
    (ok : Ok H) (hr : Rd H b s p 0) (hp : p ≤ s.length) (hs : s.length ≤ 4611686018427387904) (hd : s.drop p = taskB x ++ t) :
    FW Ee F_master_TakeTask [.pointer (some ⟨b, 0, none⟩)] H fun r H' => ∃ s2 a l c pa pl pc, r = .agg ⟨tskC x.f s2 x.j a l c pa pl pc x.h x.v x.k⟩ ∧ (∀ i, i < 2 → SlI (fun y => H.next ≤ y ∧ y < H'.next) H' (s2 i).1 (s2 i).2.1 (x.L i)) ∧ SlV (fun y => H.next ≤ y ∧ y < H'.next) H' a l x.j.graph ∧ SlI (fun y => H.next ≤ y ∧ y < H'.next) H' pa pl x.j.params ∧
      Rd H' b s (p + (taskB x).length) 0 ∧ s.drop (p + (taskB x).length) = t ∧ Mod (· = b) H H' := by
  have hbl := ok.lt hr
  have hgraph := (jchk_zero hc).2.1
  obtain ⟨R, hR⟩ : ∃ R, R = natsB (x.L 0) ++ (natsB (x.L 1) ++ (enc (cond x.k 1 0) ++ (aggB x.h x.v ++ (jobB x.j ++ t)))) := ⟨_, rfl⟩
  have hlB : (taskB x).length = (cntL (fun i => (x.f i).toNat) 7 0).length + ((natsB (x.L 0)).length + ((natsB (x.L 1)).length + ((enc (cond x.k 1 0)).length + ((aggB x.h x.v).length + (jobB x.j).length)))) := by unfold taskB; simp only [List.length_append]
  have hd : s.drop p = cntL (fun i => (x.f i).toNat) 7 0 ++ R := by rw [hd, hR]; unfold taskB; simp only [List.append_assoc]
  refine fw_master_TakeTask ?_
  intro H1 e1 H2 e2 H3 e3
  obtain ⟨g1, z1, n1⟩ := new_job ok e1
  obtain ⟨g2, x2, n2⟩ := new_job g1.ok e2
  obtain ⟨g3, q3, n3⟩ := new_job g2.ok e3
  have g03 := (g1.trans g2).trans g3
  have z3 := g3.get _ _ id (g2.get _ _ id z1)
  have x3 : H3.get H1.next = some (.cells (tR x.f 0 fun _ => nil3) 0) := by
    have e : (tR x.f 0 fun _ => nil3) = [.int .i64 0, .int .i64 0, .int .i64 0, .int .i64 0, .slice none 0 0, .slice none 0 0, .string ⟨⟨[]⟩⟩, .slice none 0 0, .slice none 0 0, .int .i64 0, .int .i64 0, .int .i64 0, .bool false, .bool false, .bool false, .bool false, .bool false, .int .i64 0, .int .i64 0, .int .i64 0, .int .i64 0, .int .i64 0, .int .i64 0, .int .i64 0, .int .i64 0, .bool false] := by simp [tR, tskC, upTo, sv, nil3, zjw]
    rw [e]
    exact g3.get _ _ id x2
  obtain ⟨zc, hzc⟩ : ∃ zc : List Value, zc = [.int .i64 0, .int .i64 0, .int .i64 0, .int .i64 0, .slice none 0 0, .slice none 0 0, .string ⟨⟨[]⟩⟩, .slice none 0 0, .slice none 0 0, .int .i64 0, .int .i64 0, .int .i64 0, .bool false, .bool false, .bool false, .bool false, .bool false, .int .i64 0, .int .i64 0, .int .i64 0, .int .i64 0, .int .i64 0, .int .i64 0, .int .i64 0, .int .i64 0, .bool false] := ⟨_, rfl⟩
  have hzl : zc.length = 26 := by rw [hzc]; rfl
  rw [← hzc] at z3
  clear hzc
  refine ⟨fun m t18 Hb => ∃ (i p' : Nat), t18 = i ∧ i ≤ 7 ∧ m = 7 - i ∧ Rd Hb b s p' 0 ∧ p' ≤ s.length ∧ s.drop p' = cntL (fun i => (x.f i).toNat) (7 - i) i ++ R ∧ p' + (cntL (fun i => (x.f i).toNat) (7 - i) i).length = p + (cntL (fun i => (x.f i).toNat) 7 0).length ∧ Hb.get H1.next = some (.cells (tR x.f i fun _ => nil3) 0) ∧
      Hb.get H2.next = some (.cells [.pointer (some ⟨H1.next, 0, none⟩), .pointer (some ⟨H1.next, 1, none⟩), .pointer (some ⟨H1.next, 2, none⟩), .pointer (some ⟨H1.next, 3, none⟩), .pointer (some ⟨H1.next, 22, none⟩), .pointer (some ⟨H1.next, 23, none⟩), .pointer (some ⟨H1.next, 24, none⟩)] 0) ∧
      Hb.get H.next = some (.cells zc 0) ∧ Mod (· = b) H Hb ∧ H3.next ≤ Hb.next,
    ⟨_, 0, p, rfl, by omega, rfl, hr.mod g03 id, hp, hd, rfl, x3, q3, z3, g03.le (fun _ h _ => h.elim) ok, Nat.le_refl _⟩, ?_⟩
  rintro m t18 H4 ⟨i, p', rfl, hi, rfl, r4, hp4, hd4, hl4, x4, q4, z4, m4, n4⟩
  refine cond_dec (fun hlt => ?_) (fun hge => ?_)
  · have hi7 : i < 7 := by omega
    have hfi := hf i
    unfold NatI at hfi
    have hstep : cntL (fun i => (x.f i).toNat) (7 - i) i = enc (x.f i).toNat ++ cntL (fun i => (x.f i).toNat) (7 - (i + 1)) (i + 1) := by
      rw [show 7 - i = 7 - (i + 1) + 1 from by omega]; rfl
    rw [hstep, List.append_assoc] at hd4
    rw [hstep, List.length_append] at hl4
    refine ⟨by omega, by omega, _, tptr_cell hi7 q4, (tk_cnt (m := 2147483647) (show (x.f i).toNat ≤ 2147483647 by omega) (by omega) m4.ok r4 hp4 hs hd4).mono ?_⟩
    rintro _ H5 ⟨rfl, r5, hd5, m5⟩
    have n5 := m5.next
    have x5 := m5.get _ _ (show ¬ H1.next = b by omega) x4
    have q5 := m5.get _ _ (show ¬ H2.next = b by omega) q4
    have z5 := m5.get _ _ (show ¬ H.next = b by omega) z4
    have hp5 := drop_le hd4 (enc_len_pos _)
    rw [show (((x.f i).toNat : Nat) : Int) = x.f i from by omega]
    obtain ⟨k0, H6, k1, k2, k4, k5⟩ := task_store m5.ok hi7 x5
    refine ⟨_, rfl, grd_intro k0 (grd_intro k0 ⟨H6, k1, ?_⟩)⟩
    intro t26 e26
    rw [wrap_i64 (by omega) (by omega)] at e26
    subst e26
    exact ⟨7 - (i + 1), by omega, i + 1, _, by simp, by omega, rfl, r5.mod k4 (by omega), hp5, hd5, by omega, k2, k4.get _ _ (by omega) q5, k4.get _ _ (by omega) z5, (m4.trans m5).ext k4 ok fun x hx => .inr (by omega), by omega⟩
  · have hi7 : i = 7 := by omega
    subst hi7
    have hd4 : s.drop p' = R := by simpa [cntL] using hd4
    have hl4 : p' = p + (cntL (fun i => (x.f i).toNat) 7 0).length := by simpa [cntL] using hl4
    rw [hR] at hd4
    clear hR hd
    intro H7 e7
    obtain ⟨g7, q7, n7⟩ := new_job m4.ok e7
    have x7 := g7.get _ _ id x4
    have z7 := g7.get _ _ id z4
    have r7 : Rd H7 b s p' 0 := g7.get _ _ id r4
    have m7 := m4.add g7
    have tl : ∀ i, i < 2 → ∃ U, natsB (x.L i) ++ U = (if i = 0 then natsB (x.L 0) ++ (natsB (x.L 1) ++ (enc (cond x.k 1 0) ++ (aggB x.h x.v ++ (jobB x.j ++ t)))) else natsB (x.L 1) ++ (enc (cond x.k 1 0) ++ (aggB x.h x.v ++ (jobB x.j ++ t)))) ∧ U = (if i + 1 = 1 then natsB (x.L 1) ++ (enc (cond x.k 1 0) ++ (aggB x.h x.v ++ (jobB x.j ++ t))) else enc (cond x.k 1 0) ++ (aggB x.h x.v ++ (jobB x.j ++ t))) := by
      intro i hi
      rcases two hi with rfl | rfl
      · exact ⟨_, rfl, rfl⟩
      · exact ⟨_, rfl, rfl⟩
    obtain ⟨U, hU⟩ : ∃ U : Nat → List UInt8, U = fun i => if i = 0 then natsB (x.L 0) ++ (natsB (x.L 1) ++ (enc (cond x.k 1 0) ++ (aggB x.h x.v ++ (jobB x.j ++ t)))) else if i = 1 then natsB (x.L 1) ++ (enc (cond x.k 1 0) ++ (aggB x.h x.v ++ (jobB x.j ++ t))) else enc (cond x.k 1 0) ++ (aggB x.h x.v ++ (jobB x.j ++ t)) := ⟨_, rfl⟩
    have U0 : U 0 = natsB (x.L 0) ++ (natsB (x.L 1) ++ (enc (cond x.k 1 0) ++ (aggB x.h x.v ++ (jobB x.j ++ t)))) := by rw [hU]; rfl
    have U1 : U 1 = natsB (x.L 1) ++ (enc (cond x.k 1 0) ++ (aggB x.h x.v ++ (jobB x.j ++ t))) := by rw [hU]; rfl
    have U2 : U 2 = enc (cond x.k 1 0) ++ (aggB x.h x.v ++ (jobB x.j ++ t)) := by rw [hU]; rfl
    have Us : ∀ i, i < 2 → U i = natsB (x.L i) ++ U (i + 1) := by
      intro i hi
      rcases two hi with rfl | rfl
      · rw [U0, U1]
      · rw [U1, U2]
    clear hU tl
    have hd7 : s.drop p' = U 0 := by rw [U0]; exact hd4
    refine ⟨fun m t31 Hb => ∃ (i p2 : Nat) (s2 : Nat → Sl3), t31 = i ∧ i ≤ 2 ∧ m = 2 - i ∧ Rd Hb b s p2 0 ∧ p2 ≤ s.length ∧ s.drop p2 = U i ∧ p2 = p' + (natsU x.L i).length ∧ Hb.get H1.next = some (.cells (tR x.f 7 s2) 0) ∧ (∀ k, k < 2 → SlI (fun y => H7.next ≤ y ∧ y < Hb.next) Hb (s2 k).1 (s2 k).2.1 (upTo [] x.L i k)) ∧ (∀ k, i ≤ k → s2 k = nil3) ∧
        Hb.get H4.next = some (.cells [.pointer (some ⟨H1.next, 4, none⟩), .pointer (some ⟨H1.next, 5, none⟩)] 0) ∧ Hb.get H.next = some (.cells zc 0) ∧ Mod (· = b) H Hb ∧ H7.next ≤ Hb.next,
      ⟨_, 0, p', fun _ => nil3, rfl, by omega, rfl, r7, hp4, hd7, by simp [natsU], x7, fun k hk => by rw [upTo_ge (by omega)]; exact ⟨rfl, fun h => absurd h (Nat.lt_irrefl 0), fun i hi => absurd hi (Nat.not_lt_zero i)⟩, fun _ _ => rfl, q7, z7, m7, Nat.le_refl _⟩, ?_⟩
    rintro m t31 H8 ⟨i, p2, s2, rfl, hi, rfl, r8, hp8, hd8, hl8, x8, S8, hnil, q8, z8, m8, n8⟩
    refine cond_dec (fun hlt => ?_) (fun hge => ?_)
    · have hi2 : i < 2 := by omega
      obtain ⟨hl16, hnat⟩ := hL i hi2
      rw [Us i hi2, natsB, List.append_assoc] at hd8
      refine ⟨by omega, by omega, some ⟨H1.next, 4 + i, none⟩, ?_, (tk_cnt (m := 16) hl16 (by omega) m8.ok r8 hp8 hs hd8).mono ?_⟩
      · refine cell_of q8 ?_
        rcases two hi2 with rfl | rfl <;> rfl
      rintro _ H9 ⟨rfl, r9, hd9, m9⟩
      have hp9 := drop_le hd8 (enc_len_pos _)
      have n9 := m9.next
      have x9 := m9.get _ _ (show ¬ H1.next = b by omega) x8
      have q9 := m9.get _ _ (show ¬ H4.next = b by omega) q8
      have z9 := m9.get _ _ (show ¬ H.next = b by omega) z8
      have S9 : ∀ k, k < 2 → SlI (fun y => H7.next ≤ y ∧ y < H8.next) H9 (s2 k).1 (s2 k).2.1 (upTo [] x.L i k) := fun k hk => (S8 k hk).mod loc_int m9 fun y hy e => by omega
      have hsi : s2 i = nil3 := hnil i (Nat.le_refl _)
      refine ⟨_, rfl, ?_⟩
      refine ⟨fun m n8 Hb => ∃ (j p3 : Nat) (a : Option Addr) (l c : Nat), n8 = (((x.L i).length - j : Nat) : Int) ∧ j ≤ (x.L i).length ∧ m = (x.L i).length - j ∧ Rd Hb b s p3 0 ∧ p3 ≤ s.length ∧ s.drop p3 = ((x.L i).drop j).flatMap (fun y => enc y.toNat) ++ U (i + 1) ∧ p3 + (((x.L i).drop j).flatMap fun y => enc y.toNat).length = p' + (natsU x.L (i + 1)).length ∧
          Hb.get H1.next = some (.cells (tR x.f 7 (upd s2 i (a, l, c))) 0) ∧ Own Hb 1 a l c (((x.L i).take j).flatMap intC) ∧ (∀ y, a = some y → H8.next ≤ y.block) ∧ (∀ k, k < 2 → SlI (fun y => H7.next ≤ y ∧ y < H8.next) Hb (s2 k).1 (s2 k).2.1 (upTo [] x.L i k)) ∧
          Hb.get H4.next = some (.cells [.pointer (some ⟨H1.next, 4, none⟩), .pointer (some ⟨H1.next, 5, none⟩)] 0) ∧ Hb.get H.next = some (.cells zc 0) ∧ Mod (· = b) H Hb ∧ H9.next ≤ Hb.next,
        ⟨_, 0, _, none, 0, 0, by simp, by omega, rfl, r9, hp9, by simpa using hd9, ?_, ?_, Own.nil _ _, fun y e => (by cases e), S9, q9, z9, m8.trans m9, Nat.le_refl _⟩, ?_⟩
      · rw [natsU_succ, List.length_append, natsB, List.length_append, List.drop_zero]; omega
      · have : upd s2 i (none, 0, 0) = s2 := upd_self hsi
        rw [this]; exact x9
      rintro m n8' H10 ⟨j, p3, a, l, c, rfl, hj, rfl, r10, hp10, hd10, hl10, x10, hO, hfar, S10, q10, z10, m10, n10⟩
      have hll : l = j := by
        have := own_sli_len hO
        rw [List.length_take] at this
        omega
      refine cond_dec (fun hpos => ?_) (fun hz => ?_)
      · have hjl : j < (x.L i).length := by omega
        have hn := hnat _ (List.getElem_mem hjl)
        have hn' := hn
        unfold NatI at hn'
        refine (rerr_ok r10).mono ?_
        rintro _ _ ⟨rfl, rfl⟩
        rw [List.drop_eq_getElem_cons hjl, List.flatMap_cons, List.append_assoc] at hd10
        rw [List.drop_eq_getElem_cons hjl, List.flatMap_cons, List.length_append] at hl10
        refine ⟨_, rfl, cond_pos rfl (grd_intro rfl (grd_intro rfl ?_))⟩
        have hcell : (tR x.f 7 (upd s2 i (a, l, c)))[4 + i]? = some (.slice a l c) := by rw [tR_get hi2, upd_same]; rfl
        refine ⟨a, l, c, cell_of x10 hcell, (tk_cnt (m := 2147483647) (show (x.L i)[j].toNat ≤ 2147483647 by omega) (by omega) m10.ok r10 hp10 hs hd10).mono ?_⟩
        rintro _ H12 ⟨rfl, r12, hd12, m12⟩
        have hp12 := drop_le hd10 (enc_len_pos _)
        have n12 := m12.next
        refine ⟨_, rfl, ?_⟩
        intro H13 e13
        rw [show (((x.L i)[j].toNat : Nat) : Int) = (x.L i)[j] from by omega] at e13
        have g13 : Grow H12 H13 := e13 ▸ Grow.new m12.ok _
        have n13 : H13.next = H12.next + 1 := by rw [e13]; rfl
        obtain ⟨H14, k1, k2, k3, k4⟩ := ((hO.mod m12 fun x hx y ey e => by have := hfar y ey; omega).mod g13 fun _ h => h.elim).append (n := 1) (bytes := 8) (new := [.int .i64 (x.L i)[j]]) (x := .slice (some ⟨H12.next, 0, none⟩) 1 2) g13.ok rfl (takev_new e13 rfl) (by omega) rfl rfl (by omega) (by omega)
        have lowS : ∀ {y : Nat}, y < H8.next → ¬ (¬ Off a y) := fun hx h => h fun z ez e => by have := hfar z ez; omega
        have x13 := g13.get _ _ id (m12.get _ _ (show ¬ H1.next = b by omega) x10)
        have x14 := k4.get _ _ (lowS (by omega)) x13
        have st := store_of (o := 4 + i) (vs := [sv (some ⟨H13.next, 0, none⟩, l + 1, 2 * (l + 1) + 1)]) x14 (by rw [tR_len]; simp; omega) rfl
        rw [tR_set hi2, upd_upd] at st
        have mS := Mod.set k4.ok x14 (.cells (tR x.f 7 (upd s2 i (some ⟨H13.next, 0, none⟩, l + 1, 2 * (l + 1) + 1))) 0)
        refine ⟨_, _, _, H14, k1, grd_intro rfl (grd_intro rfl ⟨_, st, grd_intro rfl ⟨cell_of x13 hcell, ?_⟩⟩)⟩
        have m1213 := m12.add g13
        have q14 := k4.get _ _ (lowS (by omega)) (m1213.get _ _ (show ¬ H4.next = b by omega) q10)
        have z14 := k4.get _ _ (lowS (by omega)) (m1213.get _ _ (show ¬ H.next = b by omega) z10)
        have r14 := k4.get _ _ (lowS (show b < H8.next by omega)) (g13.get _ _ id r12)
        intro t45 e45
        rw [wrap_i64 (by omega) (by omega)] at e45
        subst e45
        refine ⟨(x.L i).length - (j + 1), by omega, j + 1, _, _, _, _, by omega, by omega, rfl, mS.get _ _ (by omega) r14, hp12, hd12, by omega, get_set_self _ _ _, ?_, ?_, ?_, mS.get _ _ (by omega) q14, mS.get _ _ (by omega) z14, ?_, ?_⟩
        · rw [List.take_succ_eq_append_getElem hjl, List.flatMap_append]
          refine Own.mod (S := (· = H1.next)) ?_ mS fun y hy z ez e => ?_
          · simpa [intC] using k2
          · cases ez; simp only at e; omega
        · intro y ey
          cases ey; simp only; omega
        · intro k hk
          exact (((S10 k hk).mod loc_int m1213 fun y hy e => by omega).mod loc_int k4 fun y hy h => lowS (by omega) h).mod loc_int mS fun y hy e => by omega
        · refine ((m10.trans m1213).ext k4 ok fun y hy => .inr ?_).ext mS ok fun y hy => .inr (by omega)
          obtain ⟨z, ez, rfl⟩ := off_not hy
          have := hfar z ez
          omega
        · show H9.next ≤ H14.next
          omega
      · have hjl : j = (x.L i).length := by omega
        subst hjl
        rw [List.take_length] at hO
        rw [List.drop_length] at hd10 hl10
        intro t55 e55
        rw [wrap_i64 (by omega) (by omega)] at e55
        subst e55
        refine ⟨2 - (i + 1), by omega, i + 1, p3, _, by simp, by omega, rfl, r10, hp10, by simpa using hd10, by simpa using hl10, x10, ?_, ?_, q10, z10, m10, by omega⟩
        · intro k hk
          by_cases e : k = i
          · subst e
            rw [upd_same, upTo_lt (by omega)]
            exact own_sli hO fun y ey => ⟨by have := hfar y ey; omega, own_lt hO m10.ok ey⟩
          · rw [upd_ne e]
            have e2 : upTo [] x.L (i + 1) k = upTo [] x.L i k := by
              unfold upTo
              by_cases h1 : k < i
              · rw [if_pos h1, if_pos (by omega)]
              · rw [if_neg h1, if_neg (by omega)]
            rw [e2]
            exact (S10 k hk).weak (fun y hy _ => ⟨hy.1, by omega⟩) (int_lt m10.ok)
        · intro k hk
          rw [upd_ne (by omega)]; exact hnil k (by omega)
    · have hi2 : i = 2 := by omega
      subst hi2
      rw [U2] at hd8
      refine (tk_bool (x := x.k) m8.ok r8 hp8 hs hd8).mono ?_
      rintro _ H16 ⟨rfl, r16, hd16, m16⟩
      have hp16 := drop_le hd8 (enc_len_pos _)
      have n16 := m16.next
      refine ⟨_, rfl, (tk_agg hv hn m16.ok r16 hp16 hs hd16).mono ?_⟩
      rintro _ H17 ⟨rfl, r17, hd17, m17⟩
      have n17 := m17.next
      have m817 := m16.trans m17
      have hp17 : p2 + (enc (cond x.k 1 0)).length + (aggB x.h x.v).length ≤ s.length := by
        refine drop_le hd16 ?_
        unfold aggB aggL
        rw [List.length_append]
        have : 0 < (stepB x.h x.v 0).length := by
          unfold stepB
          cases x.h 0
          · exact enc_len_pos _
          · simp only [cond_true, List.length_append]
            have := enc_len_pos 1
            omega
        omega
      have x17 := m817.get _ _ (show ¬ H1.next = b by omega) x8
      have z17 := m817.get _ _ (show ¬ H.next = b by omega) z8
      -- what was read is put
      have st18 := store_of (o := 25) (vs := [.bool x.k]) x17 (by rw [tR_len]; simp) rfl
      have ms18 := Mod.set m17.ok x17 (.cells (lset (tR x.f 7 s2) 25 [.bool x.k]) 0)
      obtain ⟨H18, h18⟩ : ∃ y, y = H17.set H1.next (.cells (lset (tR x.f 7 s2) 25 [.bool x.k]) 0) := ⟨_, rfl⟩
      have x18 : H18.get H1.next = some (.cells (tskC x.f s2 zjw none 0 0 none 0 0 (fun _ => false) (fun _ => 0) x.k) 0) := by
        rw [h18, get_set_self]; rfl
      have n18 : H18.next = H17.next := by rw [h18]; rfl
      rw [← h18] at st18 ms18
      clear h18
      have st19 := store_of (o := 12) (vs := aC x.h x.v) x18 (by simp [tskC, aC]) rfl
      have ms19 := Mod.set ms18.ok x18 (.cells (lset (tskC x.f s2 zjw none 0 0 none 0 0 (fun _ => false) (fun _ => 0) x.k) 12 (aC x.h x.v)) 0)
      obtain ⟨H19, h19⟩ : ∃ y, y = H18.set H1.next (.cells (lset (tskC x.f s2 zjw none 0 0 none 0 0 (fun _ => false) (fun _ => 0) x.k) 12 (aC x.h x.v)) 0) := ⟨_, rfl⟩
      have x19 : H19.get H1.next = some (.cells (tskC x.f s2 zjw none 0 0 none 0 0 x.h x.v x.k) 0) := by
        rw [h19, get_set_self]; rfl
      have n19 : H19.next = H18.next := by rw [h19]; rfl
      rw [← h19] at st19 ms19
      clear h19
      have m1719 := ms18.trans ms19
      have r19 : Rd H19 b s (p2 + (enc (cond x.k 1 0)).length + (aggB x.h x.v).length) 0 := m1719.get _ _ (by omega) r17
      have z19 := m1719.get _ _ (show ¬ H.next = H1.next by omega) z17
      have hj := rt_job (s := s) hI (by omega) hgraph hc (p2 + (enc (cond x.k 1 0)).length + (aggB x.h x.v).length) t hd17
      refine ⟨_, _, _, _, _, _, _, _, _, _, rfl, H18, st18, H19, st19, (xjob_ok (q := (p2 + (enc (cond x.k 1 0)).length + (aggB x.h x.v).length, 0)) ms19.ok r19 hp17 hs).mono ?_⟩
      rw [hj.1]
      rintro _ H20 ⟨a, l, c, pa, pl, pc, rfl, G20, P20, r20, m20⟩
      have n20 := m20.next
      have x20 := m20.get _ _ (show ¬ H1.next = b by omega) x19
      have z20 := m20.get _ _ (show ¬ H.next = b by omega) z19
      have st21 := store_of (o := 6) (vs := jC x.j a l c pa pl pc) x20 (by simp [tskC, jC]) rfl
      have ms21 := Mod.set m20.ok x20 (.cells (lset (tskC x.f s2 zjw none 0 0 none 0 0 x.h x.v x.k) 6 (jC x.j a l c pa pl pc)) 0)
      obtain ⟨H21, h21⟩ : ∃ y, y = H20.set H1.next (.cells (lset (tskC x.f s2 zjw none 0 0 none 0 0 x.h x.v x.k) 6 (jC x.j a l c pa pl pc)) 0) := ⟨_, rfl⟩
      have x21 : H21.get H1.next = some (.cells (tskC x.f s2 x.j a l c pa pl pc x.h x.v x.k) 0) := by
        rw [h21, get_set_self]; rfl
      have n21 : H21.next = H20.next := by rw [h21]; rfl
      rw [← h21] at st21 ms21
      clear h21
      have z21 := ms21.get _ _ (show ¬ H.next = H1.next by omega) z20
      refine ⟨_, _, _, _, _, _, _, _, _, _, rfl, H21, st21, ?_⟩
      have hlen : p + (taskB x).length = p2 + (enc (cond x.k 1 0)).length + (aggB x.h x.v).length + (jobB x.j).length := by
        have : (natsU x.L 2).length = (natsB (x.L 0)).length + (natsB (x.L 1)).length := by
          rw [natsU_succ, natsU_succ]; simp [natsU]
        omega
      refine ret_task (Q := fun r H' => ∃ s2 a l c pa pl pc, r = .agg ⟨tskC x.f s2 x.j a l c pa pl pc x.h x.v x.k⟩ ∧ (∀ i, i < 2 → SlI (fun y => H.next ≤ y ∧ y < H'.next) H' (s2 i).1 (s2 i).2.1 (x.L i)) ∧ SlV (fun y => H.next ≤ y ∧ y < H'.next) H' a l x.j.graph ∧ SlI (fun y => H.next ≤ y ∧ y < H'.next) H' pa pl x.j.params ∧
        Rd H' b s (p + (taskB x).length) 0 ∧ s.drop (p + (taskB x).length) = t ∧ Mod (· = b) H H') ms21.ok x21 z21 hzl fun Hx mx => ⟨s2, a, l, c, pa, pl, pc, rfl, ?_, ?_, ?_, ?_, ?_, ?_⟩
      · intro i hi
        have nx := mx.next
        have := S8 i hi
        rw [upTo_lt hi] at this
        exact (((((this.mod loc_int m817 fun y hy e => by omega).mod loc_int m1719 fun y hy e => by omega).mod loc_int m20 fun y hy e => by omega).mod loc_int ms21 fun y hy e => by omega).mod loc_int mx fun y hy e => by omega).weak (fun y hy _ => ⟨by omega, by omega⟩) (int_lt mx.ok)
      · have nx := mx.next
        exact slv_weak mx.ok ((G20.mod loc_vtx ms21 fun y hy e => by omega).mod loc_vtx mx fun y hy e => by omega) fun y hy _ => ⟨by omega, by omega⟩
      · have nx := mx.next
        exact ((P20.mod loc_int ms21 fun y hy e => by omega).mod loc_int mx fun y hy e => by omega).weak (fun y hy _ => ⟨by omega, by omega⟩) (int_lt mx.ok)
      · rw [hlen]
        exact mx.get _ _ (by omega) (ms21.get _ _ (by omega) r20)
      · rw [hlen]; exact hj.2
      · exact ((((m8.trans m817).ext m1719 ok fun y hy => .inr (by omega)).trans m20).ext ms21 ok fun y hy => .inr (by omega)).ext mx ok fun y hy => .inr (by omega)
end
end Go.Proofs.Cx

namespace Go.Ev
open Go
theorem jn {c : Bool} {X : (AH → Prop) → Prop} {E : Int → Prop} {Y : Int → (AH → Prop) → Prop} {R : AH → Prop} (P : AH → Prop) (hX : c = true → X P) (hY : c = false → ∃ t, E t ∧ Y t P) (hR : ∀ H, P H → R H) :
    cond c (∃ J, X J ∧ ∀ H, J H → R H) (∃ t, E t ∧ ∃ J, Y t J ∧ ∀ H, J H → R H) := by
  cases c
  · obtain ⟨t, h1, h2⟩ := hY rfl
    exact ⟨t, h1, P, h2, hR⟩
  · exact ⟨P, hX rfl, hR⟩
theorem slcv_pre {H : AH} {sz l c k : Nat} {x : Addr} (hr : Room l c) (hk : k ≤ l) (h0 : 0 < k) :
    slcv H sz (some x) l c none (some (.int .i64 (k : Int))) none = some (.slice (some ⟨x.block, x.off + 0 * sz, none⟩) k (2 * (c / 2))) := by
  obtain ⟨h1, h2⟩ := hr (by omega)
  unfold slcv
  simp only [boundOf, capN, Option.isSome_none]
  rw [if_pos (by omega)]
  have e1 : Nat.beq (c / 2) 0 = false := by
    cases hq : Nat.beq (c / 2) 0 with
    | false => rfl
    | true => have := Nat.eq_of_beq_eq_true hq; omega
  have e2 : Nat.beq (c % 2) 0 = true := by rw [h1]; rfl
  simp only [Int.toNat_natCast]
  simp only [Nat.ble_eq_true_of_le (show k ≤ c / 2 by omega), cond_true, cutv, e1, cond_false, e2, Bool.false_or, Nat.sub_zero]
theorem Sl.pre {α : Type} {F : Nat → Prop} {H : AH} {sz : Nat} {P : AH → Nat → Nat → α → Prop} {x : Addr} {l k : Nat} {xs : List α} (h : Sl F H sz P (some x) l xs) (hk : k ≤ l) (h0 : 0 < k) : Sl F H sz P (some ⟨x.block, x.off + 0 * sz, none⟩) k (xs.take k) := by
  have hl := h.len
  refine ⟨by rw [List.length_take]; omega, fun _ => ⟨rfl, (h.base (by omega)).2⟩, fun i hi => ?_⟩
  rw [List.length_take] at hi
  rw [List.getElem_take]
  have := h.cells i (by omega)
  simp only [adr] at this ⊢
  rw [show x.off + 0 * sz + i * sz = x.off + i * sz from by omega]
  exact this
def small (j : JobW) : JobW := ⟨j.prog, j.graph.take 30, j.params, if j.steps > 60 then 60 else j.steps, if j.sent > 3000 then 3000 else j.sent, j.parts⟩
def seqB : List Bool → Option Bool
  | [] => some true
  | b :: l => match some b with
    | some true => seqB l
    | r => r
end Go.Ev
namespace Go.Proofs.Cx
open Go Go.Ev
set_option maxRecDepth 100000 in
theorem agg_eql {b0 b1 b2 b3 b4 c0 c1 c2 c3 c4 : Bool} {x0 x1 x2 x3 x4 y0 y1 y2 y3 y4 : Int} :
    binv Ee .eql T_api_Aggregate (.agg ⟨[.bool b0, .bool b1, .bool b2, .bool b3, .bool b4, .int .i64 x0, .int .i64 x1, .int .i64 x2, .int .i64 x3, .int .i64 x4]⟩) (.agg ⟨[.bool c0, .bool c1, .bool c2, .bool c3, .bool c4, .int .i64 y0, .int .i64 y1, .int .i64 y2, .int .i64 y3, .int .i64 y4]⟩)
      = ((match seqB [b0 == c0, b1 == c1, b2 == c2, b3 == c3, b4 == c4] with | some true => (match seqB [x0 == y0, x1 == y1, x2 == y2, x3 == y3, x4 == y4] with | some true => some true | r => r) | r => r).map .bool) := by kernel_rfl
set_option maxRecDepth 100000 in
theorem agg_neq {b0 b1 b2 b3 b4 c0 c1 c2 c3 c4 : Bool} {x0 x1 x2 x3 x4 y0 y1 y2 y3 y4 : Int} :
    binv Ee .neq T_api_Aggregate (.agg ⟨[.bool b0, .bool b1, .bool b2, .bool b3, .bool b4, .int .i64 x0, .int .i64 x1, .int .i64 x2, .int .i64 x3, .int .i64 x4]⟩) (.agg ⟨[.bool c0, .bool c1, .bool c2, .bool c3, .bool c4, .int .i64 y0, .int .i64 y1, .int .i64 y2, .int .i64 y3, .int .i64 y4]⟩)
      = ((match seqB [b0 == c0, b1 == c1, b2 == c2, b3 == c3, b4 == c4] with | some true => (match seqB [x0 == y0, x1 == y1, x2 == y2, x3 == y3, x4 == y4] with | some true => some true | r => r) | r => r).map fun b => .bool (!b)) := by kernel_rfl
theorem agg_same {h : Nat → Bool} {v : Nat → Int} : binv Ee .eql T_api_Aggregate (.agg ⟨aC h v⟩) (.agg ⟨aC h v⟩) = some (.bool true) ∧ binv Ee .neq T_api_Aggregate (.agg ⟨aC h v⟩) (.agg ⟨aC h v⟩) = some (.bool false) := by
  refine ⟨agg_eql.trans ?_, agg_neq.trans ?_⟩ <;> simp [seqB]
theorem small_ok {F : Nat → Prop} {a pa : Option Addr} {l c pl pc : Nat} {j : JobW} {H : AH} (ok : Ok H) (hG : SlV F H a l j.graph) (hr : Room l c) :
    FW Ee F_cohortlaw09_Small [jV j a l c pa pl pc] H fun r H' => ∃ a' l' c', r = jV (small j) a' l' c' pa pl pc ∧ SlV F H' a' l' (small j).graph ∧ Grow H H' := by
  have hlen := hG.len
  have G0 : SlV (fun y => F y ∧ y < H.next) H a l j.graph := slv_weak ok hG fun y hy hlt => ⟨hy, hlt⟩
  refine fw_cohortlaw09_Small ?_
  intro H1 e1 H2 e2
  obtain ⟨g1, b1, n1⟩ := new_job ok e1
  obtain ⟨g2, z2, n2⟩ := new_job g1.ok e2
  have b2 := g2.get _ _ id b1
  have g02 := g1.trans g2
  have G2 := G0.grow loc_vtx g02
  have st : ∀ {Hx : AH} {a' : Option Addr} {l' c' : Nat} {x y : Int} (o : Nat) (v : Value) (cs' : List Value), Hx.get H.next = some (.cells [.string ⟨⟨j.prog⟩⟩, .slice a' l' c', .slice pa pl pc, .int .i64 x, .int .i64 y, .int .i64 j.parts] 0) → Hx.get H1.next = some (.cells zJob 0) → SlV (fun y => F y ∧ y < H.next) Hx a' l' (j.graph.take 30) → Mod (· = H.next) H2 Hx →
      o < 6 → oneCell v = true → lset [.string ⟨⟨j.prog⟩⟩, .slice a' l' c', .slice pa pl pc, .int .i64 x, .int .i64 y, .int .i64 j.parts] o [v] = cs' →
      ∃ Hy, storeCellsv Hx H.next o [v] = some Hy ∧ Hy.get H.next = some (.cells cs' 0) ∧ Hy.get H1.next = some (.cells zJob 0) ∧ SlV (fun y => F y ∧ y < H.next) Hy a' l' (j.graph.take 30) ∧ Mod (· = H.next) H2 Hy := by
    intro Hx a' l' c' x y o v cs' bx zx Gx mx ho hv he
    have m := Mod.set mx.ok bx (.cells cs' 0)
    have s := store_of (o := o) (vs := [v]) bx (by simp; omega) (by simp [hv])
    rw [he] at s
    exact ⟨_, s, get_set_self _ _ _, m.get _ _ (by omega) zx, Gx.mod loc_vtx m fun y hy e => by omega, mx.trans m⟩
  refine ⟨_, _, _, cell_of b2 rfl, ?_⟩
  refine ⟨fun Hx => ∃ a' l' c', Hx.get H.next = some (.cells [.string ⟨⟨j.prog⟩⟩, .slice a' l' c', .slice pa pl pc, .int .i64 j.steps, .int .i64 j.sent, .int .i64 j.parts] 0) ∧ Hx.get H1.next = some (.cells zJob 0) ∧ SlV (fun y => F y ∧ y < H.next) Hx a' l' (j.graph.take 30) ∧ Mod (· = H.next) H2 Hx, cond_dec (fun hgt => ?_) (fun hle => ?_), ?_⟩
  · have hsome : a.isSome = true := (hG.base (by omega)).1
    cases a with
    | none => cases hsome
    | some x =>
      have m := Mod.set g2.ok b2 (.cells [.string ⟨⟨j.prog⟩⟩, .slice (some ⟨x.block, x.off + 0 * 3, none⟩) 30 (2 * (c / 2)), .slice pa pl pc, .int .i64 j.steps, .int .i64 j.sent, .int .i64 j.parts] 0)
      refine ⟨_, _, _, cell_of b2 rfl, _, _, _, slcv_pre hr (k := 30) (by omega) (by omega), _, store_of (o := 1) b2 (by simp) rfl, ?_⟩
      exact ⟨_, _, _, get_set_self _ _ _, m.get _ _ (by omega) z2, (G2.pre (k := 30) (by omega) (by omega)).mod loc_vtx m fun y hy e => by omega, m⟩
  · have ht : j.graph.take 30 = j.graph := List.take_of_length_le (by omega)
    exact ⟨_, _, _, b2, z2, by rw [ht]; exact G2, .refl g2.ok⟩
  rintro H4 ⟨a', l', c', b4, z4, G4, m4⟩
  refine ⟨_, cell_of b4 rfl, ?_⟩
  refine ⟨fun Hx => Hx.get H.next = some (.cells [.string ⟨⟨j.prog⟩⟩, .slice a' l' c', .slice pa pl pc, .int .i64 (small j).steps, .int .i64 j.sent, .int .i64 j.parts] 0) ∧ Hx.get H1.next = some (.cells zJob 0) ∧ SlV (fun y => F y ∧ y < H.next) Hx a' l' (j.graph.take 30) ∧ Mod (· = H.next) H2 Hx, cond_dec (fun h => ?_) (fun h => ?_), ?_⟩
  · exact st 3 (.int .i64 60) _ b4 z4 G4 m4 (by omega) rfl (by simp [small, h, lset])
  · refine ⟨?_, z4, G4, m4⟩
    have : (small j).steps = j.steps := if_neg h
    rw [this]; exact b4
  rintro H6 ⟨b6, z6, G6, m6⟩
  refine ⟨_, cell_of b6 rfl, ?_⟩
  refine ⟨fun Hx => Hx.get H.next = some (.cells [.string ⟨⟨j.prog⟩⟩, .slice a' l' c', .slice pa pl pc, .int .i64 (small j).steps, .int .i64 (small j).sent, .int .i64 j.parts] 0) ∧ Hx.get H1.next = some (.cells zJob 0) ∧ SlV (fun y => F y ∧ y < H.next) Hx a' l' (j.graph.take 30) ∧ Mod (· = H.next) H2 Hx, cond_dec (fun h => ?_) (fun h => ?_), ?_⟩
  · exact st 4 (.int .i64 3000) _ b6 z6 G6 m6 (by omega) rfl (by simp [small, h, lset])
  · refine ⟨?_, z6, G6, m6⟩
    have : (small j).sent = j.sent := if_neg h
    rw [this]; exact b6
  rintro H8 ⟨b8, z8, G8, m8⟩
  refine ret_job (j := small j) (Q := fun r H' => ∃ a' l' c', r = jV (small j) a' l' c' pa pl pc ∧ SlV F H' a' l' (small j).graph ∧ Grow H H') m8.ok b8 z8 fun Hx mx => ⟨a', l', c', rfl, ?_, ?_⟩
  · exact slv_weak mx.ok (G8.mod loc_vtx mx fun y hy e => by omega) fun y hy _ => hy.1
  · exact (g02.ext m8 ok fun y hy => .inr (by omega)).ext mx ok fun y hy => .inr (by omega)
end Go.Proofs.Cx

namespace Go.Ev
open Go
def nrm (x : Int) : Int := if x < 0 ∨ 2147483648 ≤ x then 1 else x
def nrm0 (x : Int) : Int := if x < 0 ∨ 2147483648 ≤ x then 0 else x
def rF (f : Nat → Int) (k : Nat) : Int := if k = 5 then nrm0 (f 5) else nrm (f k)
def rS (f : Nat → Int) (i k : Nat) : Int := if k ≠ 5 ∧ (if k < 5 then k else k - 1) < i then nrm (f k) else f k
def posR (i : Nat) : Nat := if i < 5 then i else i + 1
def vS (h : Nat → Bool) (v : Nat → Int) (i k : Nat) : Int := if k < i ∧ h k = false then 0 else v k
theorem rF_nat (f : Nat → Int) (k : Nat) : NatI (rF f k) := by
  unfold rF nrm nrm0 NatI
  by_cases h5 : k = 5
  · rw [if_pos h5]
    by_cases h : f 5 < 0 ∨ 2147483648 ≤ f 5
    · rw [if_pos h]; omega
    · rw [if_neg h]; omega
  · rw [if_neg h5]
    by_cases h : f k < 0 ∨ 2147483648 ≤ f k
    · rw [if_pos h]; omega
    · rw [if_neg h]; omega
theorem eight {i : Nat} (h : i < 8) : i = 0 ∨ i = 1 ∨ i = 2 ∨ i = 3 ∨ i = 4 ∨ i = 5 ∨ i = 6 ∨ i = 7 := by omega
theorem repC_same {f g : Nat → Int} {h k : Nat → Bool} {v w : Nat → Int} {a : Option Addr} {l c : Nat} (e1 : ∀ i, i < 9 → f i = g i) (e2 : ∀ i, i < 5 → h i = k i) (e3 : ∀ i, i < 5 → v i = w i) : repC f h v a l c = repC g k w a l c := by
  unfold repC
  rw [e1 0 (by omega), e1 1 (by omega), e1 2 (by omega), e1 3 (by omega), e1 4 (by omega), e1 5 (by omega), e1 6 (by omega), e1 7 (by omega), e1 8 (by omega), e2 0 (by omega), e2 1 (by omega), e2 2 (by omega), e2 3 (by omega), e2 4 (by omega), e3 0 (by omega), e3 1 (by omega), e3 2 (by omega), e3 3 (by omega), e3 4 (by omega)]
theorem repC_len (f : Nat → Int) (h : Nat → Bool) (v : Nat → Int) (a : Option Addr) (l c : Nat) : (repC f h v a l c).length = 20 := rfl
theorem rep_at {f : Nat → Int} {h : Nat → Bool} {v : Nat → Int} {a : Option Addr} {l c i : Nat} (hi : i < 8) : (repC f h v a l c)[posR i]? = some (.int .i64 (f (posR i))) := by
  rcases eight hi with rfl | rfl | rfl | rfl | rfl | rfl | rfl | rfl <;> rfl
theorem rep_set {f : Nat → Int} {h : Nat → Bool} {v : Nat → Int} {a : Option Addr} {l c i : Nat} (hi : i < 8) (hb : f (posR i) < 0 ∨ 2147483648 ≤ f (posR i)) : lset (repC (rS f i) h v a l c) (posR i) [.int .i64 1] = repC (rS f (i + 1)) h v a l c := by
  rcases eight hi with rfl | rfl | rfl | rfl | rfl | rfl | rfl | rfl <;> (simp [posR] at hb; simp [repC, lset, rS, nrm, posR]; intros; omega)
theorem rep_keep {f : Nat → Int} {h : Nat → Bool} {v : Nat → Int} {a : Option Addr} {l c i : Nat} (hi : i < 8) (hb : ¬ (f (posR i) < 0 ∨ 2147483648 ≤ f (posR i))) : repC (rS f i) h v a l c = repC (rS f (i + 1)) h v a l c := by
  refine repC_same (fun k hk => ?_) (fun _ _ => rfl) (fun _ _ => rfl)
  unfold rS
  by_cases h5 : k = 5
  · simp [h5]
  · simp only [ne_eq, h5, not_false_eq_true, true_and]
    by_cases h1 : (if k < 5 then k else k - 1) < i
    · rw [if_pos h1, if_pos (by omega)]
    · rw [if_neg h1]
      by_cases h2 : (if k < 5 then k else k - 1) < i + 1
      · rw [if_pos h2]
        have : k = posR i := by
          unfold posR
          by_cases h3 : k < 5
          · rw [if_pos h3] at h1 h2; rw [if_pos (by omega)]; omega
          · rw [if_neg h3] at h1 h2; rw [if_neg (by omega)]; omega
        rw [this]; unfold nrm; rw [if_neg hb]
      · rw [if_neg h2]
theorem rS_at {f : Nat → Int} {i : Nat} (hi : i < 8) : rS f i (posR i) = f (posR i) := by
  rcases eight hi with rfl | rfl | rfl | rfl | rfl | rfl | rfl | rfl <;> simp [rS, posR]
theorem rep_vset {f : Nat → Int} {h : Nat → Bool} {v : Nat → Int} {a : Option Addr} {l c i : Nat} (hi : i < 5) (hb : h i = false) : lset (repC f h (vS h v i) a l c) (14 + i) [.int .i64 0] = repC f h (vS h v (i + 1)) a l c := by
  rcases five hi with rfl | rfl | rfl | rfl | rfl <;> simp [repC, lset, vS, hb]
theorem rep_vkeep {f : Nat → Int} {h : Nat → Bool} {v : Nat → Int} {a : Option Addr} {l c i : Nat} (hb : h i = true) : repC f h (vS h v i) a l c = repC f h (vS h v (i + 1)) a l c := by
  refine repC_same (fun _ _ => rfl) (fun _ _ => rfl) (fun k hk => ?_)
  unfold vS
  by_cases h1 : k < i
  · by_cases h2 : h k = false
    · rw [if_pos ⟨h1, h2⟩, if_pos ⟨by omega, h2⟩]
    · rw [if_neg (fun hh => h2 hh.2), if_neg (fun hh => h2 hh.2)]
  · rw [if_neg (fun hh => h1 hh.1)]
    by_cases h2 : k = i
    · subst h2; rw [if_neg (fun hh => by rw [hb] at hh; exact Bool.noConfusion hh.2)]
    · rw [if_neg (fun hh => by omega)]
theorem rep_hat {f : Nat → Int} {h : Nat → Bool} {v : Nat → Int} {a : Option Addr} {l c i : Nat} (hi : i < 5) : (repC f h v a l c)[9 + i]? = some (.bool (h i)) := by
  rcases five hi with rfl | rfl | rfl | rfl | rfl <;> rfl
theorem ptr8 {R i : Nat} (hi : i < 8) : ([.pointer (some ⟨R, 0, none⟩), .pointer (some ⟨R, 1, none⟩), .pointer (some ⟨R, 2, none⟩), .pointer (some ⟨R, 3, none⟩), .pointer (some ⟨R, 4, none⟩), .pointer (some ⟨R, 6, none⟩), .pointer (some ⟨R, 7, none⟩), .pointer (some ⟨R, 8, none⟩)] : List Value)[0 + (i : Int).toNat * 1]? = some (.pointer (some ⟨R, posR i, none⟩)) := by
  rcases eight hi with rfl | rfl | rfl | rfl | rfl | rfl | rfl | rfl <;> rfl
theorem posR_lt {i : Nat} (hi : i < 8) : posR i < 9 := by unfold posR; split <;> omega
theorem iand_le {x : Int} {m : Nat} (hm : m < 4611686018427387904) : 0 ≤ iand .i64 x (m : Int) ∧ iand .i64 x (m : Int) ≤ m := by
  have h : (BitVec.ofInt IntKind.i64.bits x &&& BitVec.ofInt IntKind.i64.bits (m : Int)).toNat ≤ m := by
    show (BitVec.ofInt 64 x &&& BitVec.ofInt 64 (m : Int)).toNat ≤ m
    rw [ofInt_nat, BitVec.toNat_and, BitVec.toNat_ofNat, Nat.mod_eq_of_lt (by omega)]
    exact Nat.and_le_right
  unfold iand
  rw [wrap_i64 (by omega) (by omega)]
  exact ⟨by omega, by omega⟩
theorem repB_len {f : Nat → Int} {h : Nat → Bool} {v : Nat → Int} {vs : List (Int × Int)} (hf : ∀ i, NatI (f i)) (hv : ∀ i, I64 (v i)) (hI : ∀ e ∈ vs, PairI e) (hl : vs.length ≤ 256) : (repB f h v vs).length ≤ 6000 := by
  have h1 := cntL_len (f := fun i => (f i).toNat) (fun i => by have := hf i; unfold NatI at this; omega) 9 0
  have h2 := aggL_len (h := h) hv 5 0
  have h3 := pairs_len hI
  have h4 := enc_len64 (n := vs.length) (by omega)
  unfold repB aggB valsB
  simp only [List.length_append]
  omega
end Go.Ev
namespace Go.Proofs.Cx
open Go Go.Ev
theorem awake17_ok {H : AH} : FW Ee F_cohortlaw17_awake [] H fun v H' => v = .bool true ∧ H = H' := by
  have e : (evalN Ee 1).call F_cohortlaw17_awake [] H = some (.bool true, H) := by kernel_rfl
  exact ⟨1, _, _, e, rfl, rfl⟩
theorem law_texts {F Fg Fp : Nat → Prop} {H : AH} {f : Nat → Int} {h : Nat → Bool} {v : Nat → Int} {a : Option Addr} {l c : Nat} {vs : List (Int × Int)} {j : JobW} {ga : Option Addr} {gl gc : Nat} {pa : Option Addr} {pl pc : Nat} {n0 n1 n2 : Int} (ok : Ok H) (hv : ∀ i, I64 (v i)) (hV : SlE F H a l vs) (hF : ∀ x, F x → x < H.next) (hI : ∀ e ∈ vs, PairI e) (hr : Room l c)
    (hG : SlV Fg H ga gl j.graph) (hFg : ∀ x, Fg x → x < H.next) (hfit : Fit j.graph) (hrg : Room gl gc) (hP : SlI Fp H pa pl j.params) (hFp : ∀ x, Fp x → x < H.next) (hX : JobX j) :
    FW Ee F_cohortlaw17_MasterTexts [.agg ⟨repC f h v a l c⟩, jV j ga gl gc pa pl pc, .agg ⟨[.int .i64 n0, .int .i64 n1, .int .i64 n2]⟩] H fun r H' => r = .bool true ∧ Grow H H' := by
  have hlen := hV.len
  refine fw_cohortlaw17_MasterTexts ?_
  intro H1 e1 H2 e2 H3 e3 H4 e4
  obtain ⟨g1, b1, k1⟩ := new_job ok e1
  obtain ⟨g2, x2, k2⟩ := new_job g1.ok e2
  obtain ⟨g3, y3, k3⟩ := new_job g2.ok e3
  obtain ⟨g4, t4, k4⟩ := new_job g3.ok e4
  have y4 := g4.get _ _ id y3
  have x4 := (g3.trans g4).get _ _ id x2
  have b4 := ((g2.trans g3).trans g4).get _ _ id b1
  have g04 := ((g1.trans g2).trans g3).trans g4
  clear g1 g2 g3 g4 e1 e2 e3 e4 b1 x2 y3
  have b4 : H4.get H.next = some (.cells (repC (rS f 0) h v a l c) 0) := by
    have e : repC (rS f 0) h v a l c = repC f h v a l c := repC_same (fun k hk => by simp [rS]) (fun _ _ => rfl) (fun _ _ => rfl)
    rw [e]; exact b4
  -- the numbers
  refine ⟨fun m t Hb => ∃ i : Nat, t = i ∧ i ≤ 8 ∧ m = 8 - i ∧ Hb.get H.next = some (.cells (repC (rS f i) h v a l c) 0) ∧ Mod (· = H.next) H4 Hb, ⟨_, 0, rfl, by omega, rfl, b4, .refl g04.ok⟩, ?_⟩
  rintro m t H5 ⟨i, rfl, hi, rfl, b5, m5⟩
  refine cond_dec (fun hlt => ?_) (fun hge => ?_)
  · have hi8 : i < 8 := by omega
    have t5 := m5.get _ _ (show ¬ H3.next = H.next by omega) t4
    have hp9 := posR_lt hi8
    have hset := fun hb => store_of (o := posR i) (vs := [.int .i64 1]) b5 (by rw [repC_len]; simp; omega) rfl
    have hmod := Mod.set m5.ok b5 (.cells (repC (rS f (i + 1)) h v a l c) 0)
    have bad : (f (posR i) < 0 ∨ 2147483648 ≤ f (posR i)) → ∃ H6, storeCellsv H5 H.next (posR i) [.int .i64 1] = some H6 ∧ H6.get H.next = some (.cells (repC (rS f (i + 1)) h v a l c) 0) ∧ Mod (· = H.next) H4 H6 := by
      intro hb
      have s := store_of (o := posR i) (vs := [.int .i64 1]) b5 (by rw [repC_len]; simp; omega) rfl
      rw [rep_set hi8 hb] at s
      exact ⟨_, s, get_set_self _ _ _, m5.trans hmod⟩
    have c5 : (repC (rS f i) h v a l c)[posR i]? = some (.int .i64 (f (posR i))) := by rw [rep_at hi8, rS_at hi8]
    have hgot : (fun Hx : AH => Hx.get H.next = some (.cells (repC (rS f (i + 1)) h v a l c) 0) ∧ Mod (· = H.next) H4 Hx) = fun Hx => Hx.get H.next = some (.cells (repC (rS f (i + 1)) h v a l c) 0) ∧ Mod (· = H.next) H4 Hx := rfl
    refine ⟨fun Hx => Hx.get H.next = some (.cells (repC (rS f (i + 1)) h v a l c) 0) ∧ Mod (· = H.next) H4 Hx, ⟨by omega, by omega, _, cell_of t5 (ptr8 hi8), grd_intro rfl (grd_intro rfl ⟨_, cell_of b5 c5, cond_dec (fun hneg => ?_) (fun hpos => ?_)⟩)⟩, ?_⟩
    · exact ⟨fun Hx => Hx.get H.next = some (.cells (repC (rS f (i + 1)) h v a l c) 0) ∧ Mod (· = H.next) H4 Hx, ⟨by omega, by omega, _, cell_of t5 (ptr8 hi8), grd_intro rfl (grd_intro rfl (bad (.inl hneg)))⟩, fun _ k => k⟩
    · refine ⟨by omega, by omega, _, cell_of t5 (ptr8 hi8), grd_intro rfl (grd_intro rfl ⟨_, cell_of b5 c5, fun Hx => Hx.get H.next = some (.cells (repC (rS f (i + 1)) h v a l c) 0) ∧ Mod (· = H.next) H4 Hx, cond_dec (fun hbig => ?_) (fun hsm => ?_), fun _ k => k⟩)⟩
      · exact ⟨by omega, by omega, _, cell_of t5 (ptr8 hi8), grd_intro rfl (grd_intro rfl (bad (.inr hbig)))⟩
      · refine ⟨?_, m5⟩
        rw [← rep_keep hi8 (by omega)]; exact b5
    · rintro H10 ⟨b10, m10⟩ t34 e34
      rw [wrap_i64 (by omega) (by omega)] at e34
      subst e34
      exact ⟨8 - (i + 1), by omega, i + 1, by simp, by omega, rfl, b10, m10⟩
  have hi8 : i = 8 := by omega
  subst hi8
  clear b4 hge hi
  -- the error
  have c5 : (repC (rS f 8) h v a l c)[5]? = some (.int .i64 (f 5)) := by simp [repC, rS]
  have setE : (f 5 < 0 ∨ 2147483648 ≤ f 5) → ∃ H6, storeCellsv H5 H.next 5 [.int .i64 0] = some H6 ∧ H6.get H.next = some (.cells (repC (rF f) h v a l c) 0) ∧ Mod (· = H.next) H4 H6 := by
    intro hb
    have s := store_of (o := 5) (vs := [.int .i64 0]) b5 (by rw [repC_len]; simp) rfl
    have e : lset (repC (rS f 8) h v a l c) 5 [.int .i64 0] = repC (rF f) h v a l c := by
      have : (0 : Int) = rF f 5 := by simp [rF, nrm0, hb]
      simp [repC, lset, rS]
      simp [rF, nrm0, hb]
    rw [e] at s
    exact ⟨_, s, get_set_self _ _ _, m5.trans (Mod.set m5.ok b5 _)⟩
  refine ⟨f 5, cell_of b5 c5, ?_⟩
  refine jn (fun Hx => Hx.get H.next = some (.cells (repC (rF f) h v a l c) 0) ∧ Mod (· = H.next) H4 Hx) (fun hneg => ?_) (fun hpos => ?_) ?_
  · exact setE (.inl (by simpa using hneg))
  · have hpos : ¬ f 5 < 0 := by simpa using hpos
    refine ⟨f 5, cell_of b5 c5, cond_dec (fun hbig => setE (.inr hbig)) (fun hsm => ⟨?_, m5⟩)⟩
    have e : repC (rS f 8) h v a l c = repC (rF f) h v a l c := by
      refine repC_same (fun k hk => ?_) (fun _ _ => rfl) (fun _ _ => rfl)
      unfold rS rF
      by_cases h5 : k = 5
      · subst h5
        simp only [ne_eq, not_true_eq_false, false_and, if_false, if_true]
        unfold nrm0
        rw [if_neg (by omega)]
      · rw [if_neg h5, if_pos ⟨h5, by split <;> omega⟩]
    rw [← e]; exact b5
  clear setE c5 b5 m5 H5
  rintro H12 ⟨b12, m12⟩
  -- the values
  refine ⟨_, _, _, cell_of b12 rfl, ?_⟩
  have G12 : ∀ {α : Type} {sz : Nat} {P : AH → Nat → Nat → α → Prop} {F' : Nat → Prop} {a' : Option Addr} {l' : Nat} {xs : List α}, Ev.Loc F' P → (∀ x, F' x → x < H.next) → Sl F' H sz P a' l' xs → Sl F' H12 sz P a' l' xs := fun hL hB hS => (hS.grow hL g04).mod hL m12 fun y hy e => by have := hB y hy; omega
  have V12 := G12 loc_edge hF hV
  refine ⟨fun Hx => ∃ a2 l2 c2, Hx.get H.next = some (.cells (repC (rF f) h v a2 l2 c2) 0) ∧ Mod (· = H.next) H12 Hx ∧ SlE F Hx a2 l2 (vs.take 256), cond_dec (fun hgt => ?_) (fun hle => ?_), ?_⟩
  · have hsome : a.isSome = true := (hV.base (by omega)).1
    cases a with
    | none => cases hsome
    | some x =>
      have m := Mod.set m12.ok b12 (.cells (repC (rF f) h v (some ⟨x.block, x.off + 0 * 2, none⟩) 256 (2 * (c / 2))) 0)
      exact ⟨_, _, _, cell_of b12 rfl, _, _, _, slcv_pre hr (k := 256) (by omega) (by omega), _, store_of (o := 19) b12 (by rw [repC_len]; simp) rfl, _, _, _, get_set_self _ _ _, m, (V12.pre (k := 256) (by omega) (by omega)).mod loc_edge m fun y hy e => by have := hF y hy; omega⟩
  · have ht : vs.take 256 = vs := List.take_of_length_le (by omega)
    exact ⟨_, _, _, b12, .refl m12.ok, by rw [ht]; exact V12⟩
  rintro H14 ⟨a2, l2, c2, b14, m14, V14⟩
  clear V12
  have hI2 : ∀ e ∈ vs.take 256, PairI e := fun e he => hI e (List.mem_of_mem_take he)
  have hl2 : (vs.take 256).length ≤ 256 := by rw [List.length_take]; omega
  obtain ⟨us, hus⟩ : ∃ us, us = vs.take 256 := ⟨_, rfl⟩
  rw [← hus] at V14 hI2 hl2
  clear hus
  have b14 : H14.get H.next = some (.cells (repC (rF f) h (vS h v 0) a2 l2 c2) 0) := by
    have e : repC (rF f) h (vS h v 0) a2 l2 c2 = repC (rF f) h v a2 l2 c2 := repC_same (fun _ _ => rfl) (fun _ _ => rfl) (fun k hk => by simp [vS])
    rw [e]; exact b14
  -- aggregates that are not there
  refine ⟨fun m t Hb => ∃ i : Nat, t = i ∧ i ≤ 5 ∧ m = 5 - i ∧ Hb.get H.next = some (.cells (repC (rF f) h (vS h v i) a2 l2 c2) 0) ∧ Mod (· = H.next) H14 Hb, ⟨_, 0, rfl, by omega, rfl, b14, .refl m14.ok⟩, ?_⟩
  rintro m t H15 ⟨i, rfl, hi, rfl, b15, m15⟩
  refine cond_dec (fun hlt => ?_) (fun hge => ?_)
  · have hi5 : i < 5 := by omega
    have eI : ((i : Nat) : Int).toNat * 1 = i := by omega
    refine ⟨fun Hx => Hx.get H.next = some (.cells (repC (rF f) h (vS h v (i + 1)) a2 l2 c2) 0) ∧ Mod (· = H.next) H14 Hx, ⟨by omega, by omega, h i, by rw [eI]; exact cell_of b15 (rep_hat hi5), fun Hx => Hx.get H.next = some (.cells (repC (rF f) h (vS h v (i + 1)) a2 l2 c2) 0) ∧ Mod (· = H.next) H14 Hx, cond_intro (fun hh => ?_) (fun hh => ?_), fun _ k => k⟩, ?_⟩
    · have hh : h i = false := by simpa using hh
      rw [eI]
      have s := store_of (o := 14 + i) (vs := [.int .i64 0]) b15 (by rw [repC_len]; simp; omega) rfl
      rw [rep_vset hi5 hh] at s
      exact ⟨by omega, by omega, _, s, get_set_self _ _ _, m15.trans (Mod.set m15.ok b15 _)⟩
    · have hh : h i = true := by simpa using hh
      refine ⟨?_, m15⟩
      rw [← rep_vkeep hh]; exact b15
    · rintro H18 ⟨b18, m18⟩ t76 e76
      rw [wrap_i64 (by omega) (by omega)] at e76
      subst e76
      exact ⟨5 - (i + 1), by omega, i + 1, by simp, by omega, rfl, b18, m18⟩
  have hi5 : i = 5 := by omega
  subst hi5
  obtain ⟨w, hw⟩ : ∃ w, w = vS h v 5 := ⟨_, rfl⟩
  have hw1 : ∀ i, I64 (w i) := fun i => by
    rw [hw]; unfold vS
    by_cases hh : i < 5 ∧ h i = false
    · rw [if_pos hh]; unfold I64; omega
    · rw [if_neg hh]; exact hv i
  have hw2 : ∀ i, i < 5 → h i = false → w i = 0 := fun i hi hh => by rw [hw]; unfold vS; rw [if_pos ⟨hi, hh⟩]
  rw [← hw] at b15
  have hfn := rF_nat f
  obtain ⟨q, hq⟩ : ∃ q, q = rF f := ⟨_, rfl⟩
  rw [← hq] at b15 hfn
  have m415 := (m12.trans m14).trans m15
  have g15 : Grow H H15 := g04.ext m415 ok fun y hy => .inr (by omega)
  have x15 := m415.get _ _ (show ¬ H1.next = H.next by omega) x4
  have y15 := m415.get _ _ (show ¬ H2.next = H.next by omega) y4
  have V15 := V14.mod loc_edge m15 fun y hy e => by have := hF y hy; omega
  have kk15 := m415.next
  clear hw hq b14 b12 V14 m12 m14 m15 x4 y4 t4 G12 hge hi g04
  have P15 := hP.grow loc_int g15
  have Gg15 := hG.grow loc_vtx g15
  have hBl := repB_len (h := h) hfn hw1 hI2 hl2
  obtain ⟨B, hB⟩ : ∃ B, B = repB q h w us := ⟨_, rfl⟩
  -- put
  refine (newwriter_ok g15.ok).mono ?_
  rintro _ H19 ⟨rfl, w19, g19⟩
  have b19 := g19.get _ _ id b15
  have n19 := g19.next
  refine ⟨_, rfl, _, _, _, _, _, _, _, _, _, _, _, _, _, _, _, _, _, _, _, _, _, _, cell_of b19 rfl, cell_of b19 rfl, cell_of b19 rfl, cell_of b19 rfl, cell_of b19 rfl, cell_of b19 rfl, cell_of b19 rfl, cell_of b19 rfl, cell_of b19 rfl, cell_of b19 rfl, cell_of b19 rfl, cell_of b19 rfl, cell_of b19 rfl, cell_of b19 rfl, cell_of b19 rfl, cell_of b19 rfl, cell_of b19 rfl, cell_of b19 rfl, cell_of b19 rfl, cell_of b19 rfl, (putrep_ok (f := q) (h := h) (v := w) hfn hw1 g19.ok w19 (V15.grow loc_edge g19) (fun x hx => ⟨by have := hF x hx; have := g15.next; omega, fun k => by have := w19.low k; have := hF x hx; have := g15.next; omega⟩) hI2 hl2 (by simp)).mono ?_⟩
  rw [← hB] at hBl ⊢
  rintro _ H20 ⟨rfl, w20, x20⟩
  rw [List.nil_append] at w20
  have g20 : Grow H15 H20 := g19.ext x20.mod g15.ok fun y hy => .inr (by have := w19.low hy; omega)
  have n20 := g20.next
  refine ⟨rfl, (wall_ok w20).mono ?_⟩
  rintro _ _ ⟨rfl, rfl⟩
  refine ⟨_, rfl, by simp only [List.length_singleton]; omega, (newreader_ok g20.ok).mono ?_⟩
  rintro _ H22 ⟨rfl, r22, g22⟩
  refine ⟨_, rfl, (tk_rep (f := q) (h := h) (v := w) (vs := us) (t := [120]) hfn hw1 hw2 hI2 hl2 g22.ok r22 (Nat.zero_le _) (by rw [List.length_append, List.length_singleton]; omega) (by rw [List.drop_zero, hB])).mono ?_⟩
  rw [← hB, Nat.zero_add]
  rintro _ H23 ⟨a3, l3, c3, rfl, V23, r23, _, m23⟩
  have g23 : Grow H20 H23 := g22.ext m23 g20.ok fun y hy => .inr (by omega)
  have l3e := V23.len
  have l2e := V15.len
  refine ⟨_, _, _, _, _, _, _, _, _, _, _, _, _, _, _, _, _, _, _, _, _, _, rfl, ?_⟩
  intro H24 e24
  obtain ⟨H25, e25, b25, g25, n25⟩ := fresh_store (vs := repC q h w a3 l3 c3) e24 rfl rfl g23.ok
  refine ⟨H25, e25, (newwriter_ok g25.ok).mono ?_⟩
  rintro _ H26 ⟨rfl, w26, g26⟩
  have b26 := g26.get _ _ id b25
  have n26 := g26.next
  have n22 := g22.next
  have n23 := m23.next
  refine ⟨_, rfl, _, _, _, _, _, _, _, _, _, _, _, _, _, _, _, _, _, _, _, _, _, _, cell_of b26 rfl, cell_of b26 rfl, cell_of b26 rfl, cell_of b26 rfl, cell_of b26 rfl, cell_of b26 rfl, cell_of b26 rfl, cell_of b26 rfl, cell_of b26 rfl, cell_of b26 rfl, cell_of b26 rfl, cell_of b26 rfl, cell_of b26 rfl, cell_of b26 rfl, cell_of b26 rfl, cell_of b26 rfl, cell_of b26 rfl, cell_of b26 rfl, cell_of b26 rfl, cell_of b26 rfl, (putrep_ok (f := q) (h := h) (v := w) hfn hw1 g26.ok w26 ((V23.grow loc_edge g25).grow loc_edge g26) (fun x hx => ⟨by omega, fun k => by have := w26.low k; omega⟩) hI2 hl2 (by simp)).mono ?_⟩
  rw [← hB]
  rintro _ H27 ⟨rfl, w27, x27⟩
  rw [List.nil_append] at w27
  have g2527 : Grow H25 H27 := g26.ext x27.mod g25.ok fun y hy => .inr (by have := w26.low hy; omega)
  have g2027 : Grow H20 H27 := (g23.trans g25).trans g2527
  refine ⟨rfl, awake17_ok.mono ?_⟩
  rintro _ _ ⟨rfl, rfl⟩
  refine ⟨true, rfl, cond_neg rfl ((wall_ok w27).mono ?_)⟩
  rintro _ _ ⟨rfl, rfl⟩
  refine ⟨_, rfl, (wall_ok (w20.grow g2027)).mono ?_⟩
  rintro _ _ ⟨rfl, rfl⟩
  have r27 : Rd H27 H20.next (B ++ [120]) B.length 0 := g2527.get _ _ id (g25.get _ _ id r23)
  refine ⟨_, rfl, cond_neg (by simp) ((rleft_ok r27 (by rw [List.length_append]; omega) (by rw [List.length_append, List.length_singleton]; omega)).mono ?_)⟩
  rintro _ _ ⟨rfl, rfl⟩
  have b27 := g2527.get _ _ id b25
  have d27 := g2027.get _ _ id (g20.get _ _ id b15)
  have g1527 := g20.trans g2027
  have g27 := g15.trans g1527
  refine ⟨_, rfl, cond_neg (by rw [List.length_append, List.length_singleton, Nat.add_sub_cancel_left]; rfl) ?_⟩
  refine ⟨_, cell_of b27 rfl, _, cell_of d27 rfl, cond_neg (by simp) ?_⟩
  refine ⟨_, cell_of b27 rfl, _, cell_of d27 rfl, cond_neg (by simp) ?_⟩
  refine ⟨_, _, _, _, _, _, _, _, _, _, cell_of b27 rfl, cell_of b27 rfl, cell_of b27 rfl, cell_of b27 rfl, cell_of b27 rfl, cell_of b27 rfl, cell_of b27 rfl, cell_of b27 rfl, cell_of b27 rfl, cell_of b27 rfl, _, _, _, _, _, _, _, _, _, _, cell_of d27 rfl, cell_of d27 rfl, cell_of d27 rfl, cell_of d27 rfl, cell_of d27 rfl, cell_of d27 rfl, cell_of d27 rfl, cell_of d27 rfl, cell_of d27 rfl, cell_of d27 rfl, _, agg_same.2, cond_neg rfl ?_⟩
  refine ⟨_, _, _, cell_of b27 rfl, _, _, _, cell_of d27 rfl, cond_neg (by rw [l3e, l2e]; simp) ?_⟩
  -- the job
  have x27 := g1527.get _ _ id x15
  have y27 := g1527.get _ _ id y15
  have kk := g27.next
  refine ⟨_, _, _, _, _, _, _, _, _, _, cell_of x27 rfl, cell_of x27 rfl, cell_of x27 rfl, cell_of x27 rfl, cell_of x27 rfl, cell_of x27 rfl, (small_ok (j := j) g27.ok (hG.grow loc_vtx g27) hrg).mono ?_⟩
  rintro _ H32 ⟨sa, sl, sc, rfl, S32, g32⟩
  refine ⟨_, _, _, _, _, _, _, _, _, _, rfl, ?_⟩
  intro H33 e33
  obtain ⟨H34, e34, b34, g34, n34⟩ := fresh_store (vs := jC (small j) sa sl sc pa pl pc) e33 rfl rfl g32.ok
  have hfs : Fit (small j).graph := ⟨by have := hfit.n; simp only [small, List.length_take]; omega, fun e he => hfit.e e (List.mem_of_mem_take he)⟩
  have hXs : JobX (small j) := ⟨fun e he => hX.vs e (List.mem_of_mem_take he), hX.ps⟩
  have g2734 := g32.trans g34
  have g034 := g27.trans g2734
  refine ⟨H34, e34, _, _, _, _, _, _, _, _, _, _, cell_of b34 rfl, cell_of b34 rfl, cell_of b34 rfl, cell_of b34 rfl, cell_of b34 rfl, cell_of b34 rfl, (refjob_ok (j := small j) g34.ok (S32.grow loc_vtx g34) hfs).mono ?_⟩
  rintro _ H35 ⟨ta, tl, tc, rfl, T35, g35⟩
  refine ⟨_, _, _, _, _, _, _, _, _, _, rfl, (rjcheck_ok (j := small j) g35.ok T35 hfs (hP.grow loc_int (g034.trans g35))).mono ?_⟩
  rintro _ H36 ⟨rfl, g36⟩
  have g3436 := g35.trans g36
  have g036 := g034.trans g3436
  refine ⟨_, rfl, cond_intro (fun _ => ⟨rfl, g036⟩) (fun hz => ?_)⟩
  have hc : jchk (small j) = 0 := by simpa using hz
  have hJ := hXs.ok hc
  have hpl := progs_short (jchk_zero hc).1
  have g2736 := g2734.trans g3436
  have y36 := g2736.get _ _ id y27
  -- the task
  refine ⟨by omega, by omega, n0, cell_of y36 rfl, ?_⟩
  intro t153 e153
  refine ⟨by omega, by omega, n1, cell_of y36 rfl, ?_⟩
  intro t156 e156
  refine ⟨by omega, by omega, n2, cell_of y36 rfl, ?_⟩
  intro t159 e159
  refine ⟨by omega, by omega, n0, cell_of y36 rfl, ?_⟩
  intro t162 e162 H37 e37
  obtain ⟨g37, u37, n37⟩ := new_job g36.ok e37
  have y37 := g37.get _ _ id y36
  refine ⟨by omega, by omega, n1, cell_of y37 rfl, ?_⟩
  intro t166 e166
  refine ⟨by omega, by omega, n2, cell_of y37 rfl, ?_⟩
  intro t169 e169 H38 e38
  obtain ⟨g38, u38, n38⟩ := new_job g37.ok e38
  have j153 : 0 ≤ t153 ∧ t153 ≤ 63 := by rw [e153]; exact iand_le (m := 63) (by omega)
  have j156 : 0 ≤ t156 ∧ t156 ≤ 63 := by rw [e156]; exact iand_le (m := 63) (by omega)
  have j159 : 0 ≤ t159 ∧ t159 ≤ 63 := by rw [e159]; exact iand_le (m := 63) (by omega)
  have j162 : 0 ≤ t162 ∧ t162 ≤ 7 := by rw [e162]; exact iand_le (m := 7) (by omega)
  have j166 : 0 ≤ t166 ∧ t166 ≤ 7 := by rw [e166]; exact iand_le (m := 7) (by omega)
  have j169 : 0 ≤ t169 ∧ t169 ≤ 7 := by rw [e169]; exact iand_le (m := 7) (by omega)
  have g3638 := g37.trans g38
  have b38 := (g3436.trans g3638).get _ _ id b34
  have d38 := (g2736.trans g3638).get _ _ id d27
  have y38 := g38.get _ _ id y37
  have u38' := g38.get _ _ id u37
  refine ⟨_, _, _, _, _, _, _, _, _, _, cell_of b38 rfl, cell_of b38 rfl, cell_of b38 rfl, cell_of b38 rfl, cell_of b38 rfl, cell_of b38 rfl, _, _, _, _, _, _, _, _, _, _, cell_of d38 rfl, cell_of d38 rfl, cell_of d38 rfl, cell_of d38 rfl, cell_of d38 rfl, cell_of d38 rfl, cell_of d38 rfl, cell_of d38 rfl, cell_of d38 rfl, cell_of d38 rfl, by omega, by omega, n0, cell_of y38 rfl, by omega, ?_⟩
  intro t176 e176 H39 e39
  obtain ⟨T, hT⟩ : ∃ T : TaskW, T = ⟨fun k => if k = 0 then t153 else if k = 1 then t156 else if k = 2 then t159 else if k = 3 then 2 else if k = 4 then 5 else if k = 5 then 4 else 1, fun k => if k = 0 then [t162] else [t166, t169], h, w, small j, t176 == 0⟩ := ⟨_, rfl⟩
  have hTf : ∀ i, NatI (T.f i) := by
    intro i
    rw [hT]
    unfold NatI
    simp only
    by_cases h0 : i = 0
    · rw [if_pos h0]; omega
    rw [if_neg h0]
    by_cases h1 : i = 1
    · rw [if_pos h1]; omega
    rw [if_neg h1]
    by_cases h2 : i = 2
    · rw [if_pos h2]; omega
    rw [if_neg h2]
    by_cases h3 : i = 3
    · rw [if_pos h3]; omega
    rw [if_neg h3]
    by_cases h4 : i = 4
    · rw [if_pos h4]; omega
    rw [if_neg h4]
    by_cases h5 : i = 5
    · rw [if_pos h5]; omega
    rw [if_neg h5]; omega
  have hTL : ∀ i, i < 2 → (T.L i).length ≤ 16 ∧ ∀ e ∈ T.L i, NatI e := by
    intro i hi
    rw [hT]
    unfold NatI
    rcases two hi with rfl | rfl
    · simp; omega
    · simp; omega
  obtain ⟨s2, hs2⟩ : ∃ s2 : Nat → Sl3, s2 = fun k => if k = 0 then (some ⟨H36.next, 0, none⟩, 1, 2) else (some ⟨H37.next, 0, none⟩, 2, 4) := ⟨_, rfl⟩
  obtain ⟨H40, e40, b40, g40, n40⟩ := fresh_store (vs := tskC T.f s2 T.j sa sl sc pa pl pc T.h T.v T.k) e39 rfl rfl g38.ok
  have hS38 : ∀ i, i < 2 → SlI (fun y => H36.next ≤ y ∧ y < H38.next) H38 (s2 i).1 (s2 i).2.1 (T.L i) := by
    intro i hi
    rcases two hi with rfl | rfl
    · rw [hs2, hT]
      refine ⟨rfl, fun _ => ⟨rfl, by simp only [if_true, adr]; omega⟩, fun i hi => ?_⟩
      have hi : i < 1 := hi
      have : i = 0 := by omega
      subst this
      exact cell_of u38' rfl
    · rw [hs2, hT]
      refine ⟨rfl, fun _ => ⟨rfl, by simp [adr]; omega⟩, fun i hi => ?_⟩
      have hi : i < 2 := hi
      rcases two hi with rfl | rfl
      · exact cell_of u38 rfl
      · exact cell_of u38 rfl
  have hrow : [.int .i64 t153, .int .i64 t156, .int .i64 t159, .int .i64 2, .slice (some ⟨H36.next, 0, none⟩) 1 2, .slice (some ⟨H37.next, 0, none⟩) 2 4, .string ⟨⟨(small j).prog⟩⟩, .slice sa sl sc, .slice pa pl pc, .int .i64 (small j).steps, .int .i64 (small j).sent, .int .i64 (small j).parts, .bool (h 0), .bool (h 1), .bool (h 2), .bool (h 3), .bool (h 4), .int .i64 (w 0), .int .i64 (w 1), .int .i64 (w 2), .int .i64 (w 3), .int .i64 (w 4), .int .i64 5, .int .i64 4, .int .i64 1, .bool (t176 == 0)] = tskC T.f s2 T.j sa sl sc pa pl pc T.h T.v T.k := by
    rw [hT, hs2]; rfl
  refine ⟨H40, hrow ▸ e40, (newwriter_ok g40.ok).mono ?_⟩
  rintro _ H41 ⟨rfl, w41, g41⟩
  have hTj : T.j = small j := by rw [hT]
  have hTh : T.h = h := by rw [hT]
  have hTv : T.v = w := by rw [hT]
  have b41 := g41.get _ _ id b40
  have n41 := g41.next
  have g3841 := g40.trans g41
  have g041 := (g036.trans g3638).trans g3841
  have S41 : SlV Fg H41 sa sl T.j.graph := by rw [hTj]; exact ((S32.grow loc_vtx g34).grow loc_vtx g3436).grow loc_vtx (g3638.trans g3841)
  have P41 : SlI Fp H41 pa pl T.j.params := by rw [hTj]; exact hP.grow loc_int g041
  have kk2 := g2734.next
  have kk3 := g3436.next
  refine ⟨_, rfl, _, _, _, _, _, _, _, _, _, _, _, _, _, _, _, _, _, _, _, _, _, _, _, _, _, _, _, _, _, _, _, _, _, _, cell_of b41 rfl, cell_of b41 rfl, cell_of b41 rfl, cell_of b41 rfl, cell_of b41 rfl, cell_of b41 rfl, cell_of b41 rfl, cell_of b41 rfl, cell_of b41 rfl, cell_of b41 rfl, cell_of b41 rfl, cell_of b41 rfl, cell_of b41 rfl, cell_of b41 rfl, cell_of b41 rfl, cell_of b41 rfl, cell_of b41 rfl, cell_of b41 rfl, cell_of b41 rfl, cell_of b41 rfl, cell_of b41 rfl, cell_of b41 rfl, cell_of b41 rfl, cell_of b41 rfl, cell_of b41 rfl, cell_of b41 rfl, (puttask_ok (x := T) (s2 := s2) hTf (by rw [hTv]; exact hw1) hTL g41.ok w41 (fun i hi => (hS38 i hi).grow loc_int g3841) (fun y hy => ⟨by omega, fun k => by have := w41.low k; omega⟩) S41 (fun y hy => ⟨by have := hFg y hy; omega, fun k => by have := w41.low k; have := hFg y hy; omega⟩) P41 (fun y hy => ⟨by have := hFp y hy; omega, fun k => by have := w41.low k; have := hFp y hy; omega⟩) (by rw [hTj]; exact hJ) (by rw [hTj]; omega) (by simp)).mono ?_⟩
  rintro _ H42 ⟨rfl, w42, x42⟩
  rw [List.nil_append] at w42
  have g42 : Grow H40 H42 := g41.ext x42.mod g40.ok fun y hy => .inr (by have := w41.low hy; omega)
  have n42 := g42.next
  have hCl : (taskB T).length ≤ 20000000 := by
    have h1 := cntL_len (f := fun i => (T.f i).toNat) (fun i => by have := hTf i; unfold NatI at this; omega) 7 0
    have h2 := aggL_len (h := T.h) (v := T.v) (by rw [hTv]; exact hw1) 5 0
    have h3 := natsB_len (hTL 0 (by omega)).2 (hTL 0 (by omega)).1
    have h4 := natsB_len (hTL 1 (by omega)).2 (hTL 1 (by omega)).1
    have h5 := jobB_len (j := T.j) (by rw [hTj]; exact hJ) (by rw [hTj]; omega)
    have h6 := enc_len64 (n := cond T.k 1 0) (by cases T.k <;> simp)
    have h7 : T.j.prog.length ≤ 9 := by rw [hTj]; exact hpl
    unfold taskB aggB
    simp only [List.length_append]
    omega
  obtain ⟨C, hC⟩ : ∃ C, C = taskB T := ⟨_, rfl⟩
  rw [← hC] at w42 hCl
  refine ⟨rfl, (wall_ok w42).mono ?_⟩
  rintro _ _ ⟨rfl, rfl⟩
  refine ⟨_, rfl, by simp only [List.length_singleton]; omega, (newreader_ok g42.ok).mono ?_⟩
  rintro _ H44 ⟨rfl, r44, g44⟩
  refine ⟨_, rfl, (tk_task (x := T) (t := [120]) hTf (by rw [hTv]; exact hw1) (by rw [hTv, hTh]; exact hw2) hTL (by rw [hTj]; exact hJ) (by rw [hTj]; omega) (by rw [hTj]; exact hc) g44.ok r44 (Nat.zero_le _) (by rw [List.length_append, List.length_singleton]; omega) (by rw [List.drop_zero, hC])).mono ?_⟩
  rw [← hC, Nat.zero_add]
  rintro _ H45 ⟨s3, ua, ul, uc, va, vl, vc, rfl, S45, U45, VV45, r45, _, m45⟩
  have g45 : Grow H42 H45 := g44.ext m45 g42.ok fun y hy => .inr (by omega)
  refine ⟨_, _, _, _, _, _, _, _, _, _, _, _, _, _, _, _, _, _, _, _, _, _, _, _, _, _, _, _, _, _, _, _, _, _, rfl, ?_⟩
  intro H46 e46
  obtain ⟨H47, e47, b47, g47, n47⟩ := fresh_store (vs := tskC T.f s3 T.j ua ul uc va vl vc T.h T.v T.k) e46 rfl rfl g45.ok
  refine ⟨H47, e47, (newwriter_ok g47.ok).mono ?_⟩
  rintro _ H48 ⟨rfl, w48, g48⟩
  have b48 := g48.get _ _ id b47
  have n48 := g48.next
  have n44 := g44.next
  have n45 := m45.next
  have g4548 := g47.trans g48
  refine ⟨_, rfl, _, _, _, _, _, _, _, _, _, _, _, _, _, _, _, _, _, _, _, _, _, _, _, _, _, _, _, _, _, _, _, _, _, _, cell_of b48 rfl, cell_of b48 rfl, cell_of b48 rfl, cell_of b48 rfl, cell_of b48 rfl, cell_of b48 rfl, cell_of b48 rfl, cell_of b48 rfl, cell_of b48 rfl, cell_of b48 rfl, cell_of b48 rfl, cell_of b48 rfl, cell_of b48 rfl, cell_of b48 rfl, cell_of b48 rfl, cell_of b48 rfl, cell_of b48 rfl, cell_of b48 rfl, cell_of b48 rfl, cell_of b48 rfl, cell_of b48 rfl, cell_of b48 rfl, cell_of b48 rfl, cell_of b48 rfl, cell_of b48 rfl, cell_of b48 rfl, (puttask_ok (x := T) (s2 := s3) hTf (by rw [hTv]; exact hw1) hTL g48.ok w48 (fun i hi => (S45 i hi).grow loc_int g4548) (fun y hy => ⟨by omega, fun k => by have := w48.low k; omega⟩) (U45.grow loc_vtx g4548) (fun y hy => ⟨by omega, fun k => by have := w48.low k; omega⟩) (VV45.grow loc_int g4548) (fun y hy => ⟨by omega, fun k => by have := w48.low k; omega⟩) (by rw [hTj]; exact hJ) (by rw [hTj]; omega) (by simp)).mono ?_⟩
  rw [← hC]
  rintro _ H49 ⟨rfl, w49, x49⟩
  rw [List.nil_append] at w49
  have g4749 : Grow H47 H49 := g48.ext x49.mod g47.ok fun y hy => .inr (by have := w48.low hy; omega)
  have g4549 := g47.trans g4749
  have g4249 := g45.trans g4549
  refine ⟨rfl, (wall_ok w49).mono ?_⟩
  rintro _ _ ⟨rfl, rfl⟩
  refine ⟨_, rfl, (wall_ok (w42.grow g4249)).mono ?_⟩
  rintro _ _ ⟨rfl, rfl⟩
  have r49 : Rd H49 H42.next (C ++ [120]) C.length 0 := g4549.get _ _ id r45
  refine ⟨_, rfl, cond_pos (by simp) ((rleft_ok r49 (by rw [List.length_append]; omega) (by rw [List.length_append, List.length_singleton]; omega)).mono ?_)⟩
  rintro _ _ ⟨rfl, rfl⟩
  have b49 := g4749.get _ _ id b47
  have d49 := (g42.trans g4249).get _ _ id b40
  refine ⟨_, rfl, cond_pos (by rw [List.length_append, List.length_singleton, Nat.add_sub_cancel_left]; rfl) ?_⟩
  refine ⟨_, cell_of b49 rfl, _, cell_of d49 rfl, cond_pos (by simp) ?_⟩
  refine ⟨_, cell_of b49 rfl, _, cell_of d49 rfl, cond_pos (by simp) ?_⟩
  refine ⟨_, cell_of b49 rfl, _, cell_of d49 rfl, cond_pos (by simp) ?_⟩
  have S49 : ∀ i, i < 2 → SlI (fun y => H44.next ≤ y ∧ y < H45.next) H49 (s3 i).1 (s3 i).2.1 (T.L i) := fun i hi => (S45 i hi).grow loc_int g4549
  have g49 : Grow H H49 := (((g036.trans g3638).trans g40).trans g42).trans g4249
  have hl1 : (s3 1).2.1 = 2 := by rw [(S45 1 (by omega)).len, hT]; rfl
  have hl0 : (s3 0).2.1 = 1 := by rw [(S45 0 (by omega)).len, hT]; rfl
  refine ⟨_, _, _, cell_of b49 rfl, cond_pos (by rw [hl1]; rfl) ?_⟩
  obtain ⟨z1, z2⟩ := (S49 0 (by omega)).nth (k := 0) (by rw [hT]; simp)
  obtain ⟨z3, z4⟩ := (((hS38 0 (by omega)).grow loc_int g40).grow loc_int (g42.trans g4249)).nth (k := 0) (by rw [hT]; simp)
  refine ⟨_, _, _, cell_of b49 rfl, grd_intro z1 ⟨by omega, by rw [hl0]; omega, _, z2, _, _, _, cell_of d49 rfl, grd_intro z3 ⟨by omega, by rw [hs2]; simp, _, z4, cond_pos (by simp) ?_⟩⟩⟩
  exact ⟨_, _, _, _, _, _, _, _, _, _, cell_of b49 rfl, cell_of b49 rfl, cell_of b49 rfl, cell_of b49 rfl, cell_of b49 rfl, cell_of b49 rfl, cell_of b49 rfl, cell_of b49 rfl, cell_of b49 rfl, cell_of b49 rfl, _, _, _, _, _, _, _, _, _, _, cell_of d49 rfl, cell_of d49 rfl, cell_of d49 rfl, cell_of d49 rfl, cell_of d49 rfl, cell_of d49 rfl, cell_of d49 rfl, cell_of d49 rfl, cell_of d49 rfl, cell_of d49 rfl, _, agg_same.1, rfl, g49⟩
end Go.Proofs.Cx

namespace Go.Proofs.Cx
open Go Go.Ev Go.RowKit
abbrev RI : AH → List Value → Int → Prop := RInt .i64
abbrev R5b : AH → List Value → Bool × Bool × Bool × Bool × Bool × Unit → Prop := RCons RBool (RCons RBool (RCons RBool (RCons RBool (RCons RBool RNil))))
abbrev R5i : AH → List Value → Int × Int × Int × Int × Int × Unit → Prop := RCons RI (RCons RI (RCons RI (RCons RI (RCons RI RNil))))
abbrev R3i : AH → List Value → Int × Int × Int × Unit → Prop := RCons RI (RCons RI (RCons RI RNil))
abbrev RAg : AH → List Value → (Bool × Bool × Bool × Bool × Bool × Unit) × (Int × Int × Int × Int × Int × Unit) × Unit → Prop := RCons R5b (RCons R5i RNil)
abbrev RRep : AH → List Value → Int × Int × Int × Int × Int × Int × Int × Int × Int × ((Bool × Bool × Bool × Bool × Bool × Unit) × (Int × Int × Int × Int × Int × Unit) × Unit) × List (Int × Int × Unit) × Unit → Prop :=
  RCons RI (RCons RI (RCons RI (RCons RI (RCons RI (RCons RI (RCons RI (RCons RI (RCons RI (RCons RAg (RCons (RSl 2 16 RE) RNil))))))))))
theorem stable_5b : Stable R5b := stable_cons stable_bool (stable_cons stable_bool (stable_cons stable_bool (stable_cons stable_bool (stable_cons stable_bool stable_nil))))
theorem stable_5i : Stable R5i := stable_cons stable_ri (stable_cons stable_ri (stable_cons stable_ri (stable_cons stable_ri (stable_cons stable_ri stable_nil))))
theorem stable_3i : Stable R3i := stable_cons stable_ri (stable_cons stable_ri (stable_cons stable_ri stable_nil))
theorem stable_rag : Stable RAg := stable_cons stable_5b (stable_cons stable_5i stable_nil)
theorem stable_rrep : Stable RRep := stable_cons stable_ri (stable_cons stable_ri (stable_cons stable_ri (stable_cons stable_ri (stable_cons stable_ri (stable_cons stable_ri (stable_cons stable_ri (stable_cons stable_ri (stable_cons stable_ri (stable_cons stable_rag (stable_cons (stable_slice stable_re) stable_nil))))))))))
section
variable {Hh : Type} {enc : TypeId × Value → Hh} {W : World} [Sy]
theorem lay_5b : LayT enc Tryz.prog W T_5_bool R5b :=
  lay_array (ds := [(T_bool, 0), (T_bool, 1), (T_bool, 2), (T_bool, 3), (T_bool, 4)]) (n := 5) (e := T_bool) (total := 5) (by kernel_rfl) (by kernel_rfl) (by kernel_rfl)
    (lay_fcons (off := 0) (n := 1) rfl (by kernel_rfl) (lay_bool (by kernel_rfl)) stable_bool (lay_fcons (off := 1) (n := 1) rfl (by kernel_rfl) (lay_bool (by kernel_rfl)) stable_bool (lay_fcons (off := 2) (n := 1) rfl (by kernel_rfl) (lay_bool (by kernel_rfl)) stable_bool
      (lay_fcons (off := 3) (n := 1) rfl (by kernel_rfl) (lay_bool (by kernel_rfl)) stable_bool (lay_fcons (off := 4) (n := 1) rfl (by kernel_rfl) (lay_bool (by kernel_rfl)) stable_bool lay_fnil)))))
theorem lay_5i : LayT enc Tryz.prog W T_5_int64 R5i :=
  lay_array (ds := [(T_int64, 0), (T_int64, 1), (T_int64, 2), (T_int64, 3), (T_int64, 4)]) (n := 5) (e := T_int64) (total := 5) (by kernel_rfl) (by kernel_rfl) (by kernel_rfl)
    (lay_fcons (off := 0) (n := 1) rfl (by kernel_rfl) (lay_int (by kernel_rfl)) stable_ri (lay_fcons (off := 1) (n := 1) rfl (by kernel_rfl) (lay_int (by kernel_rfl)) stable_ri (lay_fcons (off := 2) (n := 1) rfl (by kernel_rfl) (lay_int (by kernel_rfl)) stable_ri
      (lay_fcons (off := 3) (n := 1) rfl (by kernel_rfl) (lay_int (by kernel_rfl)) stable_ri (lay_fcons (off := 4) (n := 1) rfl (by kernel_rfl) (lay_int (by kernel_rfl)) stable_ri lay_fnil)))))
theorem lay_3i : LayT enc Tryz.prog W T_3_int R3i :=
  lay_array (ds := [(T_int, 0), (T_int, 1), (T_int, 2)]) (n := 3) (e := T_int) (total := 3) (by kernel_rfl) (by kernel_rfl) (by kernel_rfl)
    (lay_fcons (off := 0) (n := 1) rfl (by kernel_rfl) (lay_int (by kernel_rfl)) stable_ri (lay_fcons (off := 1) (n := 1) rfl (by kernel_rfl) (lay_int (by kernel_rfl)) stable_ri (lay_fcons (off := 2) (n := 1) rfl (by kernel_rfl) (lay_int (by kernel_rfl)) stable_ri lay_fnil)))
theorem lay_agg : LayT enc Tryz.prog W T_api_Aggregate RAg :=
  lay_struct (ds := [(T_5_bool, 0), (T_5_int64, 5)]) (by kernel_rfl) (total := 10) (by kernel_rfl)
    (lay_fcons (off := 0) (n := 5) rfl (by kernel_rfl) lay_5b stable_5b (lay_fcons (off := 5) (n := 5) rfl (by kernel_rfl) lay_5i stable_5i lay_fnil))
theorem lay_val : LayT enc Tryz.prog W T_api_Value RE :=
  lay_struct (ds := [(T_int64, 0), (T_int64, 1)]) (by kernel_rfl) (total := 2) (by kernel_rfl)
    (lay_fcons (off := 0) (n := 1) rfl (by kernel_rfl) (lay_int (by kernel_rfl)) stable_int (lay_fcons (off := 1) (n := 1) rfl (by kernel_rfl) (lay_int (by kernel_rfl)) stable_int lay_fnil))
theorem lay_report : LayT enc Tryz.prog W T_api_Report RRep :=
  lay_struct (ds := [(T_int, 0), (T_int, 1), (T_int, 2), (T_int, 3), (T_int, 4), (T_api_Errno, 5), (T_int, 6), (T_int, 7), (T_int, 8), (T_api_Aggregate, 9), (T_L_api_Value, 19)]) (by kernel_rfl) (total := 20) (by kernel_rfl)
    (lay_fcons (off := 0) (n := 1) rfl (by kernel_rfl) (lay_int (by kernel_rfl)) stable_ri
    (lay_fcons (off := 1) (n := 1) rfl (by kernel_rfl) (lay_int (by kernel_rfl)) stable_ri
    (lay_fcons (off := 2) (n := 1) rfl (by kernel_rfl) (lay_int (by kernel_rfl)) stable_ri
    (lay_fcons (off := 3) (n := 1) rfl (by kernel_rfl) (lay_int (by kernel_rfl)) stable_ri
    (lay_fcons (off := 4) (n := 1) rfl (by kernel_rfl) (lay_int (by kernel_rfl)) stable_ri
    (lay_fcons (off := 5) (n := 1) rfl (by kernel_rfl) (lay_int (by kernel_rfl)) stable_ri
    (lay_fcons (off := 6) (n := 1) rfl (by kernel_rfl) (lay_int (by kernel_rfl)) stable_ri
    (lay_fcons (off := 7) (n := 1) rfl (by kernel_rfl) (lay_int (by kernel_rfl)) stable_ri
    (lay_fcons (off := 8) (n := 1) rfl (by kernel_rfl) (lay_int (by kernel_rfl)) stable_ri
    (lay_fcons (off := 9) (n := 10) rfl (by kernel_rfl) lay_agg stable_rag
    (lay_fcons (off := 19) (n := 1) rfl (by kernel_rfl) (lay_slice (e := T_api_Value) (by kernel_rfl) (by kernel_rfl) (by omega) (by kernel_rfl) lay_val stable_re re_len) (stable_slice stable_re) lay_fnil)))))))))))
end
def fi (l : List Int) (i : Nat) : Int := l.getD i 0
def fb (l : List Bool) (i : Nat) : Bool := l.getD i false
theorem fi_i64 {l : List Int} (h : ∀ x ∈ l, I64 x) (i : Nat) : I64 (fi l i) := by
  unfold fi
  rw [List.getD_eq_getElem?_getD]
  by_cases hi : i < l.length
  · rw [List.getElem?_eq_getElem hi]; exact h _ (List.getElem_mem hi)
  · rw [List.getElem?_eq_none (by omega)]; unfold I64; simp
theorem pairs_in {H : AH} (ok : Ok H) {a : Option Addr} {l : Nat} {xs : List (Int × Int × Unit)} (h : Sl (fun _ => True) H 2 (PCs RE) a l xs) : SlE (fun b => b < H.next) H a l (xs.map toE) ∧ ∀ e ∈ xs.map toE, PairI e := by
  have edge : ∀ b o x, PCs RE H b o x → PEdge H b o (toE x) ∧ PairI (toE x) := by
    rintro b o x ⟨cs, hc, c1, c2, rfl, ⟨rfl, w1⟩, c3, c4, rfl, ⟨rfl, w2⟩, rfl⟩
    exact ⟨⟨by simpa [toE] using hc 0 _ rfl, by simpa [toE] using hc 1 _ rfl⟩, i64_wf w1, i64_wf w2⟩
  refine ⟨Sl.into h (fun b o x hx => lt_of_cell ok (edge b o x hx).1.1) (fun b o x _ hx => (edge b o x hx).1), fun e he => ?_⟩
  obtain ⟨y, hy, rfl⟩ := List.mem_map.1 he
  obtain ⟨i, hi, rfl⟩ := List.getElem_of_mem hy
  exact (edge _ _ _ (h.cells i hi)).2
theorem rep_in {H : AH} (ok : Ok H) {cs : List Value} {x} (h : RRep H cs x) : ∃ f ha v a l c vs, cs = repC f ha v a l c ∧ (∀ i, I64 (v i)) ∧ SlE (fun b => b < H.next) H a l vs ∧ (∀ e ∈ vs, PairI e) ∧ Room l c ∧ (∀ i, I64 (f i)) ∧ vs.length * 16 ≤ 140737488351232 := by
  obtain ⟨d1, e1, rfl, ⟨rfl, w1⟩, d2, e2, rfl, ⟨rfl, w2⟩, d3, e3, rfl, ⟨rfl, w3⟩, d4, e4, rfl, ⟨rfl, w4⟩, d5, e5, rfl, ⟨rfl, w5⟩, d6, e6, rfl, ⟨rfl, w6⟩, d7, e7, rfl, ⟨rfl, w7⟩, d8, e8, rfl, ⟨rfl, w8⟩, d9, e9, rfl, ⟨rfl, w9⟩, d10, e10, rfl, ⟨s1, s2, rfl, ⟨q1, r1, rfl, rfl, q2, r2, rfl, rfl, q3, r3, rfl, rfl, q4, r4, rfl, rfl, q5, r5, rfl, rfl, rfl⟩, s3, s4, rfl, ⟨q1, r1, rfl, ⟨rfl, u1⟩, q2, r2, rfl, ⟨rfl, u2⟩, q3, r3, rfl, ⟨rfl, u3⟩, q4, r4, rfl, ⟨rfl, u4⟩, q5, r5, rfl, ⟨rfl, u5⟩, rfl⟩, rfl⟩, d11, e11, rfl, ⟨a, l, c, rfl, hV, hb, hr⟩, rfl⟩ := h
  obtain ⟨k1, k2⟩ := pairs_in ok hV
  refine ⟨fi [x.1, x.2.1, x.2.2.1, x.2.2.2.1, x.2.2.2.2.1, x.2.2.2.2.2.1, x.2.2.2.2.2.2.1, x.2.2.2.2.2.2.2.1, x.2.2.2.2.2.2.2.2.1], fb [x.2.2.2.2.2.2.2.2.2.1.1.1, x.2.2.2.2.2.2.2.2.2.1.1.2.1, x.2.2.2.2.2.2.2.2.2.1.1.2.2.1, x.2.2.2.2.2.2.2.2.2.1.1.2.2.2.1, x.2.2.2.2.2.2.2.2.2.1.1.2.2.2.2.1],
    fi [x.2.2.2.2.2.2.2.2.2.1.2.1.1, x.2.2.2.2.2.2.2.2.2.1.2.1.2.1, x.2.2.2.2.2.2.2.2.2.1.2.1.2.2.1, x.2.2.2.2.2.2.2.2.2.1.2.1.2.2.2.1, x.2.2.2.2.2.2.2.2.2.1.2.1.2.2.2.2.1], a, l, c, _, rfl, fi_i64 ?_, k1, k2, hr, fi_i64 ?_, by rw [List.length_map]; exact hb⟩
  · intro y hy
    simp only [List.mem_cons, List.not_mem_nil, or_false] at hy
    rcases hy with rfl | rfl | rfl | rfl | rfl
    · exact i64_wf u1
    · exact i64_wf u2
    · exact i64_wf u3
    · exact i64_wf u4
    · exact i64_wf u5
  · intro y hy
    simp only [List.mem_cons, List.not_mem_nil, or_false] at hy
    rcases hy with rfl | rfl | rfl | rfl | rfl | rfl | rfl | rfl | rfl
    · exact i64_wf w1
    · exact i64_wf w2
    · exact i64_wf w3
    · exact i64_wf w4
    · exact i64_wf w5
    · exact i64_wf w6
    · exact i64_wf w7
    · exact i64_wf w8
    · exact i64_wf w9
/-- jobs that come in -/
theorem job_in {H : AH} (ok : Ok H) {cs : List Value} {x} (hJ : RJ H cs x) : ∃ j a l c pa pl pc, cs = jC j a l c pa pl pc ∧ SlV (fun b => b < H.next) H a l j.graph ∧ Fit j.graph ∧ Room l c ∧ SlI (fun b => b < H.next) H pa pl j.params ∧ Room pl pc ∧ JobX j ∧ j.prog.length ≤ 140737488351232 ∧ I64 j.steps ∧ I64 j.sent ∧ I64 j.parts := by
  obtain ⟨c1, c2, rfl, ⟨rfl, hp⟩, c3, c4, rfl, ⟨c5, c6, rfl, ⟨a, l, c, rfl, hG, hb, hr⟩, rfl⟩, c7, c8, rfl, ⟨pa, pl, pc, rfl, hP, hb2, hr2⟩, c9, c10, rfl, ⟨rfl, w1⟩, c11, c12, rfl, ⟨rfl, w2⟩, c13, c14, rfl, ⟨rfl, w3⟩, rfl⟩ := hJ
  obtain ⟨h1, h2, h3⟩ := graph_inj ok hG hb
  obtain ⟨h4, h5⟩ := ints_in ok hP
  exact ⟨⟨x.1, x.2.1.1.map toV, x.2.2.1, x.2.2.2.1, x.2.2.2.2.1, x.2.2.2.2.2.1⟩, a, l, c, pa, pl, pc, rfl, h1, h2, hr, h4, hr2, ⟨h3, h5⟩, hp, i64_wf w1, i64_wf w2, i64_wf w3⟩
theorem law_texts_in {H : AH} {vs : List Value} {c1 c2 c3 : List Value} {x y z} (ok : Ok H) (hv : vs = [.agg ⟨c1⟩, .agg ⟨c2⟩, .agg ⟨c3⟩]) (h1 : RRep H c1 x) (h2 : RJ H c2 y) (h3 : R3i H c3 z) :
    FW Ee F_cohortlaw17_MasterTexts vs H fun r H' => r = .bool true ∧ Grow H H' := by
  subst hv
  obtain ⟨f, ha, v, a, l, c, us, rfl, k1, k2, k3, k4, _, _⟩ := rep_in ok h1
  obtain ⟨j, ga, gl, gc, pa, pl, pc, rfl, j1, j2, j3, j4, _, j6, _, _, _, _⟩ := job_in ok h2
  obtain ⟨d1, e1, rfl, ⟨rfl, _⟩, d2, e2, rfl, ⟨rfl, _⟩, d3, e3, rfl, ⟨rfl, _⟩, rfl⟩ := h3
  exact law_texts ok k1 k2 (fun _ h => h) k3 k4 j1 (fun _ h => h) j2 j3 j4 (fun _ h => h) j6
end Go.Proofs.Cx
