/- A list that is a stack; spec.Components. Maps that are sets of numbers; greatest. SpecSets: the law, as formulas have it. -/
import Derived.Test.YtojohclbjcnhaaaC4
namespace Go.Ev
open Go
/-- a stack of one's own, in a block from n0 on -/
def Stk (n0 : Nat) (H : AH) (a : Option Addr) (l c : Nat) (zs : List Nat) : Prop :=
  ∃ b cs es, n0 ≤ b ∧ a = some ⟨b, 0, none⟩ ∧ (c = 2 * cs.length ∨ c = 2 * cs.length + 1 ∧ es = 1) ∧ H.get b = some (.cells cs es) ∧ cs.all oneCell = true ∧ l = zs.length ∧ 0 < cs.length ∧ l ≤ cs.length ∧ cs.take l = (nats zs).map iv
theorem Stk.mod {S : Nat → Prop} {n0 : Nat} {H H' : AH} {a : Option Addr} {l c : Nat} {zs : List Nat} (h : Stk n0 H a l c zs) (hm : Mod S H H') (hs : ∀ b, S b → b < n0) : Stk n0 H' a l c zs := by
  obtain ⟨b, cs, es, h0, h1, h2, h3, h4⟩ := h
  exact ⟨b, cs, es, h0, h1, h2, hm.get _ _ (fun hb => by have := hs _ hb; omega) h3, h4⟩
theorem Stk.len {n0 : Nat} {H : AH} {a : Option Addr} {l c : Nat} {zs : List Nat} (h : Stk n0 H a l c zs) : l = zs.length := by
  obtain ⟨b, cs, es, h0, h1, h2, h3, h4, h5, _⟩ := h
  exact h5
theorem Stk.pop {n0 : Nat} {H : AH} {a : Option Addr} {l c : Nat} {ys : List Nat} {z : Nat} (h : Stk n0 H a l c (ys ++ [z])) :
    a.isSome = true ∧ H.cell (adr a).block ((adr a).off + (ys.length : Int).toNat * 1) = some (.int .i64 (z : Int)) ∧ ∃ c', slcv H 1 a l c none (some (.int .i64 (ys.length : Int))) none = some (.slice a ys.length c') ∧ Stk n0 H a ys.length c' ys := by
  obtain ⟨b, cs, es, h0, rfl, h2, h3, h4, h5, h6, h7, h8⟩ := h
  have hl : l = ys.length + 1 := by rw [h5]; simp
  subst hl
  have e8 : cs.take ys.length = (nats ys).map iv := by
    have := congrArg (List.take ys.length) h8
    rw [List.take_take, Nat.min_eq_left (Nat.le_succ _)] at this
    rw [this]
    simp [nats]
  refine ⟨rfl, cell_of h3 ?_, ?_⟩
  · have h9 : ((nats (ys ++ [z])).map iv)[ys.length]? = some (iv (z : Int)) := by simp [nats]
    rw [← h8, List.getElem?_take_of_lt (by omega)] at h9
    rw [show (adr (some (⟨b, 0, none⟩ : Addr))).off + (ys.length : Int).toNat * 1 = ys.length from by simp only [adr]; omega]
    exact h9
  · have e2 : Nat.beq cs.length 0 = false := by
      cases h : Nat.beq cs.length 0 with
      | false => rfl
      | true => have := Nat.eq_of_beq_eq_true h; omega
    have ec : capN c = cs.length := by
      rcases h2 with h | ⟨h, _⟩
      · rw [h]; simp only [capN]; omega
      · rw [h]; simp only [capN]; omega
    refine ⟨c, ?_, b, cs, es, h0, rfl, h2, h3, h4, rfl, h6, by omega, e8⟩
    unfold slcv
    simp only [ec, boundOf, Option.isSome_none]
    rw [if_pos (by omega)]
    simp only [Int.toNat_natCast, Nat.ble_eq_true_of_le (show ys.length ≤ cs.length by omega), cond_true, cutv, e2, cond_false, Bool.false_or, Nat.zero_mul, Nat.add_zero, Nat.sub_zero]
    rcases h2 with h | ⟨h, he⟩
    · rw [h, show Nat.beq ((2 * cs.length) % 2) 0 = true from by rw [show (2 * cs.length) % 2 = 0 from by omega]; rfl]; rfl
    · subst he
      have e4 : esAt H b 1 = true := by simp only [esAt, h3]; rfl
      rw [h, show Nat.beq ((2 * cs.length + 1) % 2) 0 = false from by rw [show (2 * cs.length + 1) % 2 = 1 from by omega]; rfl, e4]; rfl
theorem take_row {F : Nat → Prop} {H : AH} {a : Option Addr} {l c : Nat} {xs : List Int} (h : SlI F H a l xs) (hc : Cap H a l c) : takev H 1 l (.slice a l c) = some (xs.map iv) := by
  have hlen := h.len
  rcases Nat.eq_zero_or_pos l with h0 | h0
  · subst h0
    have hx : xs = [] := List.length_eq_zero_iff.1 hlen.symm
    subst hx
    cases a with
    | none => rfl
    | some x =>
      obtain ⟨h1, cs, es, h2⟩ := hc.here x rfl
      simp only [takev, rd_of h2, h1]
      rw [Nat.ble_eq_true_of_le (by omega)]
      simp
  · obtain ⟨b, cs, rfl, rfl, h2, h3⟩ := hc.room h0
    simp only [takev, rd_of h3]
    rw [Nat.ble_eq_true_of_le (by omega)]
    simp only [cond_true, List.drop_zero, Nat.mul_one]
    congr 1
    apply List.ext_getElem?
    intro i
    by_cases hi : i < l
    · have h5 := h.cells i (by omega)
      obtain ⟨cs', r1, r2⟩ := AH.cell_some (show H.cell b (0 + i * 1) = _ from h5)
      rw [rd_of h3] at r1
      cases r1
      rw [List.getElem?_take_of_lt hi, List.getElem?_map, List.getElem?_eq_getElem (show i < xs.length by omega)]
      rw [show 0 + i * 1 = i from by omega] at r2
      exact r2
    · rw [List.getElem?_eq_none (by rw [List.length_take]; omega), List.getElem?_eq_none (by rw [List.length_map]; omega)]
theorem Stk.push {F : Nat → Prop} {n0 : Nat} {H : AH} {a wa : Option Addr} {l c wl wc : Nat} {zs ws : List Nat} (ok : Ok H) (h : Stk n0 H a l c zs) (hw : SlI F H wa wl (nats ws)) (hc : Cap H wa wl wc) (hn : n0 ≤ H.next) (hb : (l + wl) * 8 ≤ 140737488355328) :
    ∃ a' c' H', apnd H 1 8 a l c (.slice wa wl wc) = some (.slice a' (l + wl) c', H') ∧ Stk n0 H' a' (l + wl) c' (zs ++ ws) ∧ Mod (n0 ≤ ·) H H' := by
  have htk := take_row hw hc
  have hwl := row_len hw
  obtain ⟨b, cs, es, h0, rfl, h2, h3, h4, h5, h6, h7, h8⟩ := h
  have ec : capN c = cs.length := by
    rcases h2 with h | ⟨h, _⟩
    · rw [h]; simp only [capN]; omega
    · rw [h]; simp only [capN]; omega
  have hone := iv_one (nats ws)
  have hnl : ((nats ws).map iv).length = wl := by rw [List.length_map, nats_len]; omega
  have hcat : cs.take l ++ (nats ws).map iv = (nats (zs ++ ws)).map iv := by rw [h8]; simp [nats]
  have hall : (cs.take l ++ (nats ws).map iv).all oneCell = true := by rw [hcat]; exact iv_one _
  have hlc : (cs.take l ++ (nats ws).map iv).length = l + wl := by rw [List.length_append, hnl, List.length_take]; omega
  rcases Nat.eq_zero_or_pos wl with hz | hz
  · subst hz
    have : ws = [] := List.length_eq_zero_iff.1 hwl.symm
    subst this
    refine ⟨some ⟨b, 0, none⟩, c, H, ?_, ?_, .refl ok⟩
    · simp only [apnd, lenOfv, htk]
      rw [show Nat.beq 0 0 = true from rfl, ec, Nat.ble_eq_true_of_le h7]; rfl
    · rw [List.append_nil]; exact ⟨b, cs, es, h0, rfl, h2, h3, h4, h5, h6, h7, h8⟩
  · have hbz : Nat.beq wl 0 = false := by
      cases h : Nat.beq wl 0 with
      | false => rfl
      | true => have := Nat.eq_of_beq_eq_true h; omega
    by_cases hfit : l + wl ≤ cs.length
    · refine ⟨some ⟨b, 0, none⟩, c, H.set b (.cells (lset cs (0 + l * 1) ((nats ws).map iv)) es), ?_, ?_, ?_⟩
      · simp only [apnd, lenOfv, htk, hbz, cond_false, Nat.ble_eq_true_of_le hb, Nat.ble_eq_true_of_le (show l + wl ≤ 140737488355328 by omega), Bool.and_self, cond_true, ec, Nat.ble_eq_true_of_le hfit]
        rw [store_of h3 (by rw [hnl]; omega) hone]
      · have hl2 : (lset cs (0 + l * 1) ((nats ws).map iv)).length = cs.length := by
          simp only [lset, List.length_append, List.length_take, List.length_drop, hnl]; omega
        refine ⟨b, _, es, h0, rfl, by rw [hl2]; exact h2, get_set_self _ _ _, ?_, by rw [List.length_append]; omega, by omega, by omega, ?_⟩
        · simp only [lset, List.all_append, hone, Bool.and_true]
          rw [Bool.and_eq_true]
          constructor
          · rw [List.all_eq_true]; intro x hx; exact List.all_eq_true.1 h4 x (List.mem_of_mem_take hx)
          · rw [List.all_eq_true]; intro x hx; exact List.all_eq_true.1 h4 x (List.mem_of_mem_drop hx)
        · simp only [lset, Nat.zero_add, Nat.mul_one]
          rw [List.take_left' hlc, hcat]
      · exact (Mod.set ok h3 _).le (fun x hx _ => by subst hx; exact h0) ok
    · have hfit2 : Nat.ble (l + wl) cs.length = false := by
        cases h : Nat.ble (l + wl) cs.length with
        | false => rfl
        | true => have := Nat.le_of_ble_eq_true h; omega
      have hd : (cs.drop 0).take (l * 1) = cs.take l := by rw [List.drop_zero, Nat.mul_one]
      have fresh : ∀ {H0 : AH}, H0.next = H.next → Stk n0 (H0.new (.cells (cs.take l ++ (nats ws).map iv) 1)) (some ⟨H.next, 0, none⟩) (l + wl) (2 * (l + wl) + 1) (zs ++ ws) := by
        intro H0 e
        refine ⟨H.next, _, 1, hn, rfl, .inr ⟨by rw [hlc], rfl⟩, by rw [← e]; exact get_new_self _ _, hall, by rw [List.length_append]; omega, by omega, by omega, ?_⟩
        rw [List.take_of_length_le (by omega), hcat]
      rcases h2 with h | ⟨h, he⟩
      · refine ⟨some ⟨H.next, 0, none⟩, 2 * (l + wl) + 1, H.new (.cells (cs.take l ++ (nats ws).map iv) 1), ?_, fresh rfl, (Grow.new ok _).le (fun _ h _ => h.elim) ok⟩
        simp only [apnd, lenOfv, htk, hbz, cond_false, Nat.ble_eq_true_of_le hb, Nat.ble_eq_true_of_le (show l + wl ≤ 140737488355328 by omega), Bool.and_self, cond_true, ec, hfit2, h3]
        rw [Nat.ble_eq_true_of_le (show 0 + l * 1 ≤ cs.length by omega), hone, hd, h, show Nat.beq ((2 * cs.length) % 2) 0 = true from by rw [show (2 * cs.length) % 2 = 0 from by omega]; rfl]
        rfl
      · subst he
        refine ⟨some ⟨H.next, 0, none⟩, 2 * (l + wl) + 1, (H.kill b).new (.cells (cs.take l ++ (nats ws).map iv) 1), ?_, fresh rfl, ?_⟩
        · simp only [apnd, lenOfv, htk, hbz, cond_false, Nat.ble_eq_true_of_le hb, Nat.ble_eq_true_of_le (show l + wl ≤ 140737488355328 by omega), Bool.and_self, cond_true, ec, hfit2, h3]
          rw [Nat.ble_eq_true_of_le (show 0 + l * 1 ≤ cs.length by omega), hone, hd, h, show Nat.beq ((2 * cs.length + 1) % 2) 0 = false from by rw [show (2 * cs.length + 1) % 2 = 1 from by omega]; rfl]
          rfl
        · refine ⟨(ok.kill b).new _, by simp, fun x o hx e => ?_⟩
          have hne : x ≠ b := fun e2 => hx (e2 ▸ h0)
          have hlt := ok.lt e
          rw [AH.get_new, if_neg (by simp; omega), AH.get_kill, if_neg hne]; exact e

/-! what is known while the vertices are gone through -/
structure CompO (G : List Vtx) (O : Nat → Bool) (f : Nat → Int) (p : Nat) : Prop where
  low : ∀ a, a < p → O a = true
  closed : ∀ a b, O a = true → nearB G a b = true → O b = true ∧ f a = f b
  root : ∀ a, a < G.length → O a = true → ∃ r, ∃ h : r < G.length, r ≤ a ∧ O r = true ∧ f a = G[r].id ∧ f r = f a
structure CompI (G : List Vtx) (v : Int) (O S : Nat → Bool) (f : Nat → Int) (p : Nat) (row : List Nat) : Prop where
  o : CompO G O f p
  old : ∀ a, O a = true → S a = true
  new : ∀ a, S a = true → O a = false → f a = v ∧ ∀ b, nearB G a b = true → (S b = true ∧ O b = false) ∨ b ∈ row
  head : (S p = true ∧ O p = false) ∨ ((∀ a, S a = true → O a = true) ∧ (row = [p] ∨ row = [] ∧ O p = true))
  rows : ∀ b ∈ row, b < G.length
theorem CompI.seen {G : List Vtx} {v : Int} {O S : Nat → Bool} {f : Nat → Int} {p z : Nat} {ys : List Nat} (h : CompI G v O S f p (ys ++ [z])) (hz : S z = true) : CompI G v O S f p ys := by
  refine ⟨h.o, h.old, fun a ha hn => ⟨(h.new a ha hn).1, fun b hb => ?_⟩, ?_, fun b hb => h.rows b (by simp [hb])⟩
  · rcases (h.new a ha hn).2 b hb with h1 | h1
    · exact .inl h1
    · rcases List.mem_append.1 h1 with h2 | h2
      · exact .inr h2
      · have : b = z := by simpa using h2
        subst this
        left
        refine ⟨hz, ?_⟩
        cases ho : O b with
        | false => rfl
        | true =>
          have := (h.o.closed b a ho (by rw [nearB_symm]; exact hb)).1
          rw [hn] at this; cases this
  · rcases h.head with h1 | ⟨h1, h2 | ⟨h2, _⟩⟩
    · exact .inl h1
    · have h3 : ys = [] ∧ z = p := by
        cases ys with
        | nil => simpa using h2
        | cons y ys => simp at h2
      obtain ⟨rfl, rfl⟩ := h3
      exact .inr ⟨h1, .inr ⟨rfl, h1 _ hz⟩⟩
    · simp at h2
theorem CompI.fresh {G : List Vtx} {v : Int} {O S : Nat → Bool} {f : Nat → Int} {p z : Nat} {ys : List Nat} (h : CompI G v O S f p (ys ++ [z])) (hz : S z = false) : CompI G v O (upd S z true) (upd f z v) p (ys ++ nbr G z) := by
  have hoz : O z = false := by
    cases ho : O z with
    | false => rfl
    | true => have := h.old z ho; rw [hz] at this; cases this
  have ne : ∀ {a : Nat}, O a = true → a ≠ z := fun ha e => by rw [e, hoz] at ha; cases ha
  have hzn := h.rows z (by simp)
  refine ⟨⟨h.o.low, fun a b ha hb => ?_, fun a hn ha => ?_⟩, fun a ha => ?_, fun a ha hn => ?_, ?_, fun b hb => ?_⟩
  · obtain ⟨h1, h2⟩ := h.o.closed a b ha hb
    exact ⟨h1, by rw [upd_ne (ne ha), upd_ne (ne h1)]; exact h2⟩
  · obtain ⟨r, hr, h1, h2, h3, h4⟩ := h.o.root a hn ha
    exact ⟨r, hr, h1, h2, by rw [upd_ne (ne ha)]; exact h3, by rw [upd_ne (ne ha), upd_ne (ne h2)]; exact h4⟩
  · rw [upd_ne (ne ha)]; exact h.old a ha
  · by_cases e : a = z
    · subst e
      exact ⟨upd_self _ _ _, fun b hb => .inr (List.mem_append.2 (.inr (nbr_mem.2 ⟨(nearB_iff.1 hb).2.2.1, hb⟩)))⟩
    · rw [upd_ne e] at ha
      refine ⟨by rw [upd_ne e]; exact (h.new a ha hn).1, fun b hb => ?_⟩
      by_cases eb : b = z
      · subst eb; exact .inl ⟨upd_self _ _ _, hoz⟩
      · rcases (h.new a ha hn).2 b hb with h1 | h1
        · exact .inl ⟨by rw [upd_ne eb]; exact h1.1, h1.2⟩
        · rcases List.mem_append.1 h1 with h2 | h2
          · exact .inr (List.mem_append.2 (.inl h2))
          · exact (eb (by simpa using h2)).elim
  · left
    rcases h.head with ⟨h1, h2⟩ | ⟨h1, h2 | ⟨h2, _⟩⟩
    · refine ⟨?_, h2⟩
      by_cases e : p = z
      · rw [e, upd_self]
      · rw [upd_ne e]; exact h1
    · have h3 : ys = [] ∧ z = p := by
        cases ys with
        | nil => simpa using h2
        | cons y ys => simp at h2
      obtain ⟨rfl, rfl⟩ := h3
      exact ⟨upd_self _ _ _, hoz⟩
    · simp at h2
  · rcases List.mem_append.1 hb with h2 | h2
    · exact h.rows b (by simp [h2])
    · exact (nbr_mem.1 h2).1
theorem CompI.done {G : List Vtx} {O S : Nat → Bool} {f : Nat → Int} {p : Nat} (hp : p < G.length) (h : CompI G G[p].id O S f p []) : CompO G S f (p + 1) := by
  have hS : S p = true := by
    rcases h.head with ⟨h1, _⟩ | ⟨_, h2 | ⟨_, h2⟩⟩
    · exact h1
    · simp at h2
    · exact h.old p h2
  refine ⟨fun a ha => ?_, fun a b ha hb => ?_, fun a hn ha => ?_⟩
  · rcases Nat.lt_or_ge a p with h1 | h1
    · exact h.old a (h.o.low a h1)
    · have : a = p := by omega
      subst this; exact hS
  · cases ho : O a with
    | true =>
      obtain ⟨h1, h2⟩ := h.o.closed a b ho hb
      exact ⟨h.old b h1, h2⟩
    | false =>
      obtain ⟨h1, h2⟩ := h.new a ha ho
      rcases h2 b hb with ⟨h3, h4⟩ | h3
      · exact ⟨h3, by rw [h1, (h.new b h3 h4).1]⟩
      · simp at h3
  · cases ho : O a with
    | true =>
      obtain ⟨r, hr, h1, h2, h3, h4⟩ := h.o.root a hn ho
      exact ⟨r, hr, h1, h.old r h2, h3, h4⟩
    | false =>
      have h1 := (h.new a ha ho).1
      rcases h.head with ⟨h2, h3⟩ | ⟨h2, _⟩
      · refine ⟨p, hp, ?_, hS, h1, ?_⟩
        · rcases Nat.lt_or_ge a p with h4 | h4
          · have := h.o.low a h4
            rw [ho] at this; cases this
          · exact h4
        · rw [h1, (h.new p h2 h3).1]
      · have := h2 a ha
        rw [ho] at this; cases this
/-- components are as they must be -/
def CompOk (G : List Vtx) (f : Nat → Int) : Prop := ∀ i, i < G.length → (∃ r, ∃ h : r < G.length, r ≤ i ∧ f i = G[r].id ∧ f r = f i) ∧ ∀ a, nearB G i a = true → f i = f a
theorem CompO.ok {G : List Vtx} {S : Nat → Bool} {f : Nat → Int} (h : CompO G S f G.length) : CompOk G f := fun i hi => by
  obtain ⟨r, hr, h1, _, h3, h4⟩ := h.root i hi (h.low i hi)
  exact ⟨⟨r, hr, h1, h3, h4⟩, fun a ha => (h.closed i a (h.low i hi) ha).2⟩
/-- how much is left to do -/
def mes (G : List Vtx) (S : Nat → Bool) (row : List Nat) : Nat := cntTo (fun a => !S a) G.length * (G.length + 1) + row.length
theorem mes_fresh {G : List Vtx} {S : Nat → Bool} {ys : List Nat} {z : Nat} (hz : S z = false) (hn : z < G.length) : mes G (upd S z true) (ys ++ nbr G z) < mes G S (ys ++ [z]) := by
  have h1 := cntTo_out (S := fun a => !S a) (i := z) (n := G.length) (by rw [hz]; rfl) hn
  rw [show upd (fun a => !S a) z false = fun a => !upd S z true a from upd_map (fun b => !b) S z true] at h1
  have h2 := nbr_len G z
  unfold mes
  rw [← h1, Nat.add_mul, List.length_append, List.length_append, List.length_singleton]
  omega
theorem mes_le {G : List Vtx} (hl : G.length ≤ 256) (S : Nat → Bool) (p : Nat) : mes G S [p] ≤ 66000 := by
  have h1 := cntTo_le (fun a => !S a) G.length
  have h2 : cntTo (fun a => !S a) G.length * (G.length + 1) ≤ 256 * 257 := Nat.mul_le_mul (by omega) (by omega)
  unfold mes
  rw [List.length_singleton]; omega
end Go.Ev
namespace Go.Proofs.Cx
open Go Go.Ev

theorem components_ok {F : Nat → Prop} {a : Option Addr} {l c : Nat} {H : AH} {G : List Vtx} (ok : Ok H) (hG : SlV F H a l G) (hF : ∀ b, F b → b < H.next) (hM : May G) :
    FW Ee F_spec_Components [.agg ⟨[.slice a l c]⟩] H fun r H' => ∃ (b : Nat) (f : Nat → Int), r = .slice (some ⟨b, 0, none⟩) G.length (2 * G.length) ∧ H'.get b = some (.cells (tab (fun i => iv (f i)) G.length) 0) ∧ H.next ≤ b ∧ CompOk G f ∧ Grow H H' := by
  have hl := hM.len
  have hlen := hG.len
  subst hlen
  refine fw_spec_Components ?_
  intro H1 e1
  have g1 : Grow H H1 := e1 ▸ Grow.new ok _
  have b1 : H1.get H.next = some (.cells [.slice a G.length c] 0) := e1 ▸ get_new_self _ _
  have n1 : H1.next = H.next + 1 := by rw [e1]; rfl
  refine ⟨a, G.length, c, cell_of b1 rfl, ?_⟩
  refine (of_ok g1.ok (hG.grow loc_vtx g1) (fun b h => by have := hF b h; omega) hM).mono ?_
  rintro _ H2 ⟨ob, bb, c1, c2, rfl, hO, hB, g2⟩
  refine ⟨_, _, _, _, _, _, _, _, _, rfl, ?_⟩
  intro H3 e3
  obtain ⟨H4, e4, b4, g4, n4⟩ := fresh_store (vs := [.slice a G.length c, .slice (some ⟨ob, 0, none⟩) G.length c1, .slice (some ⟨bb, 0, none⟩) G.length c2]) e3 rfl rfl g2.ok
  have b14 := (g2.trans g4).get _ _ id b1
  refine ⟨H4, e4, a, G.length, c, cell_of b14 rfl, by omega, by omega, by omega, by omega, ?_⟩
  intro H5 e5
  have g5 : Grow H4 H5 := e5 ▸ Grow.new g4.ok _
  have o5 : H5.get H4.next = some (.cells (tab (fun _ => iv 0) G.length) 0) := by rw [e5, get_new_self, tab_const]; rfl
  have n5 : H5.next = H4.next + 1 := by rw [e5]; rfl
  refine ⟨by omega, by omega, by omega, by omega, ?_⟩
  intro H6 e6
  have g6 : Grow H5 H6 := e6 ▸ Grow.new g5.ok _
  have s6 : H6.get H5.next = some (.cells (tab (fun _ => bv false) G.length) 0) := by rw [e6, get_new_self, tab_const]; rfl
  have n6 : H6.next = H5.next + 1 := by rw [e6]; rfl
  have n2 := g2.next
  have B6 := ((hB.grow loc_row g4).grow loc_row g5).grow loc_row g6
  have v6 := g6.get _ _ id (g5.get _ _ id b4)
  have o6 := g6.get _ _ id o5
  have g06 : Grow H H6 := (((g1.trans g2).trans g4).trans g5).trans g6
  have low : ∀ b, New H1 H2 b → ¬ H4.next ≤ b := fun b hb h => by have := hb.2; omega
  refine ⟨a, G.length, c, cell_of (g6.get _ _ id (g5.get _ _ id b14)) rfl, ?_⟩
  refine ⟨fun m i Hb => ∃ (p : Nat) (S : Nat → Bool) (f : Nat → Int), i = p ∧ p ≤ G.length ∧ m = G.length - p ∧ Hb.get H4.next = some (.cells (tab (fun j => iv (f j)) G.length) 0) ∧ Hb.get H5.next = some (.cells (tab (fun j => bv (S j)) G.length) 0) ∧ CompO G S f p ∧ Mod (H4.next ≤ ·) H6 Hb,
    ⟨_, 0, fun _ => false, fun _ => 0, rfl, by omega, rfl, o6, s6, ⟨fun i h => by omega, fun _ _ h => (by cases h), fun _ _ h => (by cases h)⟩, .refl g6.ok⟩, ?_⟩
  rintro m i Hb ⟨p, O, f, rfl, hp, rfl, hf, hs, hO, hm⟩
  refine cond_dec (fun hlt => ?_) (fun hge => ?_)
  · have hk : p < G.length := by omega
    have nb := hm.next
    obtain ⟨hsome, cid, cval, ea, el, ec, cedges, -⟩ := ((hG.grow loc_vtx g06).mod loc_vtx hm (fun b hb h => by have := hF b hb; omega)).nth hk
    refine grd_intro hsome ⟨by omega, by omega, _, _, _, _, _, cid, cval, cedges, ?_⟩
    intro H8 e8
    obtain ⟨H9, e9, b9, g9, n9⟩ := fresh_store (vs := [.int .i64 G[p].id, .int .i64 G[p].val, .slice ea el ec]) e8 rfl rfl hm.ok
    refine ⟨H9, e9, ?_⟩
    intro H10 e10
    have g10 : Grow H9 H10 := e10 ▸ Grow.new g9.ok _
    have n10 : H10.next = H9.next + 1 := by rw [e10]; rfl
    have r10 : H10.get H9.next = some (.cells [.int .i64 (p : Int)] 0) := e10 ▸ get_new_self _ _
    have g910 := g9.trans g10
    have hm10 : Mod (H4.next ≤ ·) H6 H10 := hm.add g910
    refine ⟨fun m ra rl rc Hc => ∃ (S : Nat → Bool) (f : Nat → Int) (row : List Nat), m = mes G S row ∧ m ≤ 66000 ∧ Stk H9.next Hc ra rl rc row ∧ CompI G G[p].id O S f p row ∧ Hc.get H4.next = some (.cells (tab (fun j => iv (f j)) G.length) 0) ∧
        Hc.get H5.next = some (.cells (tab (fun j => bv (S j)) G.length) 0) ∧ Hc.get Hb.next = some (.cells [.int .i64 G[p].id, .int .i64 G[p].val, .slice ea el ec] 0) ∧ H9.next ≤ Hc.next ∧ Mod (H4.next ≤ ·) H6 Hc,
      ⟨_, O, f, [p], rfl, mes_le hl O p, ⟨H9.next, _, _, Nat.le_refl _, rfl, .inl rfl, r10, rfl, rfl, by simp, by simp, rfl⟩,
        ⟨hO, fun _ h => h, fun a h1 h2 => (by rw [h1] at h2; cases h2), .inr ⟨fun _ h => h, .inl rfl⟩, fun b hb => (by have : b = p := (by simpa using hb); subst this; exact hk)⟩,
        g910.get _ _ id hf, g910.get _ _ id hs, g10.get _ _ id b9, by omega, hm10⟩, ?_⟩
    rintro m ra rl rc Hc ⟨S, f2, row, rfl, hmes, hstk, hI, hfc, hsc, hvc, hnc, hmc⟩
    have hrl := hstk.len
    refine cond_dec (fun hne => ?_) (fun hemp => ?_)
    · obtain ⟨ys, z, rfl⟩ : ∃ ys z, row = ys ++ [z] := ⟨row.dropLast, row.getLast (fun e => by rw [e] at hrl; simp at hrl; omega), (List.dropLast_concat_getLast _).symm⟩
      have hrl : rl = ys.length + 1 := by rw [hrl]; simp
      have hys : ys.length ≤ 66000 := by
        have := hmes
        unfold mes at this
        rw [List.length_append] at this; omega
      obtain ⟨p1, p2, rc', p3, p4⟩ := hstk.pop
      have hzn := hI.rows z (by simp)
      intro t35 e35
      rw [wrap_i64 (by omega) (by omega)] at e35
      have e35 : t35 = (ys.length : Int) := by omega
      subst e35
      refine grd_intro p1 ⟨by omega, by omega, _, p2, ?_⟩
      intro t41 e41
      rw [wrap_i64 (by omega) (by omega)] at e41
      have e41 : t41 = (ys.length : Int) := by omega
      subst e41
      refine ⟨_, _, _, p3, by omega, by omega, S z, cell_tab hsc hzn, cond_intro (fun hz => ?_) (fun hz => ?_)⟩
      · refine ⟨mes G S ys, ?_, S, f2, ys, rfl, ?_, p4, hI.seen hz, hfc, hsc, hvc, hnc, hmc⟩
        · unfold mes; rw [List.length_append, List.length_singleton]; omega
        · unfold mes at hmes ⊢; rw [List.length_append] at hmes; omega
      · obtain ⟨H12, q1, q2, q3, q4⟩ := step_tab (g := bv) (x := true) hmc.ok hsc hzn rfl
        have hf12 := q3.get _ _ (by omega) hfc
        obtain ⟨H13, r1, r2, r3, r4⟩ := step_tab (g := iv) (x := G[p].id) q3.ok hf12 hzn rfl
        have m13 : Mod (fun b => b = H4.next ∨ b = H5.next) Hc H13 := (q3.le (fun b h _ => .inr h) hmc.ok).trans (r3.le (fun b h _ => .inl h) q3.ok)
        have hm13 : Mod (H4.next ≤ ·) H6 H13 := hmc.trans (m13.le (fun b h _ => by omega) hmc.ok)
        have v13 := hm13.get _ _ (show ¬ H4.next ≤ H2.next by omega) v6
        obtain ⟨wa, wl, wc, roww⟩ := row_of hM B6 hzn
        obtain ⟨ew, hW, hC⟩ := roww H13 _ hm13 low
        have hwl := row_len hW
        have hwn := nbr_len G z
        obtain ⟨a', c', H14, x1, x2, x3⟩ := (p4.mod m13 fun b h => by omega).push r3.ok hW hC (by omega) (by omega)
        refine ⟨_, cell_of hvc rfl, by omega, by omega, H12, q1, by omega, by omega, H13, r1, cell_of (q3.get _ _ (by omega) hvc) rfl, some ⟨bb, 0, none⟩, _, _, cell_of v13 rfl, grd_intro rfl ⟨by omega, by omega, wa, wl, wc, ew, a', _, c', H14, x1, ?_⟩⟩
        have hlt := mes_fresh (ys := ys) hz hzn
        refine ⟨_, hlt, upd S z true, upd f2 z G[p].id, _, rfl, by omega, x2, hI.fresh hz, x3.get _ _ (by omega) r2, x3.get _ _ (by omega) (r3.get _ _ (by omega) q2), x3.get _ _ (by omega) (m13.get _ _ (by omega) hvc), by have := x3.next; omega,
          hm13.trans (x3.le (fun b h _ => by omega) r3.ok)⟩
    · have hrow : row = [] := List.length_eq_zero_iff.1 (by omega)
      subst hrow
      intro t et
      rw [wrap_i64 (by omega) (by omega)] at et
      subst et
      exact ⟨G.length - (p + 1), by omega, p + 1, S, f2, by simp, by omega, rfl, hfc, hsc, hI.done hk, hmc⟩
  · have hpn : p = G.length := by omega
    subst hpn
    exact ⟨_, f, rfl, hf, by omega, hO.ok, g06.ext hm ok fun b hb => .inr (by omega)⟩
end Go.Proofs.Cx

namespace Go.Ev
open Go
/-- a map in which these numbers stand -/
def MapS (H : AH) (r : Nat) (ks : List Int) : Prop := ∃ es clock, H.get r = some (.map es clock) ∧ es.map (·.key) = ks.map iv ∧ ∀ e ∈ es, e.val = .bool true
theorem MapS.mod {S : Nat → Prop} {H H' : AH} {r : Nat} {ks : List Int} (h : MapS H r ks) (hm : Mod S H H') (hs : ¬ S r) : MapS H' r ks := by
  obtain ⟨es, clock, h1, h2⟩ := h
  exact ⟨es, clock, hm.get _ _ hs h1, h2⟩
theorem setEntry_keys {k v : Value} : ∀ {es : List MapEntry} {n : Nat} {ks : List Int}, es.map (·.key) = ks.map iv → (∀ h : n < es.length, es[n].key = k) → (setEntry k v es n).map (·.key) = ks.map iv
  | [], _, _, h, _ => h
  | e :: es, 0, ks, h, hk => by
    rw [← h]
    simp only [setEntry, List.map_cons]
    rw [show e.key = k from hk (by simp)]
  | e :: es, n + 1, [], h, _ => by simp at h
  | e :: es, n + 1, x :: ks, h, hk => by
    simp only [List.map_cons, List.cons.injEq] at h
    simp only [setEntry, List.map_cons, List.cons.injEq]
    exact ⟨h.1, setEntry_keys h.2 fun hn => hk (by rw [List.length_cons]; omega)⟩
theorem setEntry_vals {k v : Value} : ∀ {es : List MapEntry} {n : Nat}, (∀ e ∈ es, e.val = v) → ∀ e ∈ setEntry k v es n, e.val = v
  | [], _, h => h
  | e :: es, 0, h => by
    intro x hx
    rcases List.mem_cons.1 hx with rfl | h1
    · rfl
    · exact h x (List.mem_cons_of_mem _ h1)
  | e :: es, n + 1, h => by
    intro x hx
    rcases List.mem_cons.1 hx with rfl | h1
    · exact h _ List.mem_cons_self
    · exact setEntry_vals (fun y hy => h y (List.mem_cons_of_mem _ hy)) x h1
end Go.Ev
namespace Go.Proofs.Cx
open Go Go.Ev
set_option maxRecDepth 100000 in
theorem eqv_int {a b : Int} : eqv Ee eqDepth T_int64 (.int .i64 a) (.int .i64 b) = some (a == b) := by kernel_rfl
set_option maxRecDepth 100000 in
theorem lookupv_eq {H : AH} {m : Value} {c : Int} : lookupv Ee H T_M_int64_bool m (.int .i64 c) false = (match entriesOf H m with
    | none => none
    | some es => match findv Ee T_int64 (.int .i64 c) es 0 with
      | some (some (_, v)) => some v
      | some none => some (.bool false)
      | none => none) := by kernel_rfl
set_option maxRecDepth 100000 in
theorem updatev_eq {H : AH} {r : Nat} {c : Int} {v : Value} : updatev Ee H T_M_int64_bool (.map (some r)) (.int .i64 c) v = (match H.get r with
    | some (.map es clock) => match findv Ee T_int64 (.int .i64 c) es 0 with
      | some (some (n, _)) => match es[n]? with
        | some e => bif samek e.key (.int .i64 c) then some (H.set r (.map (setEntry (.int .i64 c) v es n) clock)) else none
        | none => none
      | some none => some (H.set r (.map (es ++ [{ key := .int .i64 c, val := v, born := clock }]) (clock + 1)))
      | none => none
    | _ => none) := by kernel_rfl
theorem findv_in {c : Int} : ∀ {es : List MapEntry} {ks : List Int} {i : Nat}, es.map (·.key) = ks.map iv → (∀ e ∈ es, e.val = .bool true) → c ∈ ks → ∃ n, ∃ h : n < es.length, findv Ee T_int64 (.int .i64 c) es i = some (some (i + n, .bool true)) ∧ es[n].key = iv c
  | [], [], _, _, _, h => by simp at h
  | [], _ :: _, _, h, _, _ => by simp at h
  | _ :: _, [], _, h, _, _ => by simp at h
  | e :: es, x :: ks, i, h, hv, hc => by
    simp only [List.map_cons, List.cons.injEq] at h
    unfold findv
    rw [h.1, show eqv Ee eqDepth T_int64 (.int .i64 c) (iv x) = some (c == x) from eqv_int]
    by_cases e1 : c = x
    · subst e1
      refine ⟨0, by simp, ?_, h.1⟩
      rw [beq_self_eq_true]
      simp only [Nat.add_zero]
      rw [hv e List.mem_cons_self]
    · rw [show (c == x) = false from by simpa using e1]
      obtain ⟨n, hn, h1, h2⟩ := findv_in (i := i + 1) h.2 (fun y hy => hv y (List.mem_cons_of_mem _ hy)) (by simpa [e1] using hc)
      refine ⟨n + 1, by simpa using hn, ?_, by simpa using h2⟩
      simp only [h1, show i + 1 + n = i + (n + 1) from by omega]
theorem findv_out {c : Int} : ∀ {es : List MapEntry} {ks : List Int} {i : Nat}, es.map (·.key) = ks.map iv → c ∉ ks → findv Ee T_int64 (.int .i64 c) es i = some none
  | [], _, _, _, _ => rfl
  | _ :: _, [], _, h, _ => by simp at h
  | e :: es, x :: ks, i, h, hc => by
    simp only [List.map_cons, List.cons.injEq] at h
    unfold findv
    rw [h.1, show eqv Ee eqDepth T_int64 (.int .i64 c) (iv x) = some (c == x) from eqv_int]
    have e1 : c ≠ x := fun e => hc (e ▸ List.mem_cons_self)
    rw [show (c == x) = false from by simpa using e1]
    exact findv_out h.2 fun h2 => hc (List.mem_cons_of_mem _ h2)
theorem map_look {H : AH} {r : Nat} {ks : List Int} (h : MapS H r ks) (c : Int) : lookupv Ee H T_M_int64_bool (.map (some r)) (.int .i64 c) false = some (.bool (decide (c ∈ ks))) := by
  obtain ⟨es, clock, h1, h2, h3⟩ := h
  rw [lookupv_eq]
  have e : entriesOf H (.map (some r)) = some es := by simp only [entriesOf, h1]
  rw [e]
  by_cases hc : c ∈ ks
  · obtain ⟨n, _, h4, _⟩ := findv_in (i := 0) h2 h3 hc
    simp only [h4, hc, decide_true]
  · simp only [findv_out h2 hc, hc, decide_false]
theorem map_put {H : AH} {r : Nat} {ks : List Int} (ok : Ok H) (h : MapS H r ks) (c : Int) : ∃ H' ks', updatev Ee H T_M_int64_bool (.map (some r)) (.int .i64 c) (.bool true) = some H' ∧ MapS H' r ks' ∧ (∀ x, x ∈ ks' ↔ x ∈ ks ∨ x = c) ∧ Mod (· = r) H H' := by
  obtain ⟨es, clock, h1, h2, h3⟩ := h
  rw [updatev_eq]
  simp only [h1]
  by_cases hc : c ∈ ks
  · obtain ⟨n, hn, h4, h5⟩ := findv_in (i := 0) h2 h3 hc
    rw [Nat.zero_add] at h4
    simp only [h4, List.getElem?_eq_getElem hn, h5]
    rw [show samek (iv c) (.int .i64 c) = true from by simp [samek, samebv, iv]]
    refine ⟨_, ks, rfl, ⟨_, _, get_set_self _ _ _, setEntry_keys h2 fun _ => h5, setEntry_vals h3⟩, fun x => ⟨.inl, fun h => h.elim id fun e => e ▸ hc⟩, Mod.set ok h1 _⟩
  · simp only [findv_out h2 hc]
    refine ⟨_, ks ++ [c], rfl, ⟨_, _, get_set_self _ _ _, by simp [h2, iv], ?_⟩, fun x => by simp, Mod.set ok h1 _⟩
    intro e he
    rcases List.mem_append.1 he with h | h
    · exact h3 e h
    · have : e = { key := .int .i64 c, val := .bool true, born := clock } := by simpa using h
      rw [this]

theorem slv_low {F : Nat → Prop} {a : Option Addr} {l : Nat} {H : AH} {G : List Vtx} (ok : Ok H) (h : SlV F H a l G) : SlV (fun b => b < H.next) H a l G := by
  have hv : ∀ b o v, PVtx F H b o v → PVtx (fun b => b < H.next) H b o v := by
    rintro b o v ⟨h1, h2, ea, el, ec, h3, h4⟩
    refine ⟨h1, h2, ea, el, ec, h3, h4.len, fun hp => ⟨(h4.base hp).1, ?_⟩, h4.cells⟩
    exact cell_lt ok (h4.cells 0 (by have := h4.len; omega)).1
  refine ⟨h.len, fun hp => ⟨(h.base hp).1, ?_⟩, fun i hi => hv _ _ _ (h.cells i hi)⟩
  exact cell_lt ok (h.cells 0 (by have := h.len; omega)).1
theorem greatest_ok {F : Nat → Prop} {a : Option Addr} {l c : Nat} {H : AH} {G : List Vtx} {cb k : Nat} {f : Nat → Int} {S : Nat → Bool} (ok : Ok H) (hG : SlV F H a l G) (hE : ∀ v ∈ G, v.edges.length ≤ 4611686018427387903) (hl : G.length ≤ 256)
    (hc : H.get cb = some (.cells (tab (fun i => iv (f i)) G.length) 0)) (hf : ∀ j, j < G.length → f j = coreV G S j) (hk : KC G k S) (hH : Holds G k S) :
    FW Ee F_cohortlaw10_greatest [.slice a l c, .slice (some ⟨cb, 0, none⟩) G.length (2 * G.length), .int .i64 k] H fun r H' => r = .bool true ∧ Grow H H' := by
  have hlen := hG.len
  subst hlen
  refine fw_cohortlaw10_greatest ?_
  refine ⟨by omega, by omega, by omega, by omega, ?_⟩
  intro H1 e1
  have g1 : Grow H H1 := e1 ▸ Grow.new ok _
  have n1 : H1.next = H.next + 1 := by rw [e1]; rfl
  have o1 : H1.get H.next = some (.cells (tab (fun _ => bv false) G.length) 0) := by rw [e1, get_new_self, tab_const]; rfl
  refine ⟨fun m i Hb => ∃ (p : Nat) (T : Nat → Bool), i = p ∧ p ≤ G.length ∧ m = G.length - p ∧ Hb.get H.next = some (.cells (tab (fun j => bv (T j)) G.length) 0) ∧ (∀ j, j < p → T j = true) ∧ Mod (· = H.next) H1 Hb,
    ⟨_, 0, fun _ => false, rfl, by omega, rfl, o1, fun j h => by omega, .refl g1.ok⟩, ?_⟩
  rintro m i Hb ⟨p, T, rfl, hp, rfl, hT, hall, hm⟩
  refine cond_dec (fun hlt => ?_) (fun hge => ?_)
  · have hpk : p < G.length := by omega
    obtain ⟨H6, s1, s2, s3, -⟩ := step_tab (g := bv) (x := true) hm.ok hT hpk rfl
    refine ⟨by omega, by omega, H6, s1, ?_⟩
    intro t et
    rw [wrap_i64 (by omega) (by omega)] at et
    subst et
    refine ⟨G.length - (p + 1), by omega, p + 1, _, by simp, by omega, rfl, s2, fun j hj => ?_, hm.trans s3⟩
    simp only [upd]; split
    · rfl
    · exact hall j (by omega)
  have hpn : p = G.length := by omega
  subst hpn
  have low : ∀ {Hx : AH}, Mod (· = H.next) H1 Hx → SlV (fun b => b < H.next) Hx a G.length G := fun hx => ((slv_low ok hG).grow loc_vtx g1).mod loc_vtx hx (fun b hb h => by omega)
  have hall : ∀ j, j < G.length → T j = true := hall
  refine ⟨fun m i Hb => ∃ (t : Nat) (T : Nat → Bool), i = t ∧ t ≤ G.length ∧ m = G.length - t ∧ Hb.get H.next = some (.cells (tab (fun j => bv (T j)) G.length) 0) ∧ Holds G k T ∧ (KC G k T ∨ cntTo T G.length + t ≤ G.length) ∧ Mod (· = H.next) H1 Hb,
    ⟨_, 0, T, rfl, by omega, rfl, hT, fun _ _ j hj _ => hall j hj, .inr (by have := cntTo_le T G.length; omega), hm⟩, ?_⟩
  clear hT hall hm
  rintro m i Hc ⟨t, T0, rfl, ht, rfl, hT0, hH0, halt0, hm0⟩
  refine cond_dec (fun hlt => ?_) (fun hge => ?_)
  · refine ⟨fun m i Hd => ∃ (p : Nat) (T : Nat → Bool), i = p ∧ p ≤ G.length ∧ m = G.length - p ∧ Hd.get H.next = some (.cells (tab (fun j => bv (T j)) G.length) 0) ∧ Holds G k T ∧ (∀ j, j < G.length → T j = true → T0 j = true) ∧
        (((∀ j, j < G.length → T j = T0 j) ∧ ∀ j, j < p → T j = true → k ≤ inS G T j) ∨ cntTo T G.length < cntTo T0 G.length) ∧ Mod (· = H.next) H1 Hd,
      ⟨_, 0, T0, rfl, by omega, rfl, hT0, hH0, fun _ _ h => h, .inl ⟨fun _ _ => rfl, fun j h => by omega⟩, hm0⟩, ?_⟩
    rintro m i Hd ⟨p, T, rfl, hp, rfl, hT, hHT, hsub, halt, hmd⟩
    refine cond_dec (fun hlt2 => ?_) (fun hge2 => ?_)
    · have hpk : p < G.length := by omega
      refine ⟨fun m n i He => Hd = He ∧ ∃ q : Nat, i = q ∧ q ≤ G.length ∧ m = G.length - q ∧ n = (cntTo (fun a => T a && nearB G p a) q : Nat), ⟨_, rfl, 0, rfl, by omega, rfl, rfl⟩, ?_⟩
      rintro m n i He ⟨rfl, q, rfl, hq, rfl, rfl⟩
      refine cond_dec (fun hlt3 => ?_) (fun hge3 => ?_)
      · have hqk : q < G.length := by omega
        have hcl := cntTo_le (fun a => T a && nearB G p a) q
        have next : ∀ n' : Int, n' = (cntTo (fun a => T a && nearB G p a) (q + 1) : Nat) → ∀ t : Int, t = IntKind.i64.wrap ((q : Int) + 1) → ∃ m, m < G.length - q ∧ (Hd = Hd ∧ ∃ q : Nat, t = q ∧ q ≤ G.length ∧ m = G.length - q ∧ n' = (cntTo (fun a => T a && nearB G p a) q : Nat)) := by
          intro n' en t et
          rw [wrap_i64 (by omega) (by omega)] at et
          subst et
          exact ⟨G.length - (q + 1), by omega, rfl, q + 1, by simp, by omega, rfl, en⟩
        refine ⟨by omega, by omega, T q, cell_tab hT hqk, cond_intro (fun hTq => ?_) (fun hTq => ?_)⟩
        · refine (near_ok (low hmd) hE hpk hqk).mono ?_
          rintro _ _ ⟨b, rfl, hb, rfl⟩
          have hbn := nearB_of hb
          refine ⟨b, rfl, cond_intro (fun hbt => ?_) (fun hbf => ?_)⟩
          · intro t et
            rw [wrap_i64 (by omega) (by omega)] at et
            refine next t ?_
            rw [et, cntTo_succ, hTq, hbn, hbt]; rfl
          · refine next _ ?_
            rw [cntTo_succ, hTq, hbn, hbf]; rfl
        · refine next _ ?_
          rw [cntTo_succ, hTq]; rfl
      · have hqn : q = G.length := by omega
        subst hqn
        refine cond_dec (fun hfew => ?_) (fun hmany => ?_)
        · have hfew : inS G T p < k := by unfold inS; omega
          obtain ⟨H6, s1, s2, s3, -⟩ := step_tab (g := bv) (x := false) hmd.ok hT hpk rfl
          refine ⟨by omega, by omega, H6, s1, ?_⟩
          intro t' et
          rw [wrap_i64 (by omega) (by omega)] at et
          subst et
          refine ⟨G.length - (p + 1), by omega, p + 1, _, by simp, by omega, rfl, s2, hHT.out hfew, fun j hj h => ?_, ?_, hmd.trans s3⟩
          · by_cases e : j = p
            · rw [e, upd_self] at h; cases h
            · rw [upd_ne e] at h; exact hsub j hj h
          · cases hTp : T p with
            | true =>
              right
              have h1 := cntTo_out hTp hpk
              have h2 := cntTo_mono hsub
              omega
            | false =>
              rw [upd_same hTp]
              rcases halt with ⟨h1, h2⟩ | h1
              · left
                refine ⟨h1, fun j hj h => ?_⟩
                rcases Nat.lt_or_ge j p with h3 | h3
                · exact h2 j h3 h
                · have : j = p := by omega
                  rw [this, hTp] at h; cases h
              · exact .inr h1
        · have hmany : k ≤ inS G T p := by unfold inS; omega
          intro t' et
          rw [wrap_i64 (by omega) (by omega)] at et
          subst et
          refine ⟨G.length - (p + 1), by omega, p + 1, T, by simp, by omega, rfl, hT, hHT, hsub, ?_, hmd⟩
          rcases halt with ⟨h1, h2⟩ | h1
          · left
            refine ⟨h1, fun j hj h => ?_⟩
            rcases Nat.lt_or_ge j p with h3 | h3
            · exact h2 j h3 h
            · have : j = p := by omega
              rw [this]; exact hmany
          · exact .inr h1
    · have hpn : p = G.length := by omega
      subst hpn
      intro t' et
      rw [wrap_i64 (by omega) (by omega)] at et
      subst et
      refine ⟨G.length - (t + 1), by omega, t + 1, T, by simp, by omega, rfl, hT, hHT, ?_, hmd⟩
      rcases halt with ⟨_, h2⟩ | h1
      · exact .inl h2
      · rcases halt0 with h3 | h3
        · have := cntTo_mono (hHT T0 h3)
          omega
        · exact .inr (by omega)
  · have htn : t = G.length := by omega
    subst htn
    have hkT : KC G k T0 := by
      rcases halt0 with h | h
      · exact h
      · intro j hj hTj
        rw [cntTo_none (show cntTo T0 G.length = 0 by omega) j hj] at hTj; cases hTj
    have same := hH.same hH0 hk hkT
    refine ⟨fun m _ i He => Hc = He ∧ ∃ q : Nat, i = q ∧ q ≤ G.length ∧ m = G.length - q, ⟨_, rfl, 0, rfl, by omega, rfl⟩, ?_⟩
    rintro m b i He ⟨rfl, q, rfl, hq, rfl⟩
    refine cond_dec (fun hlt2 => ?_) (fun hge2 => ?_)
    · have hqk : q < G.length := by omega
      have hcx : cb < H.next := ok.lt hc
      have hcc := hm0.get _ _ (show ¬ cb = H.next by omega) (g1.get _ _ id hc)
      refine ⟨by omega, by omega, T0 q, cell_tab hT0 hqk, grd_intro rfl ⟨by omega, by omega, _, cell_tab hcc hqk, ?_⟩⟩
      have e : T0 q = decide (f q ≥ 0) := by
        rw [← same q hqk, hf q hqk]
        unfold coreV
        cases S q
        · rfl
        · simp
      refine cond_neg (by rw [e]; simp) ?_
      intro t' et
      rw [wrap_i64 (by omega) (by omega)] at et
      subst et
      exact ⟨G.length - (q + 1), by omega, rfl, q + 1, by simp, by omega, rfl⟩
    · exact ⟨rfl, g1.ext hm0 ok fun b hb => .inr (by omega)⟩
end Go.Proofs.Cx

namespace Go.Ev
open Go
theorem coreV_sign (G : List Vtx) (S : Nat → Bool) (j : Nat) : decide (coreV G S j ≥ 0) = S j := by
  unfold coreV
  cases S j
  · rfl
  · simp
noncomputable def trq (G : List Vtx) (p q s : Nat) : Nat := bif decide (q < p) then cntTo (fun c => nearB G p c && (decide (p < c) && nearB G q c)) s else 0
noncomputable def trs (G : List Vtx) (p q : Nat) : Nat := sumTo (fun a => bif nearB G p a then (bif decide (a < p) then trip G p a else 0) else 0) q
theorem trq_start (G : List Vtx) (p q : Nat) : trq G p q (q + 1) = 0 := by
  unfold trq
  by_cases h : q < p
  · rw [decide_eq_true h, cond_true]
    refine cntTo_zero fun i hi => ?_
    rw [show decide (p < i) = false from by simp; omega]; simp
  · rw [decide_eq_false h]; rfl
theorem trq_end (G : List Vtx) (p q : Nat) : trq G p q G.length = bif decide (q < p) then trip G p q else 0 := rfl
theorem trq_le (G : List Vtx) (p q s : Nat) : trq G p q s ≤ s := by
  unfold trq
  have := cntTo_le (fun c => nearB G p c && (decide (p < c) && nearB G q c)) s
  cases decide (q < p) <;> simp <;> omega
theorem trs_le (G : List Vtx) (p q : Nat) : trs G p q ≤ q * G.length := by
  refine sumTo_le fun i _ => ?_
  have := trip_le G p i
  cases nearB G p i <;> cases decide (i < p) <;> simp <;> omega
end Go.Ev
namespace Go.Proofs.Cx
open Go Go.Ev Go.RowKit

theorem law_sets {F : Nat → Prop} {a : Option Addr} {l c : Nat} {H : AH} {G : List Vtx} (ok : Ok H) (hG : SlV F H a l G) (hf : Fit G) (hF : ∀ b, F b → b < H.next) (k1 : Int) :
    FW Ee F_cohortlaw10_SpecSets [.agg ⟨[.slice a l c]⟩, .int .i64 k1] H fun r H' => r = .bool true ∧ Grow H H' := by
  have hlen := hG.len
  refine fw_cohortlaw10_SpecSets ?_
  intro H1 e1
  have g1 : Grow H H1 := e1 ▸ Grow.new ok _
  have b1 : H1.get H.next = some (.cells [.slice a l c] 0) := e1 ▸ get_new_self _ _
  refine ⟨a, l, c, cell_of b1 rfl, (good_ok g1.ok (hG.grow loc_vtx g1) hf).mono ?_⟩
  rintro _ H2 ⟨b, rfl, hgood, g2⟩
  refine ⟨b, rfl, cond_intro (fun _ => ?_) (fun hb2 => ?_)⟩
  · refine awake_ok.mono ?_
    rintro _ _ ⟨rfl, rfl⟩
    exact ⟨_, rfl, rfl, g1.trans g2⟩
  have hb2 : b = true := by simpa using hb2
  obtain ⟨hM, h20, _⟩ := hgood hb2
  have hr := hM.steps.rising
  have g12 := g1.trans g2
  refine ⟨a, l, c, cell_of (g2.get _ _ id b1) rfl, (ref_ok g2.ok (hG.grow loc_vtx g12) hf).mono ?_⟩
  rintro _ H4 ⟨xa, xl, xc, rfl, hX, g4⟩
  have g14 := g12.trans g4
  have hxl := hX.len
  have b4 := (g2.trans g4).get _ _ id b1
  have hE : ∀ v ∈ G, v.edges.length ≤ 4611686018427387903 := by
    intro v hv
    have h1 : v.edges.length ≤ nE G := by
      obtain ⟨k, hk, rfl⟩ := List.mem_iff_getElem.1 hv
      have h2 := nE_take hk
      have h3 := nE_take_le G (k + 1)
      omega
    have := hM.many
    omega
  refine ⟨xa, xl, xc, rfl, fun k Hx => H4 = Hx ∧ 0 ≤ k, ⟨cond_dec (fun _ => ⟨rfl, by omega⟩) (fun h => ⟨rfl, by omega⟩), ?_⟩⟩
  rintro k0 _ ⟨rfl, hk0⟩
  refine ⟨by decide, ?_⟩
  intro t31 e31
  obtain ⟨k, rfl⟩ : ∃ k : Nat, t31 = k := ⟨t31.toNat, by have := Int.tmod_nonneg 6 hk0; omega⟩
  clear e31
  have G4 := hG.grow loc_vtx g14
  have n4 := g14.next
  refine ⟨a, l, c, cell_of b4 rfl, (components_ok g4.ok G4 (fun b hb => by have := hF b hb; omega) hM).mono ?_⟩
  rintro _ H6 ⟨pb, pf, rfl, hp6, hpb, hpf, g6⟩
  have b6 := g6.get _ _ id b4
  have n6 := g6.next
  refine ⟨_, _, _, rfl, a, l, c, cell_of b6 rfl, (triangles_ok g6.ok (G4.grow loc_vtx g6) (fun b hb => by have := hF b hb; omega) hM).mono ?_⟩
  rintro _ H7 ⟨tb, tf, rfl, ht7, htb, htf, g7⟩
  have b7 := g7.get _ _ id b6
  have n7 := g7.next
  have g67 := g6.trans g7
  refine ⟨_, _, _, rfl, a, l, c, cell_of b7 rfl, (core_ok g7.ok (G4.grow loc_vtx g67) (fun b hb => by have := hF b hb; omega) hM k).mono ?_⟩
  rintro _ H8 ⟨cb, cf, S, rfl, hc8, hcb, hcf, hKC, hHo, g8⟩
  have b8 := g8.get _ _ id b7
  have n8 := g8.next
  have g68 := g67.trans g8
  refine ⟨_, _, _, rfl, a, l, c, cell_of b8 rfl, (colors_ok g8.ok (G4.grow loc_vtx g68) (fun b hb => by have := hF b hb; omega) hM).mono ?_⟩
  rintro _ H9 ⟨lb, lf, rfl, hl9, hlb, hlf, g9⟩
  have hp9 := (g7.trans (g8.trans g9)).get _ _ id hp6
  have ht9 := (g8.trans g9).get _ _ id ht7
  have hc9 := g9.get _ _ id hc8
  have g49 := g68.trans g9
  have gall := g14.trans g49
  have X9 := hX.grow loc_vtx g49
  refine ⟨_, _, _, rfl, cell_of b7 rfl, cell_of b6 rfl, cell_of b4 rfl, cell_of b6 rfl, cell_of b4 rfl, cell_of b4 rfl, ?_⟩
  have hne : (((G.length : Nat) : Int) != ((xl : Nat) : Int)) = false := by rw [hxl]; simp
  refine cond_neg hne (cond_neg hne (cond_neg hne (cond_neg hne ?_)))
  refine ⟨fun m _ i Hb => ∃ p : Nat, i = p ∧ p ≤ G.length ∧ m = G.length - p ∧ Grow H9 Hb, ⟨_, 0, rfl, by omega, rfl, .refl g9.ok⟩, ?_⟩
  rintro m t4 i Hb ⟨p, rfl, hp, rfl, gb⟩
  refine cond_dec (fun hlt => ?_) (fun hge => ?_)
  · have hk : p < G.length := by omega
    have Xb := X9.grow loc_vtx gb
    obtain ⟨⟨r, hrk, hrp, hr1, hr2⟩, hnear⟩ := hpf p hk
    have hfr : fnd G (pf p) = r := by rw [hr1]; exact fnd_self hr hrk
    have his : isIn G (pf p) = true := by rw [hr1]; exact isIn_self hr hrk
    have hpB := gb.get _ _ id hp9
    have hlB := gb.get _ _ id hl9
    have htB := gb.get _ _ id ht9
    have hcB := gb.get _ _ id hc9
    obtain ⟨c1, c2, c3, c4⟩ := hlf p hk
    refine grd_intro rfl ⟨by omega, by omega, pf p, cell_tab hpB hk, (rfind_ok Xb (by omega)).mono ?_⟩
    rintro _ _ ⟨rfl, rfl⟩
    refine ⟨_, _, rfl, cond_neg (by rw [his]; rfl) (cond_neg (by rw [hfr]; simp; omega) ?_)⟩
    rw [hfr]
    refine grd_intro rfl ⟨by omega, by omega, pf r, cell_tab hpB hrk, grd_intro rfl ⟨by omega, by omega, pf p, cell_tab hpB hk, cond_neg (by rw [hr2]; simp) ?_⟩⟩
    intro H12 e12
    have g12' : Grow Hb H12 := e12 ▸ Grow.new gb.ok _
    have m12 : MapS H12 Hb.next [] := ⟨[], 0, e12 ▸ get_new_self _ _, rfl, fun e h => by simp at h⟩
    refine ⟨fun m _ inn cnt a Hx => ∃ (q : Nat) (ks : List Int), a = q ∧ q ≤ G.length ∧ m = G.length - q ∧ inn = (cntTo (fun a => S a && nearB G p a) q : Nat) ∧ cnt = (trs G p q : Nat) ∧ MapS Hx Hb.next ks ∧
        (∀ x, x ∈ ks ↔ ∃ a, a < q ∧ a < p ∧ nearB G p a = true ∧ lf a = x) ∧ Grow H9 Hx ∧ Hb.next < Hx.next,
      ⟨_, 0, [], rfl, by omega, rfl, rfl, rfl, m12, fun x => by simp, gb.trans g12', by rw [e12]; exact Nat.lt_succ_self _⟩, ?_⟩
    rintro m t5 inn cnt ai Hx ⟨q, ks, rfl, hq, rfl, rfl, rfl, hmap, hks, gx, hnx⟩
    have Xx := X9.grow loc_vtx gx
    have hpX := gx.get _ _ id hp9
    have hlX := gx.get _ _ id hl9
    have htX := gx.get _ _ id ht9
    have hcX := gx.get _ _ id hc9
    have htrs := trs_le G p q
    have htrs2 : q * G.length ≤ 256 * 256 := Nat.mul_le_mul (by have := hM.len; omega) hM.len
    have hcl := cntTo_le (fun a => S a && nearB G p a) q
    refine cond_dec (fun hlt2 => ?_) (fun hge2 => ?_)
    · have hqk : q < G.length := by omega
      refine (near_ok Xx hE hk hqk).mono ?_
      rintro _ _ ⟨b, rfl, hb, rfl⟩
      have hbn := nearB_of hb
      have trs_succ : trs G p (q + 1) = trs G p q + (bif nearB G p q then (bif decide (q < p) then trip G p q else 0) else 0) := rfl
      refine ⟨b, rfl, cond_intro (fun hbf => ?_) (fun hbt => ?_)⟩
      · have hbf : b = false := by simpa using hbf
        intro t et
        rw [wrap_i64 (by omega) (by omega)] at et
        subst et
        refine ⟨G.length - (q + 1), by omega, q + 1, ks, by simp, by omega, rfl, ?_, ?_, hmap, fun x => ?_, gx, hnx⟩
        · rw [cntTo_succ, hbn, hbf]; simp
        · rw [trs_succ, hbn, hbf]; rfl
        · rw [hks]
          constructor
          · rintro ⟨a, h1, h2⟩; exact ⟨a, by omega, h2⟩
          · rintro ⟨a, h1, h2, h3, h4⟩
            have : a ≠ q := fun e => by rw [e, hbn, hbf] at h3; cases h3
            exact ⟨a, by omega, h2, h3, h4⟩
      · have hbt : b = true := by simpa using hbt
        rw [hbt] at hbn
        have hqp : q ≠ p := fun e => by rw [e, nearB_self] at hbn; cases hbn
        have hcol : lf q ≠ lf p := by
          rcases Nat.lt_or_ge q p with h | h
          · exact c3 q h hbn
          · exact fun e => (hlf q hqk).2.2.1 p (by omega) (by rw [nearB_symm]; exact hbn) e.symm
        refine grd_intro rfl ⟨by omega, by omega, pf q, cell_tab hpX hqk, grd_intro rfl ⟨by omega, by omega, pf p, cell_tab hpX hk, cond_neg (by rw [hnear q hbn]; simp) ?_⟩⟩
        refine grd_intro rfl ⟨by omega, by omega, lf q, cell_tab hlX hqk, grd_intro rfl ⟨by omega, by omega, lf p, cell_tab hlX hk, cond_neg (by simpa using hcol) ?_⟩⟩
        refine ⟨fun Hy => ∃ ks', MapS Hy Hb.next ks' ∧ (∀ x, x ∈ ks' ↔ ∃ a, a < q + 1 ∧ a < p ∧ nearB G p a = true ∧ lf a = x) ∧ Grow H9 Hy ∧ Hb.next < Hy.next, ⟨cond_dec (fun hlo => ?_) (fun hhi => ?_), ?_⟩⟩
        · obtain ⟨H15, ks', u1, u2, u3, u4⟩ := map_put gx.ok hmap (lf q)
          have un := u4.next
          have gbn := gb.next
          refine grd_intro rfl ⟨by omega, by omega, lf q, cell_tab hlX hqk, H15, u1, ks', u2, fun x => ?_, gx.ext u4 g9.ok (fun b hb => .inr (by omega)), by omega⟩
          rw [u3, hks]
          constructor
          · rintro (⟨a, h1, h2⟩ | rfl)
            · exact ⟨a, by omega, h2⟩
            · exact ⟨q, by omega, by omega, hbn, rfl⟩
          · rintro ⟨a, h1, h2, h3, h4⟩
            by_cases e : a = q
            · subst e; exact .inr h4.symm
            · exact .inl ⟨a, by omega, h2, h3, h4⟩
        · refine ⟨ks, hmap, fun x => ?_, gx, hnx⟩
          rw [hks]
          constructor
          · rintro ⟨a, h1, h2⟩; exact ⟨a, by omega, h2⟩
          · rintro ⟨a, h1, h2, h3⟩; exact ⟨a, by omega, h2, h3⟩
        rintro Hy ⟨ks2, hmap2, hks2, gy, hny⟩
        have hcY := gy.get _ _ id hc9
        have Xy := X9.grow loc_vtx gy
        refine grd_intro rfl ⟨by omega, by omega, cf q, cell_tab hcY hqk, ?_⟩
        have hsg : decide (cf q ≥ 0) = S q := by rw [hcf q hqk]; exact coreV_sign G S q
        refine ⟨fun inn Hz => Hy = Hz ∧ inn = (cntTo (fun a => S a && nearB G p a) (q + 1) : Nat), ⟨?_, ?_⟩⟩
        · rw [hsg]
          refine cond_intro (fun hs => ?_) (fun hs => ?_)
          · intro t et
            rw [wrap_i64 (by omega) (by omega)] at et
            refine ⟨rfl, ?_⟩
            rw [et, cntTo_succ, hs, hbn]; rfl
          · refine ⟨rfl, ?_⟩
            rw [cntTo_succ, hs]; rfl
        rintro inn2 Hz ⟨rfl, rfl⟩
        intro t142 e142
        rw [wrap_i64 (by omega) (by omega)] at e142
        subst e142
        refine ⟨fun m cnt ci Hw => Hy = Hw ∧ ∃ s : Nat, ci = s ∧ q + 1 ≤ s ∧ s ≤ G.length ∧ m = G.length - s ∧ cnt = ((trs G p q + trq G p q s : Nat) : Int), ⟨_, rfl, q + 1, by simp, by omega, by omega, rfl, by rw [trq_start]; rfl⟩, ?_⟩
        rintro m cnt ci Hw ⟨rfl, s, rfl, hs1, hs2, rfl, rfl⟩
        have htrq := trq_le G p q s
        have hl256 := hM.len
        refine cond_dec (fun hlt3 => ?_) (fun hge3 => ?_)
        · have hsk : s < G.length := by omega
          have next : ∀ cnt' : Int, cnt' = ((trs G p q + trq G p q (s + 1) : Nat) : Int) → ∀ t : Int, t = IntKind.i64.wrap ((s : Int) + 1) → ∃ m, m < G.length - s ∧ (Hy = Hy ∧ ∃ s : Nat, t = s ∧ q + 1 ≤ s ∧ s ≤ G.length ∧ m = G.length - s ∧ cnt' = ((trs G p q + trq G p q s : Nat) : Int)) := by
            intro cnt' ec t et
            rw [wrap_i64 (by omega) (by omega)] at et
            subst et
            exact ⟨G.length - (s + 1), by omega, rfl, s + 1, by simp, by omega, by omega, rfl, ec⟩
          refine cond_dec (fun hlo => ?_) (fun hhi => ?_)
          · have hlo : q < p := by omega
            have trq_succ : trq G p q (s + 1) = trq G p q s + bif nearB G p s && (decide (p < s) && nearB G q s) then 1 else 0 := by
              unfold trq; rw [decide_eq_true hlo]; rfl
            refine cond_dec (fun hup => ?_) (fun hdn => ?_)
            · have hup : p < s := by omega
              refine (near_ok Xy hE hk hsk).mono ?_
              rintro _ _ ⟨b2, rfl, hb2, rfl⟩
              have hb2n := nearB_of hb2
              refine ⟨b2, rfl, cond_intro (fun hb2t => ?_) (fun hb2f => ?_)⟩
              · refine (near_ok Xy hE hqk hsk).mono ?_
                rintro _ _ ⟨b3, rfl, hb3, rfl⟩
                have hb3n := nearB_of hb3
                refine ⟨b3, rfl, cond_intro (fun hb3t => ?_) (fun hb3f => ?_)⟩
                · intro t et
                  rw [wrap_i64 (by omega) (by omega)] at et
                  refine next t ?_
                  rw [et, trq_succ, hb2n, hb3n, hb2t, hb3t, decide_eq_true hup]; rfl
                · refine next _ ?_
                  rw [trq_succ, hb2n, hb3n, hb3f]; simp
              · refine next _ ?_
                rw [trq_succ, hb2n, hb2f]; rfl
            · refine next _ ?_
              rw [trq_succ, decide_eq_false (show ¬ p < s by omega)]; simp
          · refine next _ ?_
            have : ∀ s, trq G p q s = 0 := fun s => by unfold trq; rw [decide_eq_false (show ¬ q < p by omega)]; rfl
            rw [this, this]
        · have hsn : s = G.length := by omega
          subst hsn
          intro t et
          rw [wrap_i64 (by omega) (by omega)] at et
          subst et
          refine ⟨G.length - (q + 1), by omega, q + 1, ks2, by simp, by omega, rfl, rfl, ?_, hmap2, hks2, gy, hny⟩
          rw [trs_succ, hbn, cond_true, trq_end]
    · have hqn : q = G.length := by omega
      subst hqn
      refine ⟨fun m _ ci Hw => Hx = Hw ∧ ∃ d : Nat, ci = d ∧ (d : Int) ≤ lf p ∧ m = (lf p).toNat - d, ⟨_, rfl, 0, rfl, by omega, rfl⟩, ?_⟩
      rintro m t6 ci Hw ⟨rfl, d, rfl, hd, rfl⟩
      refine grd_intro rfl ⟨by omega, by omega, lf p, cell_tab hlX hk, cond_dec (fun hlt3 => ?_) (fun hge3 => ?_)⟩
      · have hin : (d : Int) ∈ ks := by
          obtain ⟨a, h1, h2, h3⟩ := c4 d (by omega) hlt3
          exact (hks _).2 ⟨a, by omega, h1, h2, h3⟩
        refine ⟨_, map_look hmap _, cond_neg (by simp [hin]) ?_⟩
        intro t et
        rw [wrap_i64 (by omega) (by omega)] at et
        subst et
        exact ⟨(lf p).toNat - (d + 1), by omega, rfl, d + 1, by simp, by omega, rfl⟩
      · have hout : lf p ∉ ks := by
          intro h
          obtain ⟨a, _, h1, h2, h3⟩ := (hks _).1 h
          exact c3 a h1 h2 h3
        refine grd_intro rfl ⟨by omega, by omega, tf p, cell_tab htX hk, cond_neg (by rw [htf p hk]; simp [tri, trs]) ?_⟩
        refine grd_intro rfl ⟨by omega, by omega, lf p, cell_tab hlX hk, _, map_look hmap _, cond_neg (by simp [hout]) ?_⟩
        have fin : ∀ t : Int, t = IntKind.i64.wrap ((p : Int) + 1) → ∃ m, m < G.length - p ∧ ∃ p : Nat, t = p ∧ p ≤ G.length ∧ m = G.length - p ∧ Grow H9 Hx := by
          intro t et
          rw [wrap_i64 (by omega) (by omega)] at et
          subst et
          exact ⟨G.length - (p + 1), by omega, p + 1, by simp, by omega, rfl, gx⟩
        refine grd_intro rfl ⟨by omega, by omega, cf p, cell_tab hcX hk, ?_⟩
        have hsg : decide (cf p ≥ 0) = S p := by rw [hcf p hk]; exact coreV_sign G S p
        rw [hsg]
        refine cond_intro (fun hs => ?_) (fun hs => fin)
        have hval : cf p = (inS G S p : Nat) := by rw [hcf p hk]; unfold coreV; rw [hs]; rfl
        have henough := hKC p hk hs
        refine grd_intro rfl ⟨by omega, by omega, cf p, cell_tab hcX hk, cond_neg (by rw [hval]; simp [inS]) (cond_neg ?_ fin)⟩
        have : ¬ ((cntTo (fun a => S a && nearB G p a) G.length : Nat) : Int) < (k : Int) := by
          unfold inS at henough; omega
        simpa using this
  · refine awake_ok.mono ?_
    rintro _ _ ⟨rfl, rfl⟩
    refine ⟨true, rfl, cond_pos rfl ?_⟩
    have hxe : xl = G.length := hxl
    have Xb := X9.grow loc_vtx gb
    refine (greatest_ok gb.ok Xb hE hM.len (gb.get _ _ id hc9) hcf hKC hHo).mono ?_
    rintro _ Hq ⟨rfl, gq⟩
    exact ⟨true, rfl, rfl, (gall.trans gb).trans gq⟩
end Go.Proofs.Cx
