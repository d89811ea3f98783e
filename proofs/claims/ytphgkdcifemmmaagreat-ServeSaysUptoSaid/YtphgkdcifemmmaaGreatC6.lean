/- MasterTexts: small jobs, what comes in. MasterTexts: the law, as formulas have it. MasterTexts: what comes in. Maps whose keys are whole numbers. A master without jobs: who joins, who is lost. MasterNil: a nil master, and one that is new. -/
import Derived.Test.YtphgkdcifemmmaaGreatC5
import Derived.Test.YtphgkdcifemmmaaGreatVc1
import Derived.Test.YtphgkdcifemmmaaGreatB3
import Derived.Test.YtphgkdcifemmmaaGreatC4
namespace Go.Ev
open Go
theorem Sl.pre {α : Type} {F : Nat → Prop} {H : AH} {sz : Nat} {P : AH → Nat → Nat → α → Prop} {x : Addr} {l k : Nat} {xs : List α} (h : Sl F H sz P (some x) l xs) (hk : k ≤ l) (h0 : 0 < k) : Sl F H sz P (some ⟨x.block, x.off + 0 * sz, none⟩) k (xs.take k) := by
  have hl := h.len
  refine ⟨by rw [List.length_take]; omega, fun _ => ⟨rfl, (h.base (by omega)).2⟩, fun i hi => ?_⟩
  rw [List.length_take] at hi
  rw [List.getElem_take]
  have := h.cells i (by omega)
  simp only [adr] at this ⊢
  rw [show x.off + 0 * sz + i * sz = x.off + i * sz from by omega]
  exact this
def seqB : List Bool → Option Bool
  | [] => some true
  | b :: l => match some b with
    | some true => seqB l
    | r => r
end Go.Ev
namespace Go.Proofs.Cx
open Go Go.Ev
end Go.Proofs.Cx
namespace Go.Ev
open Go
end Go.Ev
namespace Go.Proofs.Cx
open Go Go.Ev
end Go.Proofs.Cx
namespace Go.Proofs.Cx
open Go Go.Ev Go.RowKit
section
variable {Hh : Type} {enc : TypeId × Value → Hh} {W : World} [Sy]
end
def fi (l : List Int) (i : Nat) : Int := l.getD i 0
def fb (l : List Bool) (i : Nat) : Bool := l.getD i false
theorem fi_i64 {l : List Int} (h : ∀ x ∈ l, I64 x) (i : Nat) : I64 (fi l i) := by
  unfold fi
  rw [List.getD_eq_getElem?_getD]
  by_cases hi : i < l.length
  · rw [List.getElem?_eq_getElem hi]; exact h _ (List.getElem_mem hi)
  · rw [List.getElem?_eq_none (by omega)]; unfold I64; simp
end Go.Proofs.Cx
namespace Go.Ev
open Go
def MapV (H : AH) (r : Nat) (zs : List Int) (val : Int → Value) : Prop := ∃ es clock, H.get r = some (.map es clock) ∧ Ents es clock zs ∧ ∀ e ∈ es, ∀ x, e.key = iv x → e.val = val x
theorem MapV.mod {S : Nat → Prop} {H H' : AH} {r : Nat} {zs : List Int} {val : Int → Value} (h : MapV H r zs val) (hm : Mod S H H') (hs : ¬ S r) : MapV H' r zs val := by
  obtain ⟨es, clock, h1, h2⟩ := h
  exact ⟨es, clock, hm.get _ _ hs h1, h2⟩
theorem MapV.empty {H : AH} {r c : Nat} {val : Int → Value} (h : H.get r = some (.map [] c)) : MapV H r [] val :=
  ⟨[], c, h, ⟨rfl, fun _ h => (by cases h), List.nodup_nil, List.nodup_nil, fun _ h => (by cases h), by simp⟩, fun _ h => (by cases h)⟩
theorem MapV.nodup {H : AH} {r : Nat} {zs : List Int} {val : Int → Value} (h : MapV H r zs val) : zs.Nodup := by obtain ⟨_, _, _, h, _⟩ := h; exact h.nodup
theorem MapV.wf {H : AH} {r : Nat} {zs : List Int} {val : Int → Value} (h : MapV H r zs val) : ∀ x ∈ zs, I64 x := by obtain ⟨_, _, _, h, _⟩ := h; exact h.wf
theorem MapV.congr {H : AH} {r : Nat} {zs : List Int} {val val' : Int → Value} (h : MapV H r zs val) (k : ∀ x ∈ zs, val x = val' x) : MapV H r zs val' := by
  obtain ⟨es, clock, h1, h2, h3⟩ := h
  refine ⟨es, clock, h1, h2, fun e he x hx => ?_⟩
  rw [h3 e he x hx]
  refine k x ?_
  have := List.mem_map_of_mem (f := (·.key)) he
  rw [mkeys_at h2.keys, hx] at this
  obtain ⟨y, hy, e2⟩ := List.mem_map.1 this
  have : y = x := by simpa [iv] using e2
  rw [← this]; exact hy
theorem MapV.lt {H : AH} {r : Nat} {zs : List Int} {val : Int → Value} (ok : Ok H) (h : MapV H r zs val) : r < H.next := by obtain ⟨_, _, h, _⟩ := h; exact ok.lt h
def lookX (E : Env) (kt : TypeId) (H : AH) (m : Value) (c : Int) (z : Value) (ok : Bool) : Option Value :=
  match entriesOf H m with
  | none => none
  | some es => match findv E kt (.int .i64 c) es 0 with
    | some (some (_, v)) => some (bif ok then .tuple #[v, .bool true] else v)
    | some none => some (bif ok then .tuple #[z, .bool false] else z)
    | none => none
def updX (E : Env) (kt : TypeId) (H : AH) (r : Nat) (c : Int) (v : Value) : Option AH := match H.get r with
  | some (.map es clock) => match findv E kt (.int .i64 c) es 0 with
    | some (some (n, _)) => match es[n]? with
      | some e => bif samek e.key (.int .i64 c) then some (H.set r (.map (setEntry (.int .i64 c) v es n) clock)) else none
      | none => none
    | some none => some (H.set r (.map (es ++ [{ key := .int .i64 c, val := v, born := clock }]) (clock + 1)))
    | none => none
  | _ => none
section
variable {E : Env} {kt : TypeId} (hE : ∀ a b : Int, eqv E eqDepth kt (.int .i64 a) (.int .i64 b) = some (a == b))
include hE
theorem fv_in {c : Int} : ∀ {es : List MapEntry} {ks : List Int} {i : Nat}, es.map (·.key) = ks.map iv → c ∈ ks → ∃ n, ∃ h : n < es.length, findv E kt (.int .i64 c) es i = some (some (i + n, es[n].val)) ∧ es[n].key = iv c
  | [], [], _, _, h => by simp at h
  | [], _ :: _, _, h, _ => by simp at h
  | _ :: _, [], _, h, _ => by simp at h
  | e :: es, x :: ks, i, h, hc => by
    simp only [List.map_cons, List.cons.injEq] at h
    unfold findv
    rw [h.1, show eqv E eqDepth kt (.int .i64 c) (iv x) = some (c == x) from hE c x]
    by_cases e1 : c = x
    · subst e1
      exact ⟨0, by simp, by rw [beq_self_eq_true]; simp, h.1⟩
    · rw [show (c == x) = false from by simpa using e1]
      obtain ⟨n, hn, h1, h2⟩ := fv_in (i := i + 1) h.2 (by simpa [e1] using hc)
      exact ⟨n + 1, by simpa using hn, by simp only [h1, List.getElem_cons_succ, show i + 1 + n = i + (n + 1) from by omega], by simpa using h2⟩
theorem fv_out {c : Int} : ∀ {es : List MapEntry} {ks : List Int} {i : Nat}, es.map (·.key) = ks.map iv → c ∉ ks → findv E kt (.int .i64 c) es i = some none
  | [], _, _, _, _ => rfl
  | _ :: _, [], _, h, _ => by simp at h
  | e :: es, x :: ks, i, h, hc => by
    simp only [List.map_cons, List.cons.injEq] at h
    unfold findv
    rw [h.1, show eqv E eqDepth kt (.int .i64 c) (iv x) = some (c == x) from hE c x]
    have e1 : c ≠ x := fun e => hc (e ▸ List.mem_cons_self)
    rw [show (c == x) = false from by simpa using e1]
    exact fv_out h.2 fun h2 => hc (List.mem_cons_of_mem _ h2)
theorem MapV.look {H : AH} {r : Nat} {zs : List Int} {val : Int → Value} (h : MapV H r zs val) (c : Int) (z : Value) (ok : Bool) :
    lookX E kt H (.map (some r)) c z ok = some (bif ok then .tuple #[if c ∈ zs then val c else z, .bool (decide (c ∈ zs))] else if c ∈ zs then val c else z) := by
  obtain ⟨es, clock, h1, h2, h3⟩ := h
  have hk := mkeys_at h2.keys
  unfold lookX
  simp only [entriesOf, h1]
  by_cases hc : c ∈ zs
  · obtain ⟨n, hn, h4, h5⟩ := fv_in hE (i := 0) hk hc
    rw [h4]
    simp only [h3 _ (List.getElem_mem hn) c h5, hc, if_true, decide_true]
  · rw [fv_out hE hk hc]
    simp only [hc, if_false, decide_false]
theorem MapV.put {H : AH} {r : Nat} {zs : List Int} {val : Int → Value} (ok : Ok H) (h : MapV H r zs val) {c : Int} (hc64 : I64 c) (hl : zs.length < 1000000) (v : Value) :
    ∃ zs' H', updX E kt H r c v = some H' ∧ MapV H' r zs' (fun x => if x = c then v else val x) ∧ (∀ x, x ∈ zs' ↔ x ∈ zs ∨ x = c) ∧ (zs' = zs ∨ zs' = zs ++ [c]) ∧ Mod (· = r) H H' ∧ H'.next = H.next := by
  obtain ⟨es, clock, h1, h2, h3⟩ := h
  have hk := mkeys_at h2.keys
  unfold updX
  simp only [h1]
  by_cases hc : c ∈ zs
  · obtain ⟨n, hn, h4, h5⟩ := fv_in hE (i := 0) hk hc
    rw [Nat.zero_add] at h4
    have hs : samek (iv c) (.int .i64 c) = true := by simp [samek, samebv, iv]
    have keyS : ∀ (es : List MapEntry) (n : Nat) (ks : List Int), es.map (·.key) = ks.map iv → (∀ h : n < es.length, es[n].key = iv c) → (setEntry (.int .i64 c) v es n).map (·.key) = ks.map iv := by
      intro es
      induction es with
      | nil => intro n ks h _; simpa [setEntry] using h
      | cons e es ih =>
        intro n ks h hk
        cases n with
        | zero =>
          rw [← h]
          have := hk (by simp)
          simp only [List.getElem_cons_zero] at this
          simp only [setEntry, List.map_cons, this]; rfl
        | succ n =>
          cases ks with
          | nil => simp at h
          | cons x ks =>
            simp only [List.map_cons, List.cons.injEq] at h
            simp only [setEntry, List.map_cons, List.cons.injEq]
            exact ⟨h.1, ih n ks h.2 fun hn => by have := hk (by simpa using hn); simpa using this⟩
    have bornS : ∀ (es : List MapEntry) (n : Nat), (setEntry (.int .i64 c) v es n).map (·.born) = es.map (·.born) := by
      intro es
      induction es with
      | nil => intro n; rfl
      | cons e es ih =>
        intro n
        cases n with
        | zero => rfl
        | succ n => simp only [setEntry, List.map_cons, ih n]
    have memS : ∀ (es : List MapEntry) (n : Nat) (e : MapEntry), e ∈ setEntry (.int .i64 c) v es n → (e.key = .int .i64 c ∧ e.val = v) ∨ e ∈ es := by
      intro es
      induction es with
      | nil => intro n e h; simp [setEntry] at h
      | cons x es ih =>
        intro n e h
        cases n with
        | zero =>
          rcases List.mem_cons.1 h with rfl | h
          · exact .inl ⟨rfl, rfl⟩
          · exact .inr (List.mem_cons_of_mem _ h)
        | succ n =>
          rcases List.mem_cons.1 h with rfl | h
          · exact .inr List.mem_cons_self
          · rcases ih n e h with h | h
            · exact .inl h
            · exact .inr (List.mem_cons_of_mem _ h)
    simp only [h4, List.getElem?_eq_getElem hn, h5, hs, cond_true]
    refine ⟨zs, _, rfl, ⟨_, _, get_set_self _ _ _, ⟨mkeys_mk (keyS es n zs hk fun _ => h5), ?_, by rw [bornS]; exact h2.once, h2.nodup, h2.wf, h2.room⟩, ?_⟩, fun x => ⟨.inl, fun h => h.elim id fun e => e ▸ hc⟩, .inl rfl, Mod.set ok h1 _, rfl⟩
    · intro e he
      have : e.born ∈ (setEntry (.int .i64 c) v es n).map (·.born) := List.mem_map_of_mem he
      rw [bornS] at this
      obtain ⟨y, hy, e2⟩ := List.mem_map.1 this
      rw [← e2]; exact h2.born y hy
    · intro e he x hx
      show e.val = if x = c then v else val x
      by_cases hxc : x = c
      · rw [if_pos hxc]
        -- an entry with the key c is the one that was set
        rcases memS es n e he with ⟨_, h⟩ | h
        · exact h
        · have key2 : ∀ (es : List MapEntry) (n : Nat) (ks : List Int), es.map (·.key) = ks.map iv → ks.Nodup → (∀ h : n < es.length, es[n].key = iv c) → n < es.length → ∀ e ∈ setEntry (.int .i64 c) v es n, e.key = iv c → e.val = v := by
            intro es
            induction es with
            | nil => intro n ks _ _ _ h; simp at h
            | cons y es ih =>
              intro n ks hks hnd hkn hn e he hek
              cases ks with
              | nil => simp at hks
              | cons k ks =>
                simp only [List.map_cons, List.cons.injEq] at hks
                have hnd' := List.nodup_cons.1 hnd
                cases n with
                | zero =>
                  rcases List.mem_cons.1 he with rfl | h
                  · rfl
                  · exfalso
                    have h0 := hkn (by simp)
                    simp only [List.getElem_cons_zero] at h0
                    rw [hks.1] at h0
                    have hkc : k = c := by simpa [iv] using h0
                    have : e.key ∈ es.map (·.key) := List.mem_map_of_mem h
                    rw [hks.2, hek] at this
                    obtain ⟨z, hz, e2⟩ := List.mem_map.1 this
                    have : z = c := by simpa [iv] using e2
                    exact hnd'.1 (by rw [hkc, ← this]; exact hz)
                | succ n =>
                  rcases List.mem_cons.1 he with rfl | h
                  · exfalso
                    rw [hks.1] at hek
                    have hkc : k = c := by simpa [iv] using hek
                    have h0 := hkn (by simpa using hn)
                    simp only [List.getElem_cons_succ] at h0
                    have hn' : n < es.length := by simpa using hn
                    have : es[n].key ∈ es.map (·.key) := List.mem_map_of_mem (List.getElem_mem hn')
                    rw [hks.2, h0] at this
                    obtain ⟨z, hz, e2⟩ := List.mem_map.1 this
                    have : z = c := by simpa [iv] using e2
                    exact hnd'.1 (by rw [hkc, ← this]; exact hz)
                  · exact ih n ks hks.2 hnd'.2 (fun hn => by have := hkn (by simpa using hn); simpa using this) (by simpa using hn) e h hek
          exact key2 es n zs hk h2.nodup (fun _ => h5) hn e he (by rw [hx, hxc])
      · rw [if_neg hxc]
        rcases memS es n e he with ⟨h, _⟩ | h
        · rw [h] at hx; exact (hxc (by simpa [iv] using hx.symm)).elim
        · exact h3 e h x hx
  · simp only [fv_out hE hk hc]
    refine ⟨zs ++ [c], _, rfl, ⟨_, _, get_set_self _ _ _, ⟨mkeys_mk (by simp [hk, iv]), ?_, ?_, ?_, ?_, ?_⟩, ?_⟩, fun x => by simp, .inr rfl, Mod.set ok h1 _, rfl⟩
    · intro e he
      rcases List.mem_append.1 he with h | h
      · have := h2.born e h; omega
      · have : e = { key := .int .i64 c, val := v, born := clock } := by simpa using h
        rw [this]; exact Nat.lt_succ_self _
    · rw [List.map_append]
      refine List.nodup_append.2 ⟨h2.once, by simp, fun a ha b hb e => ?_⟩
      obtain ⟨y, hy, rfl⟩ := List.mem_map.1 ha
      have : b = clock := by simpa using hb
      have := h2.born y hy
      omega
    · refine List.nodup_append.2 ⟨h2.nodup, by simp, fun a ha b hb e => ?_⟩
      have : b = c := by simpa using hb
      exact hc (by rw [← this, ← e]; exact ha)
    · intro x hx
      rcases List.mem_append.1 hx with h | h
      · exact h2.wf x h
      · have : x = c := by simpa using h
        rw [this]; exact hc64
    · rw [List.length_append, List.length_singleton]; omega
    · intro e he x hx
      show e.val = if x = c then v else val x
      rcases List.mem_append.1 he with h | h
      · have hxz : x ∈ zs := by
          have := List.mem_map_of_mem (f := (·.key)) h
          rw [hk, hx] at this
          obtain ⟨y, hy, e2⟩ := List.mem_map.1 this
          have : y = x := by simpa [iv] using e2
          rw [← this]; exact hy
        rw [if_neg (fun e2 => hc (by rw [← e2]; exact hxz))]
        exact h3 e h x hx
      · have he2 : e = { key := .int .i64 c, val := v, born := clock } := by simpa using h
        rw [he2] at hx ⊢
        rw [if_pos (by simpa [iv] using hx.symm)]
end
theorem MapV.len {H : AH} {r : Nat} {zs : List Int} {val : Int → Value} (h : MapV H r zs val) : ∃ es clock, H.get r = some (.map es clock) ∧ es.length = zs.length := by
  obtain ⟨es, clock, h1, h2, _⟩ := h
  exact ⟨es, clock, h1, mkeys_len h2.keys⟩
end Go.Ev
namespace Go.Ev
open Go
def cntB (p : Nat → Bool) : Nat → Nat
  | 0 => 0
  | n + 1 => cntB p n + (if p n then 1 else 0)
theorem cntB_le (p : Nat → Bool) : ∀ n, cntB p n ≤ n
  | 0 => Nat.le_refl _
  | n + 1 => by have := cntB_le p n; unfold cntB; split <;> omega
theorem cntB_congr {p q : Nat → Bool} : ∀ {n : Nat}, (∀ i, i < n → p i = q i) → cntB p n = cntB q n
  | 0, _ => rfl
  | n + 1, h => by unfold cntB; rw [cntB_congr fun i hi => h i (by omega), h n (by omega)]
theorem cnt_nodup : ∀ (n : Nat) (zs : List Int), zs.Nodup → (∀ x ∈ zs, 0 ≤ x ∧ x < n) → zs.length = cntB (fun i => decide ((i : Int) ∈ zs)) n
  | 0, zs, _, h => by
    cases zs with
    | nil => rfl
    | cons x zs => have := h x List.mem_cons_self; omega
  | n + 1, zs, hn, h => by
    unfold cntB
    by_cases hm : (n : Int) ∈ zs
    · have h1 := cnt_nodup n (zs.erase n) (hn.erase _) fun x hx => by
        have h2 := (hn.mem_erase_iff).1 hx
        have h3 := h x h2.2
        have := h2.1
        omega
      have h2 := List.length_erase_of_mem hm
      have hpos : 0 < zs.length := List.length_pos_of_mem hm
      have h3 : cntB (fun i => decide ((i : Int) ∈ zs.erase n)) n = cntB (fun i => decide ((i : Int) ∈ zs)) n := cntB_congr fun i hi => by
        refine decide_eq_decide.2 ?_
        rw [hn.mem_erase_iff]
        exact ⟨fun h => h.2, fun h => ⟨by omega, h⟩⟩
      rw [h3] at h1
      simp only [hm, decide_true, if_true]
      omega
    · have h1 := cnt_nodup n zs hn fun x hx => by
        have h3 := h x hx
        have : x ≠ n := fun e => hm (e ▸ hx)
        omega
      simp only [hm, decide_false]
      simpa using h1
def LV (H : AH) (r : Nat) (g : Int → Int) : Prop := ∃ (zs : List Int) (f : Int → Int), MapV H r zs (fun x => .int .i64 (f x)) ∧ (∀ x ∈ zs, 0 ≤ x ∧ x < 64 ∧ 0 < f x) ∧ ∀ x, g x = if x ∈ zs then f x else 0
theorem LV.mod {S : Nat → Prop} {H H' : AH} {r : Nat} {g : Int → Int} (h : LV H r g) (hm : Mod S H H') (hs : ¬ S r) : LV H' r g := by
  obtain ⟨zs, f, h1, h2⟩ := h
  exact ⟨zs, f, h1.mod hm hs, h2⟩
theorem LV.empty {H : AH} {r c : Nat} (h : H.get r = some (.map [] c)) : LV H r fun _ => 0 := ⟨[], fun _ => 0, .empty h, fun _ h => (by cases h), fun _ => rfl⟩
theorem LV.out {H : AH} {r : Nat} {g : Int → Int} (h : LV H r g) {x : Int} (hx : ¬ (0 ≤ x ∧ x < 64)) : g x = 0 := by
  obtain ⟨zs, f, _, h2, h3⟩ := h
  rw [h3, if_neg]
  intro hm
  have := h2 x hm
  exact hx ⟨this.1, this.2.1⟩
theorem zs_small {zs : List Int} (h1 : zs.Nodup) (h2 : ∀ x ∈ zs, 0 ≤ x ∧ x < 64) : zs.length ≤ 64 := by
  rw [cnt_nodup 64 zs h1 (fun x hx => by have := h2 x hx; omega)]
  exact cntB_le _ _
theorem LV.count {H : AH} {r : Nat} {g : Int → Int} (h : LV H r g) : ∃ (zs : List Int) (f : Int → Int), MapV H r zs (fun x => .int .i64 (f x)) ∧ zs.length = cntB (fun i => decide (0 < g (i : Int))) 64 := by
  obtain ⟨zs, f, h1, h2, h3⟩ := h
  refine ⟨zs, f, h1, ?_⟩
  rw [cnt_nodup 64 zs h1.nodup fun x hx => by have := h2 x hx; omega]
  refine cntB_congr fun i _ => decide_eq_decide.2 ?_
  rw [h3]
  constructor
  · intro hm; rw [if_pos hm]; exact (h2 _ hm).2.2
  · intro hp
    by_cases hm : (i : Int) ∈ zs
    · exact hm
    · rw [if_neg hm] at hp; omega
end Go.Ev
namespace Go.Proofs.Cx
open Go Go.Ev
set_option maxRecDepth 100000 in
theorem eqv_I {a b : Int} : eqv Ee eqDepth T_int (.int .i64 a) (.int .i64 b) = some (a == b) := by kernel_rfl
set_option maxRecDepth 100000 in
theorem look_ii {H : AH} {m : Value} {c : Int} {ok : Bool} : lookupv Ee H T_M_int_int m (.int .i64 c) ok = lookX Ee T_int H m c (.int .i64 0) ok := by kernel_rfl
set_option maxRecDepth 100000 in
theorem upd_ii {H : AH} {r : Nat} {c : Int} {v : Value} : updatev Ee H T_M_int_int (.map (some r)) (.int .i64 c) v = updX Ee T_int H r c v := by kernel_rfl
theorem LV.look {H : AH} {r : Nat} {g : Int → Int} (h : LV H r g) (c : Int) : lookupv Ee H T_M_int_int (.map (some r)) (.int .i64 c) false = some (.int .i64 (g c)) ∧
    lookupv Ee H T_M_int_int (.map (some r)) (.int .i64 c) true = some (.tuple ⟨[.int .i64 (g c), .bool (decide (0 < g c))]⟩) := by
  obtain ⟨zs, f, h1, h2, h3⟩ := h
  rw [look_ii, look_ii, h1.look (fun _ _ => eqv_I), h1.look (fun _ _ => eqv_I), h3]
  by_cases hc : c ∈ zs
  · have := (h2 c hc).2.2
    simp [hc, this]
  · simp [hc]
theorem LV.put {H : AH} {r : Nat} {g : Int → Int} (ok : Ok H) (h : LV H r g) {k n : Int} (hk : 0 ≤ k ∧ k < 64) (hn : 0 < n) :
    ∃ H', updatev Ee H T_M_int_int (.map (some r)) (.int .i64 k) (.int .i64 n) = some H' ∧ LV H' r (fun x => if x = k then n else g x) ∧ Mod (· = r) H H' := by
  obtain ⟨zs, f, h1, h2, h3⟩ := h
  have hl := zs_small h1.nodup fun x hx => ⟨(h2 x hx).1, (h2 x hx).2.1⟩
  obtain ⟨zs', H', k1, k2, k3, _, k4, _⟩ := h1.put (fun _ _ => eqv_I) ok (c := k) (by unfold I64; omega) (by omega) (.int .i64 n)
  refine ⟨H', by rw [upd_ii]; exact k1, ⟨zs', fun x => if x = k then n else f x, k2.congr fun x _ => ?_, fun x hx => ?_, fun x => ?_⟩, k4⟩
  · by_cases e : x = k
    · simp [e]
    · simp [e]
  · rcases (k3 x).1 hx with h | h
    · obtain ⟨a, b, c⟩ := h2 x h
      refine ⟨a, b, ?_⟩
      show 0 < if x = k then n else f x
      by_cases e : x = k
      · rw [if_pos e]; exact hn
      · rw [if_neg e]; exact c
    · subst h; simp only [if_true]; omega
  · by_cases e : x = k
    · have : x ∈ zs' := (k3 x).2 (.inr e)
      simp [e] at this ⊢
      simp [this]
    · have : x ∈ zs' ↔ x ∈ zs := ⟨fun h => ((k3 x).1 h).elim id fun h => (e h).elim, fun h => (k3 x).2 (.inl h)⟩
      simp [e, this, h3]
/-! sorted keys -/
/-! the master -/
structure M0 (H : AH) (mb wb : Nat) (g : Int → Int) : Prop where
  row : ∃ sp jb la ep, H.get mb = some (.cells [.pointer sp, .map (some jb), .map (some wb), .int .i64 la, .int .i64 ep] 0) ∧ H.get jb = some (.map [] 0) ∧ jb ≠ wb
  ne : mb ≠ wb
  lives : LV H wb g
theorem M0.grow {H H' : AH} {mb wb : Nat} {g : Int → Int} (h : M0 H mb wb g) (k : Grow H H') : M0 H' mb wb g := by
  obtain ⟨⟨sp, jb, la, ep, h1, h2, h3⟩, h4, h5⟩ := h
  exact ⟨⟨sp, jb, la, ep, k.get _ _ id h1, k.get _ _ id h2, h3⟩, h4, h5.mod k id⟩
section
variable {H : AH} {mb wb : Nat} {g : Int → Int}
end
end Go.Proofs.Cx
namespace Go.Ev
open Go
structure FM (H : AH) (n0 : Nat) : Prop where
  t : H.get n0 = some (.map [] 0)
  s : H.get (n0 + 1) = some (.cells [.map (some n0)] 0)
  j : H.get (n0 + 2) = some (.map [] 0)
  w : H.get (n0 + 3) = some (.map [] 0)
  m : H.get (n0 + 4) = some (.cells [.pointer (some ⟨n0 + 1, 0, none⟩), .map (some (n0 + 2)), .map (some (n0 + 3)), .int .i64 0, .int .i64 0] 0)
theorem FM.grow {H H' : AH} {n0 : Nat} (h : FM H n0) (g : Grow H H') : FM H' n0 := ⟨g.get _ _ id h.t, g.get _ _ id h.s, g.get _ _ id h.j, g.get _ _ id h.w, g.get _ _ id h.m⟩
def NRun (H : AH) (n0 L : Nat) : Prop := ∃ sp wb la ep zs val, H.get (n0 + 4) = some (.cells [.pointer sp, .map (some (n0 + 2)), .map (some wb), .int .i64 la, .int .i64 ep] 0) ∧
  MapV H (n0 + 2) zs val ∧ zs.length ≤ 1 ∧ ∀ x ∈ zs, ∃ pb s, val x = .pointer (some ⟨pb, 0, none⟩) ∧ H.cell pb 7 = some (.int .i64 s) ∧ s ≠ 2 ∧ L ≤ pb
theorem NRun.mod {S : Nat → Prop} {H H' : AH} {n0 L : Nat} (h : NRun H n0 L) (m : Mod S H H') (h1 : ¬ S (n0 + 4)) (h2 : ¬ S (n0 + 2)) (h3 : ∀ x, L ≤ x → ¬ S x) : NRun H' n0 L := by
  obtain ⟨sp, wb, la, ep, zs, val, k1, k2, k3, k4⟩ := h
  refine ⟨sp, wb, la, ep, zs, val, m.get _ _ h1 k1, k2.mod m h2, k3, fun x hx => ?_⟩
  obtain ⟨pb, s, p1, p2, p3, p4⟩ := k4 x hx
  exact ⟨pb, s, p1, loc_cell (F := (· = pb)) (fun b o hb e => m.get _ _ (by rw [hb]; exact h3 _ p4) e) rfl p2, p3, p4⟩
theorem NRun.grow {H H' : AH} {n0 L : Nat} (h : NRun H n0 L) (g : Grow H H') : NRun H' n0 L := h.mod g id id fun _ _ => id
end Go.Ev
namespace Go.Proofs.Cx
open Go Go.Ev
section
variable {H : AH} {n0 L : Nat}
/-! nil -/
/-! a new one -/
end
end Go.Proofs.Cx
