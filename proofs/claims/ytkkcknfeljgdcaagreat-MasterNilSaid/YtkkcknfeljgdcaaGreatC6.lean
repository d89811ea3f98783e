/- Maps whose keys are whole numbers. A master without jobs: who joins, who is lost. MasterNil: a nil master, and one that is new. MasterNil: what a new master does with a command. MasterNil: the law, and what comes in. -/
import Derived.Test.YtkkcknfeljgdcaaGreatB3
import Derived.Test.YtkkcknfeljgdcaaGreatC3
import Derived.Test.YtkkcknfeljgdcaaGreatVc2
import Derived.Test.YtkkcknfeljgdcaaGreatC5
namespace Go.Ev
open Go

/-- a map with these keys, each with its value -/
def MapV (H : AH) (r : Nat) (zs : List Int) (val : Int → Value) : Prop := ∃ es clock, H.get r = some (.map es clock) ∧ Ents es clock zs ∧ ∀ e ∈ es, ∀ x, e.key = iv x → e.val = val x
theorem MapV.mod {S : Nat → Prop} {H H' : AH} {r : Nat} {zs : List Int} {val : Int → Value} (h : MapV H r zs val) (hm : Mod S H H') (hs : ¬ S r) : MapV H' r zs val := by
  obtain ⟨es, clock, h1, h2⟩ := h
  exact ⟨es, clock, hm.get _ _ hs h1, h2⟩
theorem MapV.empty {H : AH} {r c : Nat} {val : Int → Value} (h : H.get r = some (.map [] c)) : MapV H r [] val :=
  ⟨[], c, h, ⟨rfl, fun _ h => (by cases h), List.nodup_nil, List.nodup_nil, fun _ h => (by cases h), by simp⟩, fun _ h => (by cases h)⟩
theorem MapV.nodup {H : AH} {r : Nat} {zs : List Int} {val : Int → Value} (h : MapV H r zs val) : zs.Nodup := by obtain ⟨_, _, _, h, _⟩ := h; exact h.nodup
theorem MapV.wf {H : AH} {r : Nat} {zs : List Int} {val : Int → Value} (h : MapV H r zs val) : ∀ x ∈ zs, I64 x := by obtain ⟨_, _, _, h, _⟩ := h; exact h.wf
theorem MapV.congr {H : AH} {r : Nat} {zs : List Int} {val val' : Int → Value} (h : MapV H r zs val) (k : ∀ x ∈ zs, val x = val' x) : MapV H r zs val' := by
  obtain ⟨es, clock, h1, h2, h3⟩ := h
  refine ⟨es, clock, h1, h2, fun e he x hx => ?_⟩
  rw [h3 e he x hx]
  refine k x ?_
  have := List.mem_map_of_mem (f := (·.key)) he
  rw [mkeys_at h2.keys, hx] at this
  obtain ⟨y, hy, e2⟩ := List.mem_map.1 this
  have : y = x := by simpa [iv] using e2
  rw [← this]; exact hy
theorem MapV.lt {H : AH} {r : Nat} {zs : List Int} {val : Int → Value} (ok : Ok H) (h : MapV H r zs val) : r < H.next := by obtain ⟨_, _, h, _⟩ := h; exact ok.lt h

def lookX (E : Env) (kt : TypeId) (H : AH) (m : Value) (c : Int) (z : Value) (ok : Bool) : Option Value :=
  match entriesOf H m with
  | none => none
  | some es => match findv E kt (.int .i64 c) es 0 with
    | some (some (_, v)) => some (bif ok then .tuple #[v, .bool true] else v)
    | some none => some (bif ok then .tuple #[z, .bool false] else z)
    | none => none
def updX (E : Env) (kt : TypeId) (H : AH) (r : Nat) (c : Int) (v : Value) : Option AH := match H.get r with
  | some (.map es clock) => match findv E kt (.int .i64 c) es 0 with
    | some (some (n, _)) => match es[n]? with
      | some e => bif samek e.key (.int .i64 c) then some (H.set r (.map (setEntry (.int .i64 c) v es n) clock)) else none
      | none => none
    | some none => some (H.set r (.map (es ++ [{ key := .int .i64 c, val := v, born := clock }]) (clock + 1)))
    | none => none
  | _ => none
section
variable {E : Env} {kt : TypeId} (hE : ∀ a b : Int, eqv E eqDepth kt (.int .i64 a) (.int .i64 b) = some (a == b))
include hE
theorem fv_in {c : Int} : ∀ {es : List MapEntry} {ks : List Int} {i : Nat}, es.map (·.key) = ks.map iv → c ∈ ks → ∃ n, ∃ h : n < es.length, findv E kt (.int .i64 c) es i = some (some (i + n, es[n].val)) ∧ es[n].key = iv c
  | [], [], _, _, h => by simp at h
  | [], _ :: _, _, h, _ => by simp at h
  | _ :: _, [], _, h, _ => by simp at h
  | e :: es, x :: ks, i, h, hc => by
    simp only [List.map_cons, List.cons.injEq] at h
    unfold findv
    rw [h.1, show eqv E eqDepth kt (.int .i64 c) (iv x) = some (c == x) from hE c x]
    by_cases e1 : c = x
    · subst e1
      exact ⟨0, by simp, by rw [beq_self_eq_true]; simp, h.1⟩
    · rw [show (c == x) = false from by simpa using e1]
      obtain ⟨n, hn, h1, h2⟩ := fv_in (i := i + 1) h.2 (by simpa [e1] using hc)
      exact ⟨n + 1, by simpa using hn, by simp only [h1, List.getElem_cons_succ, show i + 1 + n = i + (n + 1) from by omega], by simpa using h2⟩
theorem fv_out {c : Int} : ∀ {es : List MapEntry} {ks : List Int} {i : Nat}, es.map (·.key) = ks.map iv → c ∉ ks → findv E kt (.int .i64 c) es i = some none
  | [], _, _, _, _ => rfl
  | _ :: _, [], _, h, _ => by simp at h
  | e :: es, x :: ks, i, h, hc => by
    simp only [List.map_cons, List.cons.injEq] at h
    unfold findv
    rw [h.1, show eqv E eqDepth kt (.int .i64 c) (iv x) = some (c == x) from hE c x]
    have e1 : c ≠ x := fun e => hc (e ▸ List.mem_cons_self)
    rw [show (c == x) = false from by simpa using e1]
    exact fv_out h.2 fun h2 => hc (List.mem_cons_of_mem _ h2)
theorem MapV.look {H : AH} {r : Nat} {zs : List Int} {val : Int → Value} (h : MapV H r zs val) (c : Int) (z : Value) (ok : Bool) :
    lookX E kt H (.map (some r)) c z ok = some (bif ok then .tuple #[if c ∈ zs then val c else z, .bool (decide (c ∈ zs))] else if c ∈ zs then val c else z) := by
  obtain ⟨es, clock, h1, h2, h3⟩ := h
  have hk := mkeys_at h2.keys
  unfold lookX
  simp only [entriesOf, h1]
  by_cases hc : c ∈ zs
  · obtain ⟨n, hn, h4, h5⟩ := fv_in hE (i := 0) hk hc
    rw [h4]
    simp only [h3 _ (List.getElem_mem hn) c h5, hc, if_true, decide_true]
  · rw [fv_out hE hk hc]
    simp only [hc, if_false, decide_false]
theorem MapV.put {H : AH} {r : Nat} {zs : List Int} {val : Int → Value} (ok : Ok H) (h : MapV H r zs val) {c : Int} (hc64 : I64 c) (hl : zs.length < 1000000) (v : Value) :
    ∃ zs' H', updX E kt H r c v = some H' ∧ MapV H' r zs' (fun x => if x = c then v else val x) ∧ (∀ x, x ∈ zs' ↔ x ∈ zs ∨ x = c) ∧ (zs' = zs ∨ zs' = zs ++ [c]) ∧ Mod (· = r) H H' ∧ H'.next = H.next := by
  obtain ⟨es, clock, h1, h2, h3⟩ := h
  have hk := mkeys_at h2.keys
  unfold updX
  simp only [h1]
  by_cases hc : c ∈ zs
  · obtain ⟨n, hn, h4, h5⟩ := fv_in hE (i := 0) hk hc
    rw [Nat.zero_add] at h4
    have hs : samek (iv c) (.int .i64 c) = true := by simp [samek, samebv, iv]
    have keyS : ∀ (es : List MapEntry) (n : Nat) (ks : List Int), es.map (·.key) = ks.map iv → (∀ h : n < es.length, es[n].key = iv c) → (setEntry (.int .i64 c) v es n).map (·.key) = ks.map iv := by
      intro es
      induction es with
      | nil => intro n ks h _; simpa [setEntry] using h
      | cons e es ih =>
        intro n ks h hk
        cases n with
        | zero =>
          rw [← h]
          have := hk (by simp)
          simp only [List.getElem_cons_zero] at this
          simp only [setEntry, List.map_cons, this]; rfl
        | succ n =>
          cases ks with
          | nil => simp at h
          | cons x ks =>
            simp only [List.map_cons, List.cons.injEq] at h
            simp only [setEntry, List.map_cons, List.cons.injEq]
            exact ⟨h.1, ih n ks h.2 fun hn => by have := hk (by simpa using hn); simpa using this⟩
    have bornS : ∀ (es : List MapEntry) (n : Nat), (setEntry (.int .i64 c) v es n).map (·.born) = es.map (·.born) := by
      intro es
      induction es with
      | nil => intro n; rfl
      | cons e es ih =>
        intro n
        cases n with
        | zero => rfl
        | succ n => simp only [setEntry, List.map_cons, ih n]
    have memS : ∀ (es : List MapEntry) (n : Nat) (e : MapEntry), e ∈ setEntry (.int .i64 c) v es n → (e.key = .int .i64 c ∧ e.val = v) ∨ e ∈ es := by
      intro es
      induction es with
      | nil => intro n e h; simp [setEntry] at h
      | cons x es ih =>
        intro n e h
        cases n with
        | zero =>
          rcases List.mem_cons.1 h with rfl | h
          · exact .inl ⟨rfl, rfl⟩
          · exact .inr (List.mem_cons_of_mem _ h)
        | succ n =>
          rcases List.mem_cons.1 h with rfl | h
          · exact .inr List.mem_cons_self
          · rcases ih n e h with h | h
            · exact .inl h
            · exact .inr (List.mem_cons_of_mem _ h)
    simp only [h4, List.getElem?_eq_getElem hn, h5, hs, cond_true]
    refine ⟨zs, _, rfl, ⟨_, _, get_set_self _ _ _, ⟨mkeys_mk (keyS es n zs hk fun _ => h5), ?_, by rw [bornS]; exact h2.once, h2.nodup, h2.wf, h2.room⟩, ?_⟩, fun x => ⟨.inl, fun h => h.elim id fun e => e ▸ hc⟩, .inl rfl, Mod.set ok h1 _, rfl⟩
    · intro e he
      have : e.born ∈ (setEntry (.int .i64 c) v es n).map (·.born) := List.mem_map_of_mem he
      rw [bornS] at this
      obtain ⟨y, hy, e2⟩ := List.mem_map.1 this
      rw [← e2]; exact h2.born y hy
    · intro e he x hx
      show e.val = if x = c then v else val x
      by_cases hxc : x = c
      · rw [if_pos hxc]
        -- an entry with the key c is the one that was set
        rcases memS es n e he with ⟨_, h⟩ | h
        · exact h
        · have key2 : ∀ (es : List MapEntry) (n : Nat) (ks : List Int), es.map (·.key) = ks.map iv → ks.Nodup → (∀ h : n < es.length, es[n].key = iv c) → n < es.length → ∀ e ∈ setEntry (.int .i64 c) v es n, e.key = iv c → e.val = v := by
            intro es
            induction es with
            | nil => intro n ks _ _ _ h; simp at h
            | cons y es ih =>
              intro n ks hks hnd hkn hn e he hek
              cases ks with
              | nil => simp at hks
              | cons k ks =>
                simp only [List.map_cons, List.cons.injEq] at hks
                have hnd' := List.nodup_cons.1 hnd
                cases n with
                | zero =>
                  rcases List.mem_cons.1 he with rfl | h
                  · rfl
                  · exfalso
                    have h0 := hkn (by simp)
                    simp only [List.getElem_cons_zero] at h0
                    rw [hks.1] at h0
                    have hkc : k = c := by simpa [iv] using h0
                    have : e.key ∈ es.map (·.key) := List.mem_map_of_mem h
                    rw [hks.2, hek] at this
                    obtain ⟨z, hz, e2⟩ := List.mem_map.1 this
                    have : z = c := by simpa [iv] using e2
                    exact hnd'.1 (by rw [hkc, ← this]; exact hz)
                | succ n =>
                  rcases List.mem_cons.1 he with rfl | h
                  · exfalso
                    rw [hks.1] at hek
                    have hkc : k = c := by simpa [iv] using hek
                    have h0 := hkn (by simpa using hn)
                    simp only [List.getElem_cons_succ] at h0
                    have hn' : n < es.length := by simpa using hn
                    have : es[n].key ∈ es.map (·.key) := List.mem_map_of_mem (List.getElem_mem hn')
                    rw [hks.2, h0] at this
                    obtain ⟨z, hz, e2⟩ := List.mem_map.1 this
                    have : z = c := by simpa [iv] using e2
                    exact hnd'.1 (by rw [hkc, ← this]; exact hz)
                  · exact ih n ks hks.2 hnd'.2 (fun hn => by have := hkn (by simpa using hn); simpa using this) (by simpa using hn) e h hek
          exact key2 es n zs hk h2.nodup (fun _ => h5) hn e he (by rw [hx, hxc])
      · rw [if_neg hxc]
        rcases memS es n e he with ⟨h, _⟩ | h
        · rw [h] at hx; exact (hxc (by simpa [iv] using hx.symm)).elim
        · exact h3 e h x hx
  · simp only [fv_out hE hk hc]
    refine ⟨zs ++ [c], _, rfl, ⟨_, _, get_set_self _ _ _, ⟨mkeys_mk (by simp [hk, iv]), ?_, ?_, ?_, ?_, ?_⟩, ?_⟩, fun x => by simp, .inr rfl, Mod.set ok h1 _, rfl⟩
    · intro e he
      rcases List.mem_append.1 he with h | h
      · have := h2.born e h; omega
      · have : e = { key := .int .i64 c, val := v, born := clock } := by simpa using h
        rw [this]; exact Nat.lt_succ_self _
    · rw [List.map_append]
      refine List.nodup_append.2 ⟨h2.once, by simp, fun a ha b hb e => ?_⟩
      obtain ⟨y, hy, rfl⟩ := List.mem_map.1 ha
      have : b = clock := by simpa using hb
      have := h2.born y hy
      omega
    · refine List.nodup_append.2 ⟨h2.nodup, by simp, fun a ha b hb e => ?_⟩
      have : b = c := by simpa using hb
      exact hc (by rw [← this, ← e]; exact ha)
    · intro x hx
      rcases List.mem_append.1 hx with h | h
      · exact h2.wf x h
      · have : x = c := by simpa using h
        rw [this]; exact hc64
    · rw [List.length_append, List.length_singleton]; omega
    · intro e he x hx
      show e.val = if x = c then v else val x
      rcases List.mem_append.1 he with h | h
      · have hxz : x ∈ zs := by
          have := List.mem_map_of_mem (f := (·.key)) h
          rw [hk, hx] at this
          obtain ⟨y, hy, e2⟩ := List.mem_map.1 this
          have : y = x := by simpa [iv] using e2
          rw [← this]; exact hy
        rw [if_neg (fun e2 => hc (by rw [← e2]; exact hxz))]
        exact h3 e h x hx
      · have he2 : e = { key := .int .i64 c, val := v, born := clock } := by simpa using h
        rw [he2] at hx ⊢
        rw [if_pos (by simpa [iv] using hx.symm)]
end
theorem MapV.len {H : AH} {r : Nat} {zs : List Int} {val : Int → Value} (h : MapV H r zs val) : ∃ es clock, H.get r = some (.map es clock) ∧ es.length = zs.length := by
  obtain ⟨es, clock, h1, h2, _⟩ := h
  exact ⟨es, clock, h1, mkeys_len h2.keys⟩
end Go.Ev

namespace Go.Ev
open Go
/-- how many of the first numbers are there -/
def cntB (p : Nat → Bool) : Nat → Nat
  | 0 => 0
  | n + 1 => cntB p n + (if p n then 1 else 0)
theorem cntB_le (p : Nat → Bool) : ∀ n, cntB p n ≤ n
  | 0 => Nat.le_refl _
  | n + 1 => by have := cntB_le p n; unfold cntB; split <;> omega
theorem cntB_congr {p q : Nat → Bool} : ∀ {n : Nat}, (∀ i, i < n → p i = q i) → cntB p n = cntB q n
  | 0, _ => rfl
  | n + 1, h => by unfold cntB; rw [cntB_congr fun i hi => h i (by omega), h n (by omega)]
theorem cnt_nodup : ∀ (n : Nat) (zs : List Int), zs.Nodup → (∀ x ∈ zs, 0 ≤ x ∧ x < n) → zs.length = cntB (fun i => decide ((i : Int) ∈ zs)) n
  | 0, zs, _, h => by
    cases zs with
    | nil => rfl
    | cons x zs => have := h x List.mem_cons_self; omega
  | n + 1, zs, hn, h => by
    unfold cntB
    by_cases hm : (n : Int) ∈ zs
    · have h1 := cnt_nodup n (zs.erase n) (hn.erase _) fun x hx => by
        have h2 := (hn.mem_erase_iff).1 hx
        have h3 := h x h2.2
        have := h2.1
        omega
      have h2 := List.length_erase_of_mem hm
      have hpos : 0 < zs.length := List.length_pos_of_mem hm
      have h3 : cntB (fun i => decide ((i : Int) ∈ zs.erase n)) n = cntB (fun i => decide ((i : Int) ∈ zs)) n := cntB_congr fun i hi => by
        refine decide_eq_decide.2 ?_
        rw [hn.mem_erase_iff]
        exact ⟨fun h => h.2, fun h => ⟨by omega, h⟩⟩
      rw [h3] at h1
      simp only [hm, decide_true, if_true]
      omega
    · have h1 := cnt_nodup n zs hn fun x hx => by
        have h3 := h x hx
        have : x ≠ n := fun e => hm (e ▸ hx)
        omega
      simp only [hm, decide_false]
      simpa using h1
/-- a map of lives: of each worker its life, none of those that are not there -/
def LV (H : AH) (r : Nat) (g : Int → Int) : Prop := ∃ (zs : List Int) (f : Int → Int), MapV H r zs (fun x => .int .i64 (f x)) ∧ (∀ x ∈ zs, 0 ≤ x ∧ x < 64 ∧ 0 < f x) ∧ ∀ x, g x = if x ∈ zs then f x else 0
theorem LV.mod {S : Nat → Prop} {H H' : AH} {r : Nat} {g : Int → Int} (h : LV H r g) (hm : Mod S H H') (hs : ¬ S r) : LV H' r g := by
  obtain ⟨zs, f, h1, h2⟩ := h
  exact ⟨zs, f, h1.mod hm hs, h2⟩
theorem LV.empty {H : AH} {r c : Nat} (h : H.get r = some (.map [] c)) : LV H r fun _ => 0 := ⟨[], fun _ => 0, .empty h, fun _ h => (by cases h), fun _ => rfl⟩
theorem LV.out {H : AH} {r : Nat} {g : Int → Int} (h : LV H r g) {x : Int} (hx : ¬ (0 ≤ x ∧ x < 64)) : g x = 0 := by
  obtain ⟨zs, f, _, h2, h3⟩ := h
  rw [h3, if_neg]
  intro hm
  have := h2 x hm
  exact hx ⟨this.1, this.2.1⟩
theorem zs_small {zs : List Int} (h1 : zs.Nodup) (h2 : ∀ x ∈ zs, 0 ≤ x ∧ x < 64) : zs.length ≤ 64 := by
  rw [cnt_nodup 64 zs h1 (fun x hx => by have := h2 x hx; omega)]
  exact cntB_le _ _
theorem LV.count {H : AH} {r : Nat} {g : Int → Int} (h : LV H r g) : ∃ (zs : List Int) (f : Int → Int), MapV H r zs (fun x => .int .i64 (f x)) ∧ zs.length = cntB (fun i => decide (0 < g (i : Int))) 64 := by
  obtain ⟨zs, f, h1, h2, h3⟩ := h
  refine ⟨zs, f, h1, ?_⟩
  rw [cnt_nodup 64 zs h1.nodup fun x hx => by have := h2 x hx; omega]
  refine cntB_congr fun i _ => decide_eq_decide.2 ?_
  rw [h3]
  constructor
  · intro hm; rw [if_pos hm]; exact (h2 _ hm).2.2
  · intro hp
    by_cases hm : (i : Int) ∈ zs
    · exact hm
    · rw [if_neg hm] at hp; omega
end Go.Ev
namespace Go.Proofs.Cx
open Go Go.Ev
set_option maxRecDepth 100000 in
theorem eqv_I {a b : Int} : eqv Ee eqDepth T_int (.int .i64 a) (.int .i64 b) = some (a == b) := by kernel_rfl
set_option maxRecDepth 100000 in
theorem look_ii {H : AH} {m : Value} {c : Int} {ok : Bool} : lookupv Ee H T_M_int_int m (.int .i64 c) ok = lookX Ee T_int H m c (.int .i64 0) ok := by kernel_rfl
set_option maxRecDepth 100000 in
theorem upd_ii {H : AH} {r : Nat} {c : Int} {v : Value} : updatev Ee H T_M_int_int (.map (some r)) (.int .i64 c) v = updX Ee T_int H r c v := by kernel_rfl
theorem LV.look {H : AH} {r : Nat} {g : Int → Int} (h : LV H r g) (c : Int) : lookupv Ee H T_M_int_int (.map (some r)) (.int .i64 c) false = some (.int .i64 (g c)) ∧
    lookupv Ee H T_M_int_int (.map (some r)) (.int .i64 c) true = some (.tuple ⟨[.int .i64 (g c), .bool (decide (0 < g c))]⟩) := by
  obtain ⟨zs, f, h1, h2, h3⟩ := h
  rw [look_ii, look_ii, h1.look (fun _ _ => eqv_I), h1.look (fun _ _ => eqv_I), h3]
  by_cases hc : c ∈ zs
  · have := (h2 c hc).2.2
    simp [hc, this]
  · simp [hc]
theorem LV.put {H : AH} {r : Nat} {g : Int → Int} (ok : Ok H) (h : LV H r g) {k n : Int} (hk : 0 ≤ k ∧ k < 64) (hn : 0 < n) :
    ∃ H', updatev Ee H T_M_int_int (.map (some r)) (.int .i64 k) (.int .i64 n) = some H' ∧ LV H' r (fun x => if x = k then n else g x) ∧ Mod (· = r) H H' := by
  obtain ⟨zs, f, h1, h2, h3⟩ := h
  have hl := zs_small h1.nodup fun x hx => ⟨(h2 x hx).1, (h2 x hx).2.1⟩
  obtain ⟨zs', H', k1, k2, k3, _, k4, _⟩ := h1.put (fun _ _ => eqv_I) ok (c := k) (by unfold I64; omega) (by omega) (.int .i64 n)
  refine ⟨H', by rw [upd_ii]; exact k1, ⟨zs', fun x => if x = k then n else f x, k2.congr fun x _ => ?_, fun x hx => ?_, fun x => ?_⟩, k4⟩
  · by_cases e : x = k
    · simp [e]
    · simp [e]
  · rcases (k3 x).1 hx with h | h
    · obtain ⟨a, b, c⟩ := h2 x h
      refine ⟨a, b, ?_⟩
      show 0 < if x = k then n else f x
      by_cases e : x = k
      · rw [if_pos e]; exact hn
      · rw [if_neg e]; exact c
    · subst h; simp only [if_true]; omega
  · by_cases e : x = k
    · have : x ∈ zs' := (k3 x).2 (.inr e)
      simp [e] at this ⊢
      simp [this]
    · have : x ∈ zs' ↔ x ∈ zs := ⟨fun h => ((k3 x).1 h).elim id fun h => (e h).elim, fun h => (k3 x).2 (.inl h)⟩
      simp [e, this, h3]
/-! sorted keys -/
set_option maxRecDepth 100000 in
theorem sorted_eq {args : List Value} {H : AH} : (evalN Ee 1).call F_slices_Sorted_int args H = keysW [F_maps_Keys_map_int_int_int_int_1, F_maps_Keys_map_int_P_master_job_int_P_master_job_1, F_maps_Keys_map_int_api_Report_int_api_Report_1] args H := by kernel_rfl
theorem sorted_ok {H : AH} {B m g : Nat} {zs : List Int} {val : Int → Value} (ok : Ok H) (hg : g ∈ [F_maps_Keys_map_int_int_int_int_1, F_maps_Keys_map_int_P_master_job_int_P_master_job_1, F_maps_Keys_map_int_api_Report_int_api_Report_1])
    (hB : H.get B = some (.cells [.map (some m)] 0)) (hm : MapV H m zs val) :
    FW Ee F_slices_Sorted_int [.func (.func g) ⟨[]⟩ ⟨[.pointer (some ⟨B, 0, none⟩)]⟩] H fun r H' => ∃ a c, r = .slice a zs.length c ∧ Own H' 1 a zs.length c ((sortI zs).map iv) ∧ (∀ x, a = some x → H.next ≤ x.block) ∧ Grow H H' ∧ H'.next ≤ H.next + 1 := by
  obtain ⟨es, clock, h1, h2, _⟩ := hm
  have hc : List.contains [F_maps_Keys_map_int_int_int_int_1, F_maps_Keys_map_int_P_master_job_int_P_master_job_1, F_maps_Keys_map_int_api_Report_int_api_Report_1] g = true := List.contains_iff_mem.2 hg
  by_cases hz : zs = []
  · refine ⟨1, .slice none 0 0, H, ?_, none, 0, by rw [hz]; rfl, ?_, fun x e => (by cases e), .refl ok, by omega⟩
    · rw [sorted_eq]
      simp only [keysW, hc, cond_true, hB, h1, h2.keys, if_pos h2, if_pos hz]
    · have e : (sortI []).map iv = [] := by simp [sortI]
      rw [hz, e]; exact Own.nil _ _
  · refine ⟨1, .slice (some ⟨H.next, 0, none⟩) zs.length (2 * zs.length + 1), H.new (.cells ((sortI zs).map iv) 1), ?_, _, _, rfl, ?_, fun x e => (by cases e; exact Nat.le_refl _), Grow.new ok _, Nat.le_refl _⟩
    · rw [sorted_eq]
      simp only [keysW, hc, cond_true, hB, h1, h2.keys, if_pos h2, if_neg hz]
    · have hl : (sortI zs).length = zs.length := List.length_mergeSort _
      exact ⟨by simp [hl], by simp [iv, oneCell], .inr (.inr ⟨H.next, rfl, rfl, get_new_self _ _⟩)⟩

/-! the master -/
structure M0 (H : AH) (mb wb : Nat) (g : Int → Int) : Prop where
  row : ∃ sp jb la ep, H.get mb = some (.cells [.pointer sp, .map (some jb), .map (some wb), .int .i64 la, .int .i64 ep] 0) ∧ H.get jb = some (.map [] 0) ∧ jb ≠ wb
  ne : mb ≠ wb
  lives : LV H wb g
theorem M0.grow {H H' : AH} {mb wb : Nat} {g : Int → Int} (h : M0 H mb wb g) (k : Grow H H') : M0 H' mb wb g := by
  obtain ⟨⟨sp, jb, la, ep, h1, h2, h3⟩, h4, h5⟩ := h
  exact ⟨⟨sp, jb, la, ep, k.get _ _ id h1, k.get _ _ id h2, h3⟩, h4, h5.mod k id⟩
section
variable {H : AH} {mb wb : Nat} {g : Int → Int}
theorem keysj_ok {m : Option Nat} (ok : Ok H) : FW Ee F_maps_Keys_map_int_P_master_job_int_P_master_job [.map m] H fun r H' => r = .func (.func F_maps_Keys_map_int_P_master_job_int_P_master_job_1) ⟨[]⟩ ⟨[.pointer (some ⟨H.next, 0, none⟩)]⟩ ∧ H'.get H.next = some (.cells [.map m] 0) ∧ Grow H H' := by
  refine fw_maps_Keys_map_int_P_master_job_int_P_master_job ?_
  intro H1 e1
  exact ⟨rfl, e1 ▸ get_new_self _ _, e1 ▸ Grow.new ok _⟩
end
end Go.Proofs.Cx

namespace Go.Ev
open Go
def cmdV (kd se sq : Int) (s : List UInt8) (id wk li : Int) (f : Nat → Int) (h : Nat → Bool) (v : Nat → Int) (a : Option Addr) (l c : Nat) : List Value :=
  [.int .i64 kd, .int .i64 se, .int .i64 sq, .string ⟨⟨s⟩⟩, .int .i64 id, .int .i64 wk, .int .i64 li] ++ repC f h v a l c
/-- a master that is new: its blocks -/
structure FM (H : AH) (n0 : Nat) : Prop where
  t : H.get n0 = some (.map [] 0)
  s : H.get (n0 + 1) = some (.cells [.map (some n0)] 0)
  j : H.get (n0 + 2) = some (.map [] 0)
  w : H.get (n0 + 3) = some (.map [] 0)
  m : H.get (n0 + 4) = some (.cells [.pointer (some ⟨n0 + 1, 0, none⟩), .map (some (n0 + 2)), .map (some (n0 + 3)), .int .i64 0, .int .i64 0] 0)
theorem FM.grow {H H' : AH} {n0 : Nat} (h : FM H n0) (g : Grow H H') : FM H' n0 := ⟨g.get _ _ id h.t, g.get _ _ id h.s, g.get _ _ id h.j, g.get _ _ id h.w, g.get _ _ id h.m⟩
/-- a master of whose jobs none runs -/
def NRun (H : AH) (n0 L : Nat) : Prop := ∃ sp wb la ep zs val, H.get (n0 + 4) = some (.cells [.pointer sp, .map (some (n0 + 2)), .map (some wb), .int .i64 la, .int .i64 ep] 0) ∧
  MapV H (n0 + 2) zs val ∧ zs.length ≤ 1 ∧ ∀ x ∈ zs, ∃ pb s, val x = .pointer (some ⟨pb, 0, none⟩) ∧ H.cell pb 7 = some (.int .i64 s) ∧ s ≠ 2 ∧ L ≤ pb
theorem NRun.mod {S : Nat → Prop} {H H' : AH} {n0 L : Nat} (h : NRun H n0 L) (m : Mod S H H') (h1 : ¬ S (n0 + 4)) (h2 : ¬ S (n0 + 2)) (h3 : ∀ x, L ≤ x → ¬ S x) : NRun H' n0 L := by
  obtain ⟨sp, wb, la, ep, zs, val, k1, k2, k3, k4⟩ := h
  refine ⟨sp, wb, la, ep, zs, val, m.get _ _ h1 k1, k2.mod m h2, k3, fun x hx => ?_⟩
  obtain ⟨pb, s, p1, p2, p3, p4⟩ := k4 x hx
  exact ⟨pb, s, p1, loc_cell (F := (· = pb)) (fun b o hb e => m.get _ _ (by rw [hb]; exact h3 _ p4) e) rfl p2, p3, p4⟩
theorem NRun.grow {H H' : AH} {n0 L : Nat} (h : NRun H n0 L) (g : Grow H H') : NRun H' n0 L := h.mod g id id fun _ _ => id
theorem FM.nr {H : AH} {n0 : Nat} (h : FM H n0) (L : Nat) : NRun H n0 L := ⟨_, _, _, _, [], fun _ => .bool true, h.m, .empty h.j, by simp, fun _ h => (by cases h)⟩
theorem u64_range (x : Int) : ∃ n : Nat, IntKind.u64.wrap x = n ∧ n < 18446744073709551616 := by
  have hb : (2 ^ IntKind.u64.bits : Int) = 18446744073709551616 := by rfl
  have hs : IntKind.u64.signed = false := rfl
  have e : IntKind.u64.wrap x = x % 18446744073709551616 := by
    simp only [IntKind.wrap, hb, hs, Bool.false_and]
    simp
  refine ⟨(IntKind.u64.wrap x).toNat, ?_, ?_⟩ <;> rw [e] <;> omega
end Go.Ev
namespace Go.Proofs.Cx
open Go Go.Ev
section
variable {H : AH} {n0 L : Nat}
set_option maxRecDepth 100000 in
theorem look_ij {H : AH} {m : Value} {c : Int} {ok : Bool} : lookupv Ee H T_M_int_P_master_job m (.int .i64 c) ok = lookX Ee T_int H m c (.pointer none) ok := by kernel_rfl
set_option maxRecDepth 100000 in
theorem upd_ij {H : AH} {r : Nat} {c : Int} {v : Value} : updatev Ee H T_M_int_P_master_job (.map (some r)) (.int .i64 c) v = updX Ee T_int H r c v := by kernel_rfl
set_option maxRecDepth 100000 in
theorem look_is {H : AH} {m : Value} {c : Int} {ok : Bool} : lookupv Ee H T_M_int64_sess_last m (.int .i64 c) ok = lookX Ee T_int64 H m c (.agg ⟨[.int .i64 0, .string ⟨⟨[]⟩⟩]⟩) ok := by kernel_rfl
set_option maxRecDepth 100000 in
theorem upd_is {H : AH} {r : Nat} {c : Int} {v : Value} : updatev Ee H T_M_int64_sess_last (.map (some r)) (.int .i64 c) v = updX Ee T_int64 H r c v := by kernel_rfl
theorem lookX_nil {E : Env} {kt : TypeId} {r cl : Nat} {c : Int} {z : Value} {ok : Bool} (h : H.get r = some (.map [] cl)) : lookX E kt H (.map (some r)) c z ok = some (bif ok then .tuple #[z, .bool false] else z) := by
  unfold lookX; simp only [entriesOf, h, findv]
theorem updX_nil {E : Env} {kt : TypeId} {r cl : Nat} {c : Int} {v : Value} (h : H.get r = some (.map [] cl)) : updX E kt H r c v = some (H.set r (.map [{ key := .int .i64 c, val := v, born := cl }] (cl + 1))) := by
  unfold updX; simp only [h, findv, List.nil_append]
set_option maxRecDepth 100000 in
theorem open_eq {args : List Value} {H : AH} : (evalN Ee 1).call F_master_Master_Open args H = openW args H := by kernel_rfl

/-! nil -/
theorem opennil_ok : FW Ee F_master_Master_Open [.pointer none] H fun r H' => r = .int .i64 0 ∧ H = H' := ⟨1, _, _, by rw [open_eq]; rfl, rfl, rfl⟩
theorem applynil_ok {kd se sq jd wk li : Int} {s : List UInt8} {f : Nat → Int} {h : Nat → Bool} {v : Nat → Int} {a : Option Addr} {l c : Nat} (ok : Ok H) :
    FW Ee F_master_Master_Apply [.pointer none, .agg ⟨cmdV kd se sq s jd wk li f h v a l c⟩] H fun r H' => r = .tuple ⟨[.agg ⟨[.int .i64 0, .int .i64 0]⟩, .int .i64 1]⟩ ∧ Grow H H' := by
  refine fw_nil_master_Master_Apply ?_
  intro H1 e1 H2 e2 H3 e3
  obtain ⟨g1, p1, n1⟩ := new_job ok e1
  obtain ⟨g2, c2, n2⟩ := new_job g1.ok e2
  obtain ⟨H4, e4, b4, g4, n4⟩ := fresh_store (vs := [.int .i64 0, .int .i64 0]) e3 rfl rfl g2.ok
  refine ⟨_, cell_of ((e3 ▸ (g2.trans (Grow.new g2.ok _))).get _ _ id p1) rfl, cond_pos rfl ⟨H4, e4, _, _, cell_of b4 rfl, cell_of b4 rfl, rfl, (g1.trans g2).trans g4⟩⟩
theorem looknil_ok {se sq : Int} (ok : Ok H) : FW Ee F_master_Master_Look [.pointer none, .int .i64 se, .int .i64 sq] H fun r H' => r = .tuple ⟨[.agg ⟨[.int .i64 0, .int .i64 0]⟩, .bool false, .int .i64 1]⟩ ∧ Grow H H' := by
  refine fw_nil_master_Master_Look ?_
  intro H1 e1
  obtain ⟨H4, e4, b4, g4, n4⟩ := fresh_store (vs := [.int .i64 0, .int .i64 0]) e1 rfl rfl ok
  exact ⟨H4, e4, _, _, cell_of b4 rfl, cell_of b4 rfl, rfl, g4⟩
abbrev zTask : List Value := tskC (fun _ => 0) (fun _ => nil3) zjw none 0 0 none 0 0 (fun _ => false) (fun _ => 0) false
theorem tasknil_ok {w : Int} (ok : Ok H) : FW Ee F_master_Master_Task [.pointer none, .int .i64 w] H fun r H' => r = .tuple ⟨[.agg ⟨zTask⟩, .bool false]⟩ ∧ Grow H H' := by
  refine fw_nil_master_Master_Task ?_
  intro H1 e1
  obtain ⟨H4, e4, b4, g4, n4⟩ := fresh_store (vs := zTask) e1 rfl rfl ok
  exact ⟨H4, e4, _, _, _, _, _, _, _, _, _, _, _, _, _, _, _, _, _, _, _, _, _, _, _, _, _, _, _, _, _, _, _, _, _, _, cell_of b4 rfl, cell_of b4 rfl, cell_of b4 rfl, cell_of b4 rfl, cell_of b4 rfl, cell_of b4 rfl, cell_of b4 rfl, cell_of b4 rfl, cell_of b4 rfl, cell_of b4 rfl, cell_of b4 rfl, cell_of b4 rfl, cell_of b4 rfl, cell_of b4 rfl, cell_of b4 rfl, cell_of b4 rfl, cell_of b4 rfl, cell_of b4 rfl, cell_of b4 rfl, cell_of b4 rfl, cell_of b4 rfl, cell_of b4 rfl, cell_of b4 rfl, cell_of b4 rfl, cell_of b4 rfl, cell_of b4 rfl, rfl, g4⟩
abbrev zStat : List Value := [.int .i64 0, .int .i64 0, .int .i64 0, .int .i64 0, .int .i64 0, .int .i64 0, .int .i64 0, .slice none 0 0]
theorem statusnil_ok {w : Int} (ok : Ok H) : FW Ee F_master_Master_Status [.pointer none, .int .i64 w] H fun r H' => r = .tuple ⟨[.agg ⟨zStat⟩, .int .i64 1]⟩ ∧ Grow H H' := by
  refine fw_nil_master_Master_Status ?_
  intro H1 e1
  obtain ⟨H4, e4, b4, g4, n4⟩ := fresh_store (vs := zStat) e1 rfl rfl ok
  exact ⟨H4, e4, _, _, _, _, _, _, _, _, _, _, cell_of b4 rfl, cell_of b4 rfl, cell_of b4 rfl, cell_of b4 rfl, cell_of b4 rfl, cell_of b4 rfl, cell_of b4 rfl, cell_of b4 rfl, rfl, g4⟩
theorem specnil_ok {w : Int} (ok : Ok H) : FW Ee F_master_Master_Spec [.pointer none, .int .i64 w] H fun r H' => r = .tuple ⟨[.agg ⟨zJob⟩, .bool false]⟩ ∧ Grow H H' := by
  refine fw_nil_master_Master_Spec ?_
  intro H1 e1
  obtain ⟨H4, e4, b4, g4, n4⟩ := fresh_store (vs := zJob) e1 rfl rfl ok
  exact ⟨H4, e4, _, _, _, _, _, _, _, _, _, _, cell_of b4 rfl, cell_of b4 rfl, cell_of b4 rfl, cell_of b4 rfl, cell_of b4 rfl, cell_of b4 rfl, rfl, g4⟩
theorem wantsnil_ok {f : Nat → Int} {h : Nat → Bool} {v : Nat → Int} {a : Option Addr} {l c : Nat} (ok : Ok H) : FW Ee F_master_Master_Wants [.pointer none, .agg ⟨repC f h v a l c⟩] H fun r H' => r = .bool false ∧ Grow H H' := by
  refine fw_nil_master_Master_Wants ?_
  intro H1 e1
  exact ⟨rfl, e1 ▸ Grow.new ok _⟩

/-! a new one -/
theorem newfm_ok (ok : Ok H) : FW Ee F_master_New [] H fun r H' => r = .pointer (some ⟨H.next + 4, 0, none⟩) ∧ FM H' H.next ∧ H'.next = H.next + 5 ∧ Grow H H' := by
  refine fw_master_New ?_
  refine FW.mono (Q := fun r H' => r = .pointer (some ⟨H.next + 1, 0, none⟩) ∧ Grow H H' ∧ H'.next = H.next + 2 ∧ H'.get H.next = some (.map [] 0) ∧ H'.get (H.next + 1) = some (.cells [.map (some H.next)] 0)) ?_ ?_
  · refine fw_sess_New ?_
    intro H1 e1 H2 e2
    have g1 : Grow H H1 := e1 ▸ Grow.new ok _
    have g2 : Grow H1 H2 := e2 ▸ Grow.new g1.ok _
    have n1 : H1.next = H.next + 1 := by rw [e1]; rfl
    have t1 : H1.get H.next = some (.map [] 0) := e1 ▸ get_new_self _ _
    have s2 : H2.get H1.next = some (.cells [.map (some H.next)] 0) := e2 ▸ get_new_self _ _
    rw [n1] at s2
    exact ⟨by rw [n1], g1.trans g2, by rw [e2, AH.new_next]; omega, g2.get _ _ id t1, s2⟩
  · rintro _ H1 ⟨rfl, g1, n1, t1, s1⟩
    refine ⟨_, rfl, ?_⟩
    intro H2 e2 H3 e3 H4 e4
    have g2 : Grow H1 H2 := e2 ▸ Grow.new g1.ok _
    have g3 : Grow H2 H3 := e3 ▸ Grow.new g2.ok _
    obtain ⟨g4, b4, n4⟩ := new_job g3.ok e4
    have n2 : H2.next = H1.next + 1 := by rw [e2]; rfl
    have n3 : H3.next = H2.next + 1 := by rw [e3]; rfl
    have j2 : H2.get H1.next = some (.map [] 0) := e2 ▸ get_new_self _ _
    have w3 : H3.get H2.next = some (.map [] 0) := e3 ▸ get_new_self _ _
    have a1 : H1.next = H.next + 2 := n1
    have a2 : H2.next = H.next + 3 := by omega
    have a3 : H3.next = H.next + 4 := by omega
    rw [a1] at j2 b4
    rw [a2] at w3 b4
    rw [a3] at b4
    have g24 := (g2.trans g3).trans g4
    exact ⟨by rw [a3], ⟨g24.get _ _ id t1, g24.get _ _ id s1, (g3.trans g4).get _ _ id j2, g4.get _ _ id w3, b4⟩, by omega, g1.trans g24⟩
theorem flat_iv : ∀ zs : List Int, zs.flatMap intC = zs.map iv
  | [] => rfl
  | z :: zs => by rw [List.flatMap_cons, flat_iv zs]; rfl
theorem idsn_ok {mb jb : Nat} {v0 v2 v3 v4 : Value} {zs : List Int} {val : Int → Value} (ok : Ok H) (hr : H.get mb = some (.cells [v0, .map (some jb), v2, v3, v4] 0)) (hm : MapV H jb zs val) :
    FW Ee F_master_Master_ids [.pointer (some ⟨mb, 0, none⟩)] H fun r H' => ∃ a c, r = .slice a zs.length c ∧ SlI (fun _ => True) H' a zs.length (sortI zs) ∧ Grow H H' := by
  refine fw_master_Master_ids ?_
  refine ⟨_, cell_of hr rfl, (keysj_ok ok).mono ?_⟩
  rintro _ H1 ⟨rfl, b1, g1⟩
  refine ⟨_, rfl, (sorted_ok g1.ok (by simp) b1 (hm.mod g1 id)).mono ?_⟩
  rintro _ H2 ⟨a, c, rfl, ow, _, g2, _⟩
  exact ⟨a, _, c, rfl, a, c, rfl, own_sli (by rw [flat_iv]; exact ow) fun _ _ => trivial, g1.trans g2⟩
theorem currentn_ok (ok : Ok H) (h : NRun H n0 L) : FW Ee F_master_Master_current [.pointer (some ⟨n0 + 4, 0, none⟩)] H fun r H' => r = .pointer none ∧ Grow H H' := by
  obtain ⟨sp, wb, la, ep, zs, val, k1, k2, k3, k4⟩ := h
  refine fw_master_Master_current ?_
  refine (idsn_ok ok k1 k2).mono ?_
  rintro _ H1 ⟨a, c, rfl, hS, g1⟩
  have hl : (sortI zs).length = zs.length := List.length_mergeSort _
  refine ⟨_, _, _, rfl, fun n _ t Hx => ∃ i : Nat, t = i ∧ i ≤ zs.length ∧ n = zs.length - i ∧ Hx = H1, ⟨_, 0, rfl, by omega, rfl, rfl⟩, ?_⟩
  rintro n t2 t8 H2 ⟨i, rfl, hi, rfl, rfl⟩
  refine cond_dec (fun hlt => ?_) (fun _ => ⟨rfl, g1⟩)
  have hik : i < (sortI zs).length := by omega
  obtain ⟨hs, hx⟩ := hS.nth hik
  have hmem : (sortI zs)[i] ∈ zs := by
    have := List.getElem_mem hik
    exact (List.mem_mergeSort).1 this
  obtain ⟨pb, s, p1, p2, p3, p4⟩ := k4 _ hmem
  have lk : lookupv Ee H2 T_M_int_P_master_job (.map (some (n0 + 2))) (.int .i64 (sortI zs)[i]) false = some (.pointer (some ⟨pb, 0, none⟩)) := by
    rw [look_ij, (k2.mod g1 id).look (fun _ _ => eqv_I)]
    simp only [hmem, if_true, cond_false, p1]
  refine grd_intro hs ⟨by omega, by omega, _, by rw [Int.toNat_natCast]; exact hx, _, cell_of (g1.get _ _ id k1) rfl, _, lk, grd_intro rfl (grd_intro rfl ⟨s, ?_, cond_neg (by simpa using p3) ?_⟩)⟩
  · exact loc_cell (F := (· = pb)) (fun b o _ e => g1.get _ _ id e) rfl p2
  · intro t28 e28
    rw [wrap_i64 (by omega) (by omega)] at e28
    exact ⟨zs.length - (i + 1), by omega, i + 1, by omega, by omega, rfl, rfl⟩
theorem wantsn_ok {f : Nat → Int} {h : Nat → Bool} {v : Nat → Int} {a : Option Addr} {l c : Nat} (ok : Ok H) (hn : NRun H n0 L) : FW Ee F_master_Master_Wants [.pointer (some ⟨n0 + 4, 0, none⟩), .agg ⟨repC f h v a l c⟩] H fun r H' => r = .bool false ∧ Grow H H' := by
  refine fw_master_Master_Wants ?_
  intro H1 e1
  have g1 : Grow H H1 := e1 ▸ Grow.new ok _
  refine (currentn_ok g1.ok (hn.grow g1)).mono ?_
  rintro _ H2 ⟨rfl, g2⟩
  exact ⟨_, rfl, cond_pos rfl ⟨rfl, g1.trans g2⟩⟩
theorem reportn_ok {f : Nat → Int} {h : Nat → Bool} {v : Nat → Int} {a : Option Addr} {l c : Nat} (ok : Ok H) (hn : NRun H n0 L) : FW Ee F_master_Master_report [.pointer (some ⟨n0 + 4, 0, none⟩), .agg ⟨repC f h v a l c⟩] H fun r H' => r = .tuple ⟨[]⟩ ∧ Grow H H' := by
  refine fw_master_Master_report ?_
  intro H1 e1
  obtain ⟨g1, p1, n1⟩ := new_job ok e1
  refine ⟨_, _, _, _, _, _, _, _, _, _, _, _, _, _, _, _, _, _, _, _, _, _, cell_of p1 rfl, cell_of p1 rfl, cell_of p1 rfl, cell_of p1 rfl, cell_of p1 rfl, cell_of p1 rfl, cell_of p1 rfl, cell_of p1 rfl, cell_of p1 rfl, cell_of p1 rfl, cell_of p1 rfl, cell_of p1 rfl, cell_of p1 rfl, cell_of p1 rfl, cell_of p1 rfl, cell_of p1 rfl, cell_of p1 rfl, cell_of p1 rfl, cell_of p1 rfl, cell_of p1 rfl, (wantsn_ok (f := f) (h := h) (v := v) (a := a) (l := l) (c := c) g1.ok (hn.grow g1)).mono ?_⟩
  rintro _ H2 ⟨rfl, g2⟩
  exact ⟨_, rfl, cond_pos rfl ⟨rfl, g1.trans g2⟩⟩
theorem statusn_ok {w : Int} (ok : Ok H) (hn : FM H n0) : FW Ee F_master_Master_Status [.pointer (some ⟨n0 + 4, 0, none⟩), .int .i64 w] H fun r H' => r = .tuple ⟨[.agg ⟨zStat⟩, .int .i64 170]⟩ ∧ Grow H H' := by
  refine fw_master_Master_Status ?_
  intro H1 e1
  have g1 : Grow H H1 := e1 ▸ Grow.new ok _
  obtain ⟨H4, e4, b4, g4, n4⟩ := fresh_store (vs := zStat) e1 rfl rfl ok
  refine ⟨_, cell_of (hn.grow g1).m rfl, _, _, by rw [look_ij, lookX_nil (hn.grow g1).j]; rfl, cond_pos rfl ?_⟩
  exact ⟨H4, e4, _, _, _, _, _, _, _, _, _, _, cell_of b4 rfl, cell_of b4 rfl, cell_of b4 rfl, cell_of b4 rfl, cell_of b4 rfl, cell_of b4 rfl, cell_of b4 rfl, cell_of b4 rfl, rfl, g4⟩
theorem openn_ok (hn : FM H n0) : FW Ee F_master_Master_Open [.pointer (some ⟨n0 + 4, 0, none⟩)] H fun r H' => r = .int .i64 0 ∧ H = H' := by
  refine ⟨1, .int .i64 0, H, ?_, rfl, rfl⟩
  rw [open_eq]
  unfold openW
  simp only [hn.m, hn.j]
  rfl
/-- with workers, without jobs: nothing starts -/
theorem startn_ok {sp : Option Addr} {jb wb : Nat} {la ep : Int} {mb : Nat} {es : List MapEntry} {c c' : Nat} (ok : Ok H) (hr : H.get mb = some (.cells [.pointer sp, .map (some jb), .map (some wb), .int .i64 la, .int .i64 ep] 0))
    (hj : H.get jb = some (.map [] c)) (hw : H.get wb = some (.map es c')) : FW Ee F_master_Master_start [.pointer (some ⟨mb, 0, none⟩)] H fun r H' => r = .tuple ⟨[]⟩ ∧ Grow H H' := by
  refine fw_master_Master_start ?_
  refine ⟨_, cell_of hr rfl, .inr ⟨wb, es, c', rfl, hw, cond_intro (fun _ => ⟨rfl, .refl ok⟩) (fun _ => ?_)⟩⟩
  refine FW.mono (Q := fun r H' => r = .pointer none ∧ Grow H H') ?_ ?_
  · refine fw_master_Master_current ?_
    refine (idsn_ok ok hr (MapV.empty (val := fun _ => .bool true) hj)).mono ?_
    rintro _ H1 ⟨a, c, rfl, _, g1⟩
    refine ⟨_, _, _, rfl, fun _ _ t Hx => t = 0 ∧ Hx = H1, ⟨0, rfl, rfl⟩, ?_⟩
    rintro n t2 t8 H2 ⟨rfl, rfl⟩
    exact cond_neg (by simp) ⟨rfl, g1⟩
  rintro _ H6 ⟨rfl, g6⟩
  refine ⟨none, rfl, cond_neg rfl ((idsn_ok g6.ok (g6.get _ _ id hr) (MapV.empty (val := fun _ => .bool true) (g6.get _ _ id hj))).mono ?_)⟩
  rintro _ H8 ⟨a, c, rfl, _, g8⟩
  refine ⟨_, _, _, rfl, fun _ t Hx => t = 0 ∧ Hx = H8, ⟨0, rfl, rfl⟩, ?_⟩
  rintro n t H9 ⟨rfl, rfl⟩
  exact cond_neg (by simp) ⟨rfl, g6.trans g8⟩
theorem joinn_ok {k n : Int} (hL : n0 + 4 < L) (ok : Ok H) (h : FM H n0) : FW Ee F_master_Master_join [.pointer (some ⟨n0 + 4, 0, none⟩), .int .i64 k, .int .i64 n] H fun r H' => r = .tuple ⟨[]⟩ ∧ NRun H' n0 L ∧ Mod (· = n0 + 3) H H' := by
  refine fw_master_Master_join ?_
  refine ⟨_, cell_of h.m rfl, _, _, by rw [look_ii, lookX_nil h.w]; rfl, cond_neg rfl ?_⟩
  refine cond_dec (fun _ => ⟨rfl, h.nr _, .refl ok⟩) (fun _ => cond_dec (fun _ => ⟨rfl, h.nr _, .refl ok⟩) (fun _ => cond_neg rfl ?_))
  have d4 := Mod.set ok h.w (.map [{ key := .int .i64 k, val := .int .i64 n, born := 0 }] (0 + 1))
  refine ⟨_, cell_of h.m rfl, _, by rw [upd_ii, updX_nil h.w], (startn_ok d4.ok (d4.get _ _ (by omega) h.m) (d4.get _ _ (by omega) h.j) (get_set_self _ _ _)).mono ?_⟩
  rintro _ H5 ⟨rfl, g5⟩
  exact ⟨rfl, rfl, ((h.nr L).mod d4 (by omega) (by omega) (fun x hx => by omega)).grow g5, d4.add g5⟩
end
end Go.Proofs.Cx

namespace Go.Proofs.Cx
open Go Go.Ev
section
variable {H : AH} {n0 L : Nat}
theorem yw_count_any {n1 b : Nat} {x : Int} {bs : List UInt8} (ok : Ok H) (h : Wr H n1 b bs) (hs : bs.length ≤ 140737488355000) :
    FW Ee F_wire_Writer_Count [.pointer (some ⟨b, 0, none⟩), .int .i64 x] H fun r H' => r = .tuple ⟨[]⟩ ∧ (∃ n, n < 18446744073709551616 ∧ Wr H' n1 b (bs ++ enc n)) ∧ WrX H b H' := by
  refine fw_wire_Writer_Count ?_
  intro t7 e7
  obtain ⟨n, e, hn⟩ := u64_range (if (0 : Int) > x then 0 else x)
  rw [e] at e7
  subst e7
  refine (yw_number ok h hn hs).mono ?_
  rintro _ H2 ⟨rfl, h1, h2⟩
  exact ⟨rfl, rfl, ⟨n, hn, h1⟩, h2⟩
theorem replyText_ok {x y : Int} (ok : Ok H) : FW Ee F_master_replyText [.agg ⟨[.int .i64 x, .int .i64 y]⟩] H fun r H' => ∃ s, r = .string ⟨⟨s⟩⟩ ∧ s.length ≤ 20 ∧ Grow H H' := by
  refine fw_master_replyText ?_
  intro H1 e1
  obtain ⟨g1, p1, n1⟩ := new_job ok e1
  refine (newwriter_ok g1.ok).mono ?_
  rintro _ H2 ⟨rfl, w2, g2⟩
  refine ⟨_, rfl, _, cell_of (g2.get _ _ not_false p1) rfl, (yw_count_any g2.ok w2 (by simp)).mono ?_⟩
  rintro _ H3 ⟨rfl, ⟨a, ha, w3⟩, x3⟩
  have la := enc_len64 ha
  have low : ∀ x, WrS H2 H1.next x → H1.next ≤ x := fun x hx => w2.low hx
  have p3 := x3.mod.get _ _ (fun hb => by have := low _ hb; omega) (g2.get _ _ not_false p1)
  refine ⟨rfl, _, cell_of p3 rfl, (yw_count_any x3.mod.ok w3 (by simp; omega)).mono ?_⟩
  rintro _ H4 ⟨rfl, ⟨b, hb, w4⟩, x4⟩
  have lb := enc_len64 hb
  refine ⟨rfl, (wall_ok w4).mono ?_⟩
  rintro _ _ ⟨rfl, rfl⟩
  have x24 := x3.trans g2.ok x4
  refine ⟨_, rfl, _, rfl, by simp; omega, ((g1.trans g2).ext x24.mod ok fun x hx => .inr ?_)⟩
  have := low x hx; omega
theorem replyOf_ok {s : List UInt8} (hs : s.length ≤ 4611686018427387904) (ok : Ok H) : FW Ee F_master_replyOf [.string ⟨⟨s⟩⟩] H fun r H' => ∃ x y, r = .agg ⟨[.int .i64 x, .int .i64 y]⟩ ∧ Grow H H' := by
  refine fw_master_replyOf ?_
  intro H1 e1
  obtain ⟨g1, p1, n1⟩ := new_job ok e1
  refine (newreader_ok g1.ok).mono ?_
  rintro _ H2 ⟨rfl, r2, g2⟩
  have q2 : AtOk s (0, 0) := Nat.zero_le _
  refine ⟨_, rfl, (xcnt_ok (q := (0, 0)) 2147483647 (by omega) g2.ok r2 q2 hs).mono ?_⟩
  rintro _ H3 ⟨rfl, r3, m3⟩
  refine ⟨_, rfl, (xcnt_ok 2147483647 (by omega) m3.ok r3 (rCnt_ok q2).1 hs).mono ?_⟩
  rintro _ H4 ⟨rfl, r4, m4⟩
  have p4 := (m3.trans m4).get _ _ (show ¬ H.next = H1.next by omega) (g2.get _ _ not_false p1)
  have d5 := Mod.set m4.ok p4 (.cells (lset [.int .i64 0, .int .i64 0] 0 [.int .i64 ((rCnt s 2147483647 (0, 0)).1 : Int), .int .i64 ((rCnt s 2147483647 (rCnt s 2147483647 (0, 0)).2).1 : Int)]) 0)
  have b5 := get_set_self H4 H.next (.cells (lset [.int .i64 0, .int .i64 0] 0 [.int .i64 ((rCnt s 2147483647 (0, 0)).1 : Int), .int .i64 ((rCnt s 2147483647 (rCnt s 2147483647 (0, 0)).2).1 : Int)]) 0)
  refine ⟨_, rfl, _, store_of (o := 0) p4 (by simp) rfl, _, _, cell_of b5 rfl, cell_of b5 rfl, _, _, rfl, ?_⟩
  exact ((g1.trans g2).ext (m3.trans m4) ok fun x hx => .inr (by omega)).ext d5 ok fun x hx => .inr (by omega)
abbrev SM (n0 : Nat) : Nat → Prop := fun x => x = n0 + 4 ∨ x = n0 + 2
theorem submitn_ok {s : List UInt8} (hs : s.length ≤ 4611686018427387904) (hL : n0 + 4 < L) (hn : L ≤ H.next) (ok : Ok H) (h : FM H n0) :
    FW Ee F_master_Master_submit [.pointer (some ⟨n0 + 4, 0, none⟩), .string ⟨⟨s⟩⟩] H fun r H' => ∃ x y, r = .agg ⟨[.int .i64 x, .int .i64 y]⟩ ∧ NRun H' n0 L ∧ Mod (SM n0) H H' := by
  refine fw_master_Master_submit ?_
  intro H1 e1
  obtain ⟨g1, p1, n1⟩ := new_job ok e1
  refine (decjob_ok g1.ok hs).mono ?_
  rintro _ H2 ⟨j, a, l, c, pa, pl, pc, e, rfl, _, g2⟩
  have n2 := g2.next
  refine ⟨_, _, _, _, _, _, _, _, _, _, _, rfl, ?_⟩
  intro H3 e3
  obtain ⟨H4, e4, b4, g4, n4⟩ := fresh_store (vs := jC j a l c pa pl pc) e3 rfl rfl g2.ok
  have g14 := (g1.trans g2).trans g4
  have p4 := (g2.trans g4).get _ _ not_false p1
  have h4 := h.grow g14
  -- what is told, and nothing else
  have fin : ∀ {Hx : AH} (x y : Int), NRun Hx n0 L → Mod (SM n0) H Hx → Hx.get H.next = some (.cells [.int .i64 0, .int .i64 0] 0) → ∃ Hy, storeCellsv Hx H.next 0 [.int .i64 x, .int .i64 y] = some Hy ∧ ∃ (r1 r2 : Int), Hy.cell H.next (0 + 0) = some (.int .i64 r1) ∧ Hy.cell H.next (0 + 1) = some (.int .i64 r2) ∧
      ∃ x y, Value.agg ⟨[.int .i64 r1, .int .i64 r2]⟩ = .agg ⟨[.int .i64 x, .int .i64 y]⟩ ∧ NRun Hy n0 L ∧ Mod (SM n0) H Hy := by
    intro Hx x y hN hM hp
    have dy := Mod.set hM.ok hp (.cells (lset [.int .i64 0, .int .i64 0] 0 [.int .i64 x, .int .i64 y]) 0)
    have by' := get_set_self Hx H.next (.cells (lset [.int .i64 0, .int .i64 0] 0 [.int .i64 x, .int .i64 y]) 0)
    obtain ⟨sp, wb, la, ep, zs, val, k1, k2, k3, k4⟩ := hN
    refine ⟨_, store_of (o := 0) hp (by simp) rfl, _, _, cell_of by' rfl, cell_of by' rfl, _, _, rfl, ⟨sp, wb, la, ep, zs, val, dy.get _ _ (by omega) k1, k2.mod dy (by omega), k3, fun z hz => ?_⟩, hM.ext dy ok fun b hb => .inr (by omega)⟩
    obtain ⟨pb, st, q1, q2, q3, q4⟩ := k4 z hz
    refine ⟨pb, st, q1, ?_, q3, q4⟩
    by_cases hpb : pb = H.next
    · subst hpb
      have e2 := q2
      unfold AH.cell at e2
      rw [rd_of hp] at e2
      simp at e2
    · exact loc_cell (F := (· = pb)) (fun b o hb e => dy.get _ _ (by rw [hb]; exact hpb) e) rfl q2
  refine ⟨H4, e4, cond_intro (fun _ => fin e 0 (h4.nr L) (g14.le (fun _ hf _ => hf.elim) ok) p4) (fun _ => ?_)⟩
  refine (openn_ok h4).mono ?_
  rintro _ _ ⟨rfl, rfl⟩
  refine ⟨_, rfl, cond_neg rfl ⟨_, cell_of h4.m rfl, cond_neg rfl ⟨_, cell_of h4.m rfl, ?_⟩⟩⟩
  intro t31 e31
  have e31 : t31 = 1 := e31
  subst e31
  have d9 := Mod.set g4.ok h4.m (.cells (lset [.pointer (some ⟨n0 + 1, 0, none⟩), .map (some (n0 + 2)), .map (some (n0 + 3)), .int .i64 0, .int .i64 0] 3 [.int .i64 1]) 0)
  have m9 := get_set_self H4 (n0 + 4) (.cells (lset [.pointer (some ⟨n0 + 1, 0, none⟩), .map (some (n0 + 2)), .map (some (n0 + 3)), .int .i64 0, .int .i64 0] 3 [.int .i64 1]) 0)
  obtain ⟨H9, h9⟩ : ∃ x, x = H4.set (n0 + 4) (.cells (lset [.pointer (some ⟨n0 + 1, 0, none⟩), .map (some (n0 + 2)), .map (some (n0 + 3)), .int .i64 0, .int .i64 0] 3 [.int .i64 1]) 0) := ⟨_, rfl⟩
  rw [← h9] at d9 m9
  have m9 : H9.get (n0 + 4) = some (.cells [.pointer (some ⟨n0 + 1, 0, none⟩), .map (some (n0 + 2)), .map (some (n0 + 3)), .int .i64 1, .int .i64 0] 0) := m9
  have n9 : H9.next = H4.next := by rw [h9]; rfl
  have hnb : n0 + 4 < H.next := by omega
  have b9 := d9.get _ _ (show ¬ H2.next = n0 + 4 by omega) b4
  refine ⟨H9, by rw [h9]; exact store_of (o := 3) h4.m (by simp) rfl, _, cell_of m9 rfl, _, cell_of m9 rfl, _, cell_of m9 rfl, _, _, _, _, _, _, _, _, _, _, cell_of b9 rfl, cell_of b9 rfl, cell_of b9 rfl, cell_of b9 rfl, cell_of b9 rfl, cell_of b9 rfl, ?_⟩
  intro H10 e10
  obtain ⟨g10, j10, n10⟩ := new_job d9.ok e10
  have m10 := g10.get _ _ not_false m9
  have b10 := g10.get _ _ not_false b9
  have t10 : H10.get (n0 + 2) = some (.map [] 0) := g10.get _ _ not_false (d9.get _ _ (by omega) h4.j)
  obtain ⟨zs', H11, u1, u2, u3, u4, d11, n11⟩ := (MapV.empty (val := fun _ => .bool true) t10).put (kt := T_int) (fun _ _ => eqv_I) g10.ok (c := 1) (by unfold I64; omega) (by simp) (.pointer (some ⟨H9.next, 0, none⟩))
  have m11 := d11.get _ _ (show ¬ n0 + 4 = n0 + 2 by omega) m10
  have w11 := d11.get _ _ (show ¬ n0 + 3 = n0 + 2 by omega) (g10.get _ _ not_false (d9.get _ _ (show ¬ n0 + 3 = n0 + 4 by omega) h4.w))
  have j11 := d11.get _ _ (show ¬ H9.next = n0 + 2 by omega) j10
  refine ⟨H11, by rw [upd_ij]; exact u1, cell_of b10 rfl, cell_of b10 rfl, cell_of b10 rfl, cell_of b10 rfl, cell_of b10 rfl, cell_of b10 rfl, cell_of m10 rfl, cell_of m10 rfl, cell_of m10 rfl, ?_⟩
  have N11 : NRun H11 n0 L := by
    refine ⟨_, _, _, _, zs', _, m11, u2, ?_, fun x hx => ?_⟩
    · rcases u4 with e | e <;> rw [e] <;> simp
    · have hx1 : x = 1 := by
        rcases (u3 x).1 hx with h | h
        · cases h
        · exact h
      subst hx1
      exact ⟨H9.next, 1, by simp, cell_of j11 rfl, by omega, by omega⟩
  have M11 : Mod (SM n0) H H11 := by
    have m1 : Mod (SM n0) H H4 := g14.le (fun _ hf _ => hf.elim) ok
    have m2 := m1.ext d9 ok fun x hx => .inl (.inl hx)
    exact (m2.add g10).ext d11 ok fun x hx => .inl (.inr hx)
  have p11 := d11.get _ _ (show ¬ H.next = n0 + 2 by omega) (g10.get _ _ not_false (d9.get _ _ (show ¬ H.next = n0 + 4 by omega) p4))
  refine FW.mono (Q := fun r H' => r = .tuple ⟨[]⟩ ∧ H11 = H') ?_ ?_
  · refine fw_master_Master_start ?_
    exact ⟨_, cell_of m11 rfl, .inr ⟨_, _, _, rfl, w11, cond_pos rfl ⟨rfl, rfl⟩⟩⟩
  rintro _ _ ⟨rfl, rfl⟩
  exact ⟨rfl, _, cell_of m11 rfl, fin 0 1 N11 M11 p11⟩
theorem canceln_ok {w : Int} (ok : Ok H) (h : FM H n0) :
    FW Ee F_master_Master_cancel [.pointer (some ⟨n0 + 4, 0, none⟩), .int .i64 w] H fun r H' => ∃ x y, r = .agg ⟨[.int .i64 x, .int .i64 y]⟩ ∧ Grow H H' := by
  refine fw_master_Master_cancel ?_
  intro H1 e1
  have g1 : Grow H H1 := e1 ▸ Grow.new ok _
  obtain ⟨H4, e4, b4, g4, n4⟩ := fresh_store (vs := [.int .i64 170, .int .i64 0]) e1 rfl rfl ok
  exact ⟨_, cell_of (h.grow g1).m rfl, _, _, by rw [look_ij, lookX_nil (h.grow g1).j]; rfl, cond_pos rfl ⟨H4, e4, _, _, cell_of b4 rfl, cell_of b4 rfl, _, _, rfl, g4⟩⟩
theorem look1_ok {e : Int} : FW Ee F_sess_Table_Look_1 [.int .i64 e] H fun r H' => r = .tuple ⟨[.string ⟨⟨[]⟩⟩, .bool false, .int .i64 e]⟩ ∧ H = H' := by
  refine fw_sess_Table_Look_1 ?_
  exact ⟨rfl, rfl⟩
theorem lookn_ok {se sq : Int} (ok : Ok H) (h : FM H n0) :
    FW Ee F_sess_Table_Look [.pointer (some ⟨n0 + 1, 0, none⟩), .int .i64 se, .int .i64 sq] H fun r H' => ∃ e, r = .tuple ⟨[.string ⟨⟨[]⟩⟩, .bool false, .int .i64 e]⟩ ∧ Grow H H' := by
  refine fw_sess_Table_Look ?_
  intro H1 e1
  obtain ⟨g1, p1, n1⟩ := new_job ok e1
  have h1 := h.grow g1
  refine ⟨_, cell_of p1 rfl, cond_neg rfl (cond_dec (fun _ => ⟨_, rfl, g1⟩) (fun hge => ⟨_, cell_of p1 rfl, grd_intro rfl (grd_intro rfl ⟨_, cell_of h1.s rfl, 0, [], by rw [look_is, lookX_nil h1.t]; rfl, ?_⟩)⟩))⟩
  intro H2 e2
  obtain ⟨H3, e3, b3, g3, n3⟩ := fresh_store (vs := [.int .i64 0, .string ⟨⟨[]⟩⟩]) e2 rfl rfl g1.ok
  have p3 := g3.get _ _ not_false p1
  have h3 := h1.grow g3
  refine ⟨H3, e3, _, cell_of b3 rfl, cond_neg (by simp; omega) ⟨_, cell_of b3 rfl, cond_neg (by simp; omega) ⟨_, cell_of b3 rfl, ?_⟩⟩⟩
  intro t46 e46
  refine cond_dec (fun _ => ?_) (fun _ => ?_)
  · refine look1_ok.mono ?_
    rintro _ _ ⟨rfl, rfl⟩
    exact ⟨_, _, _, rfl, _, rfl, g1.trans g3⟩
  · refine FW.mono (Q := fun r H' => r = .bool false ∧ H3 = H') ?_ ?_
    · refine fw_sess_Table_Look_2 ?_
      exact ⟨_, cell_of b3 rfl, cond_pos rfl ⟨_, cell_of p3 rfl, grd_intro rfl (grd_intro rfl ⟨_, cell_of h3.s rfl, .inr ⟨_, _, _, rfl, h3.t, rfl, rfl⟩⟩)⟩⟩
    rintro _ _ ⟨rfl, rfl⟩
    refine ⟨_, rfl, cond_neg rfl (look1_ok.mono ?_)⟩
    rintro _ _ ⟨rfl, rfl⟩
    exact ⟨_, _, _, rfl, _, rfl, g1.trans g3⟩
/-- a session's request, of a new master -/
theorem don_ok {se sq : Int} {cb pb : Nat} {kd : Int} {s : List UInt8} {w : Int} (hs : s.length ≤ 4611686018427387904) (hL : n0 + 4 < L) (hn : L ≤ H.next) (ok : Ok H) (h : FM H n0)
    (hp : H.cell pb 0 = some (.pointer (some ⟨n0 + 4, 0, none⟩))) (hc0 : H.cell cb 0 = some (.int .i64 kd)) (hc3 : H.cell cb 3 = some (.string ⟨⟨s⟩⟩)) (hc4 : H.cell cb 4 = some (.int .i64 w)) :
    FW Ee F_sess_Table_Do [.pointer (some ⟨n0 + 1, 0, none⟩), .int .i64 se, .int .i64 sq, .func (.func F_master_Master_Apply_1) ⟨[]⟩ ⟨[.pointer (some ⟨cb, 0, none⟩), .pointer (some ⟨pb, 0, none⟩)]⟩] H fun r H' =>
      ∃ t b e, r = .tuple ⟨[.string ⟨⟨t⟩⟩, .bool b, .int .i64 e]⟩ ∧ t.length ≤ 20 ∧ NRun H' n0 L ∧ Mod (fun x => x = n0 ∨ SM n0 x) H H' := by
  refine fw_sess_Table_Do ?_
  refine (lookn_ok ok h).mono ?_
  rintro _ H1 ⟨e, rfl, g1⟩
  have h1 := h.grow g1
  have n1 := g1.next
  refine ⟨_, _, _, rfl, cond_intro (fun _ => ⟨_, _, _, rfl, by simp, h1.nr L, g1.le (fun _ hf _ => hf.elim) ok⟩) (fun _ => cond_neg rfl ?_)⟩
  have up : ∀ {b o : Nat} {v : Value}, H.cell b o = some v → H1.cell b o = some v := fun {b o v} k => loc_cell (F := (· = b)) (fun _ _ _ e => g1.get _ _ not_false e) rfl k
  refine FW.mono (Q := fun r H' => ∃ t, r = .string ⟨⟨t⟩⟩ ∧ t.length ≤ 20 ∧ NRun H' n0 L ∧ Mod (SM n0) H1 H') ?_ ?_
  · refine fw_master_Master_Apply_1 ?_
    refine ⟨_, up hc0, cond_intro (fun _ => ?_) (fun _ => ?_)⟩
    · refine ⟨_, up hp, _, up hc3, (submitn_ok (L := L) hs hL (by omega) g1.ok h1).mono ?_⟩
      rintro _ H2 ⟨x, y, rfl, k2, m2⟩
      refine ⟨_, _, rfl, (replyText_ok m2.ok).mono ?_⟩
      rintro _ H3 ⟨t, rfl, ht, g3⟩
      exact ⟨_, rfl, _, rfl, ht, k2.grow g3, m2.add g3⟩
    · refine ⟨_, up hp, _, up hc4, (canceln_ok g1.ok h1).mono ?_⟩
      rintro _ H2 ⟨x, y, rfl, g2⟩
      refine ⟨_, _, rfl, (replyText_ok g2.ok).mono ?_⟩
      rintro _ H3 ⟨t, rfl, ht, g3⟩
      exact ⟨_, rfl, _, rfl, ht, (h1.nr L).grow (g2.trans g3), (g2.trans g3).le (fun _ hf _ => hf.elim) g1.ok⟩
  rintro _ H2 ⟨t, rfl, ht, k2, m2⟩
  have s2 := m2.get _ _ (show ¬ SM n0 (n0 + 1) by unfold SM; omega) h1.s
  have t2 := m2.get _ _ (show ¬ SM n0 n0 by unfold SM; omega) h1.t
  have d3 := Mod.set m2.ok t2 (.map [{ key := .int .i64 se, val := .agg ⟨[.int .i64 sq, .string ⟨⟨t⟩⟩]⟩, born := 0 }] (0 + 1))
  refine ⟨_, rfl, _, cell_of s2 rfl, _, by rw [upd_is, updX_nil t2], _, _, _, rfl, ht, k2.mod d3 (by omega) (by omega) (fun x hx => by omega), ?_⟩
  have m1 : Mod (fun x => x = n0 ∨ SM n0 x) H H1 := g1.le (fun _ hf _ => hf.elim) ok
  exact (m1.ext m2 ok fun x hx => .inl (.inr hx)).ext d3 ok fun x hx => .inl (.inl hx)
theorem applyn_ok {kd se sq jd wk li : Int} {s : List UInt8} {f : Nat → Int} {hh : Nat → Bool} {v : Nat → Int} {a : Option Addr} {l c : Nat} (hs : s.length ≤ 4611686018427387904) (ok : Ok H) (h : FM H n0) (hn : n0 + 4 < H.next) :
    FW Ee F_master_Master_Apply [.pointer (some ⟨n0 + 4, 0, none⟩), .agg ⟨cmdV kd se sq s jd wk li f hh v a l c⟩] H fun r H' => ∃ x y e, r = .tuple ⟨[.agg ⟨[.int .i64 x, .int .i64 y]⟩, .int .i64 e]⟩ ∧ (kd < 1 ∨ 5 < kd → e = 172) ∧ (∃ L, NRun H' n0 L) ∧ Mod (n0 ≤ ·) H H' := by
  refine fw_master_Master_Apply ?_
  intro H1 e1 H2 e2 H3 e3
  obtain ⟨g1, p1, n1⟩ := new_job ok e1
  obtain ⟨g2, c2, n2⟩ := new_job g1.ok e2
  obtain ⟨g3, r3, n3⟩ := new_job g2.ok e3
  have p3 := (g2.trans g3).get _ _ not_false p1
  have c3 := g3.get _ _ not_false c2
  have g03 := (g1.trans g2).trans g3
  have h3 := h.grow g03
  have fin : ∀ {Hx : AH} (e x y : Int), (kd < 1 ∨ 5 < kd → e = 172) → NRun Hx n0 H3.next → Mod (n0 ≤ ·) H Hx → Hx.get H2.next = some (.cells [.int .i64 0, .int .i64 0] 0) → ∃ Hy, storeCellsv Hx H2.next 0 [.int .i64 x, .int .i64 y] = some Hy ∧ ∃ (r1 r2 : Int), Hy.cell H2.next (0 + 0) = some (.int .i64 r1) ∧ Hy.cell H2.next (0 + 1) = some (.int .i64 r2) ∧
      ∃ x y e', Value.tuple ⟨[.agg ⟨[.int .i64 r1, .int .i64 r2]⟩, .int .i64 e]⟩ = .tuple ⟨[.agg ⟨[.int .i64 x, .int .i64 y]⟩, .int .i64 e']⟩ ∧ (kd < 1 ∨ 5 < kd → e' = 172) ∧ (∃ L, NRun Hy n0 L) ∧ Mod (n0 ≤ ·) H Hy := by
    intro Hx e x y he hN hM hp
    have dy := Mod.set hM.ok hp (.cells (lset [.int .i64 0, .int .i64 0] 0 [.int .i64 x, .int .i64 y]) 0)
    have by' := get_set_self Hx H2.next (.cells (lset [.int .i64 0, .int .i64 0] 0 [.int .i64 x, .int .i64 y]) 0)
    exact ⟨_, store_of (o := 0) hp (by simp) rfl, _, _, cell_of by' rfl, cell_of by' rfl, _, _, _, rfl, he, ⟨_, hN.mod dy (by omega) (by omega) fun x hx => by omega⟩, hM.ext dy ok fun b hb => .inr (by omega)⟩
  have M3 : Mod (n0 ≤ ·) H H3 := g03.le (fun _ hf _ => hf.elim) ok
  -- a session's
  have ses : ∀ {Q : Value → AH → Prop}, (kd = 1 ∨ kd = 2) → (∀ t b e H5, t.length ≤ 20 → NRun H5 n0 H3.next → Mod (n0 ≤ ·) H H5 → H5.get H2.next = some (.cells [.int .i64 0, .int .i64 0] 0) → Q (.tuple ⟨[.string ⟨⟨t⟩⟩, .bool b, .int .i64 e]⟩) H5) →
      FW Ee F_sess_Table_Do [.pointer (some ⟨n0 + 1, 0, none⟩), .int .i64 se, .int .i64 sq, .func (.func F_master_Master_Apply_1) ⟨[]⟩ ⟨[.pointer (some ⟨H1.next, 0, none⟩), .pointer (some ⟨H.next, 0, none⟩)]⟩] H3 Q := by
    intro Q _ hQ
    refine (don_ok (L := H3.next) (s := s) (w := jd) (kd := kd) hs (by omega) (Nat.le_refl _) g03.ok h3 (cell_of p3 rfl) (cell_of c3 rfl) (cell_of c3 rfl) (cell_of c3 rfl)).mono ?_
    rintro _ H5 ⟨t, b, e, rfl, ht, k5, m5⟩
    exact hQ t b e H5 ht k5 (M3.ext m5 ok fun x hx => .inl (by rcases hx with h | h | h <;> omega)) (m5.get _ _ (by rintro (h | h | h) <;> omega) r3)
  refine ⟨_, cell_of p3 rfl, cond_neg rfl ⟨_, cell_of c3 rfl, cond_intro (fun hk => ?_) (fun hk1 => cond_intro (fun hk => ?_) (fun hk2 => cond_intro (fun hk => ?_) (fun hk3 => cond_intro (fun hk => ?_) (fun hk4 => cond_intro (fun hk => ?_) (fun hk5 => ?_)))))⟩⟩
  · have hk : kd = 1 := by simpa using hk
    refine ⟨_, cell_of p3 rfl, grd_intro rfl (grd_intro rfl ⟨_, cell_of h3.m rfl, _, cell_of c3 rfl, _, cell_of c3 rfl, ses (.inl hk) ?_⟩)⟩
    intro t b e H5 ht k5 M5 r5
    refine ⟨_, _, _, rfl, cond_intro (fun _ => fin _ _ _ (by omega) k5 M5 r5) (fun _ => (replyOf_ok (by omega) M5.ok).mono ?_)⟩
    rintro _ H7 ⟨x, y, rfl, g7⟩
    exact ⟨_, _, rfl, fin _ _ _ (by omega) (k5.grow g7) (M5.add g7) (g7.get _ _ not_false r5)⟩
  · have hk : kd = 2 := by simpa using hk
    refine ⟨_, cell_of p3 rfl, grd_intro rfl (grd_intro rfl ⟨_, cell_of h3.m rfl, _, cell_of c3 rfl, _, cell_of c3 rfl, ses (.inr hk) ?_⟩)⟩
    intro t b e H5 ht k5 M5 r5
    refine ⟨_, _, _, rfl, cond_intro (fun _ => fin _ _ _ (by omega) k5 M5 r5) (fun _ => (replyOf_ok (by omega) M5.ok).mono ?_)⟩
    rintro _ H7 ⟨x, y, rfl, g7⟩
    exact ⟨_, _, rfl, fin _ _ _ (by omega) (k5.grow g7) (M5.add g7) (g7.get _ _ not_false r5)⟩
  · have hk : kd = 3 := by simpa using hk
    refine ⟨_, cell_of p3 rfl, _, cell_of c3 rfl, _, cell_of c3 rfl, (joinn_ok (L := H3.next) (by omega) g03.ok h3).mono ?_⟩
    rintro _ H5 ⟨rfl, k5, m5⟩
    exact ⟨rfl, fin _ _ _ (by omega) k5 (M3.ext m5 ok fun x hx => .inl (by omega)) (m5.get _ _ (by omega) r3)⟩
  · have hk : kd = 4 := by simpa using hk
    refine ⟨_, cell_of p3 rfl, grd_intro rfl (grd_intro rfl ⟨_, cell_of h3.m rfl, _, cell_of c3 rfl, _, _, by rw [look_ii, lookX_nil h3.w]; rfl, cond_neg rfl ?_⟩)⟩
    exact fin _ _ _ (by omega) (h3.nr _) M3 r3
  · have hk : kd = 5 := by simpa using hk
    refine ⟨_, cell_of p3 rfl, _, _, _, _, _, _, _, _, _, _, _, _, _, _, _, _, _, _, _, _, _, _, cell_of c3 rfl, cell_of c3 rfl, cell_of c3 rfl, cell_of c3 rfl, cell_of c3 rfl, cell_of c3 rfl, cell_of c3 rfl, cell_of c3 rfl, cell_of c3 rfl, cell_of c3 rfl, cell_of c3 rfl, cell_of c3 rfl, cell_of c3 rfl, cell_of c3 rfl, cell_of c3 rfl, cell_of c3 rfl, cell_of c3 rfl, cell_of c3 rfl, cell_of c3 rfl, cell_of c3 rfl,
      (reportn_ok (L := H3.next) (f := f) (h := hh) (v := v) (a := a) (l := l) (c := c) g03.ok (h3.nr _)).mono ?_⟩
    rintro _ H5 ⟨rfl, g5⟩
    exact ⟨rfl, fin _ _ _ (by omega) ((h3.nr _).grow g5) (M3.add g5) (g5.get _ _ not_false r3)⟩
  · exact fin _ _ _ (fun _ => rfl) (h3.nr _) M3 r3
end
end Go.Proofs.Cx

namespace Go.Proofs.Cx
open Go Go.Ev Go.RowKit
section
variable {H : AH} {n0 L : Nat}
theorem lifenil_ok {w : Int} : FW Ee F_master_Master_Life [.pointer none, .int .i64 w] H fun r H' => r = .tuple ⟨[.int .i64 0, .bool false]⟩ ∧ H = H' := fw_nil_master_Master_Life ⟨rfl, rfl⟩
theorem jobsnil_ok : FW Ee F_master_Master_Jobs [.pointer none] H fun r H' => r = .slice none 0 0 ∧ H = H' := fw_nil_master_Master_Jobs ⟨rfl, rfl⟩
theorem workersnil_ok : FW Ee F_master_Master_Workers [.pointer none] H fun r H' => r = .slice none 0 0 ∧ H = H' := fw_nil_master_Master_Workers ⟨rfl, rfl⟩
theorem epochnil_ok : FW Ee F_master_Master_Epoch [.pointer none] H fun r H' => r = .int .i64 0 ∧ H = H' := fw_nil_master_Master_Epoch ⟨rfl, rfl⟩
theorem encodenil_ok : FW Ee F_master_Master_Encode [.pointer none] H fun r H' => r = .string ⟨⟨[]⟩⟩ ∧ H = H' := fw_nil_master_Master_Encode ⟨rfl, rfl⟩
theorem law_nil {kd se sq jd wk li i : Int} {s : List UInt8} {f : Nat → Int} {hh : Nat → Bool} {v : Nat → Int} {a : Option Addr} {l c : Nat} (hs : s.length ≤ 4611686018427387904) (ok : Ok H) :
    FW Ee F_cohortlaw17_MasterNil [.agg ⟨cmdV kd se sq s jd wk li f hh v a l c⟩, .int .i64 i] H fun r H' => r = .bool true ∧ Grow H H' := by
  refine fw_cohortlaw17_MasterNil ?_
  intro H1 e1
  obtain ⟨g1, c1, n1⟩ := new_job ok e1
  refine ⟨_, _, _, _, _, _, _, _, _, _, _, _, _, _, _, _, _, _, _, _, _, _, _, _, _, _, _, _, _, cell_of c1 rfl, cell_of c1 rfl, cell_of c1 rfl, cell_of c1 rfl, cell_of c1 rfl, cell_of c1 rfl, cell_of c1 rfl, cell_of c1 rfl, cell_of c1 rfl, cell_of c1 rfl, cell_of c1 rfl, cell_of c1 rfl, cell_of c1 rfl, cell_of c1 rfl, cell_of c1 rfl, cell_of c1 rfl, cell_of c1 rfl, cell_of c1 rfl, cell_of c1 rfl, cell_of c1 rfl, cell_of c1 rfl, cell_of c1 rfl, cell_of c1 rfl, cell_of c1 rfl, cell_of c1 rfl, cell_of c1 rfl, cell_of c1 rfl, (applynil_ok (s := s) (f := f) (h := hh) (v := v) (a := a) (l := l) (c := c) g1.ok).mono ?_⟩
  rintro _ H2 ⟨rfl, g2⟩
  refine ⟨_, _, _, rfl, ?_⟩
  intro H3 e3
  obtain ⟨H4, e4, b4, g4, n4⟩ := fresh_store (vs := [.int .i64 0, .int .i64 0]) e3 rfl rfl g2.ok
  have c4 := (g2.trans g4).get _ _ not_false c1
  refine ⟨H4, e4, _, cell_of c4 rfl, _, cell_of c4 rfl, (looknil_ok g4.ok).mono ?_⟩
  rintro _ H5 ⟨rfl, g5⟩
  refine ⟨_, _, _, _, rfl, ?_⟩
  intro H6 e6
  obtain ⟨H7, e7, b7, g7, n7⟩ := fresh_store (vs := [.int .i64 0, .int .i64 0]) e6 rfl rfl g5.ok
  refine ⟨H7, e7, (tasknil_ok g7.ok).mono ?_⟩
  rintro _ H8 ⟨rfl, g8⟩
  refine ⟨_, _, _, _, _, _, _, _, _, _, _, _, _, _, _, _, _, _, _, _, _, _, _, _, _, _, _, _, _, _, _, _, _, _, _, rfl, ?_⟩
  intro H9 e9
  obtain ⟨H10, e10, b10, g10, n10⟩ := fresh_store (vs := zTask) e9 rfl rfl g8.ok
  refine ⟨H10, e10, (statusnil_ok g10.ok).mono ?_⟩
  rintro _ H11 ⟨rfl, g11⟩
  refine ⟨_, _, _, _, _, _, _, _, _, _, _, rfl, ?_⟩
  intro H12 e12
  obtain ⟨H13, e13, b13, g13, n13⟩ := fresh_store (vs := zStat) e12 rfl rfl g11.ok
  refine ⟨H13, e13, (specnil_ok g13.ok).mono ?_⟩
  rintro _ H14 ⟨rfl, g14⟩
  refine ⟨_, _, _, _, _, _, _, _, _, _, _, rfl, ?_⟩
  intro H15 e15
  obtain ⟨H16, e16, b16, g16, n16⟩ := fresh_store (vs := zJob) e15 rfl rfl g14.ok
  refine ⟨H16, e16, lifenil_ok.mono ?_⟩
  rintro _ _ ⟨rfl, rfl⟩
  refine ⟨_, _, rfl, awake17_ok.mono ?_⟩
  rintro _ _ ⟨rfl, rfl⟩
  have g416 := (((((g5.trans g7).trans g8).trans g10).trans g11).trans g13).trans (g14.trans g16)
  have c16 := g416.get _ _ not_false c4
  refine ⟨_, rfl, cond_neg rfl (cond_neg rfl (cond_neg rfl (cond_neg rfl (cond_neg rfl (cond_neg rfl (cond_neg rfl (cond_neg rfl ?_)))))))⟩
  refine ⟨_, _, _, _, _, _, _, _, _, _, _, _, _, _, _, _, _, _, _, _, _, _, cell_of c16 rfl, cell_of c16 rfl, cell_of c16 rfl, cell_of c16 rfl, cell_of c16 rfl, cell_of c16 rfl, cell_of c16 rfl, cell_of c16 rfl, cell_of c16 rfl, cell_of c16 rfl, cell_of c16 rfl, cell_of c16 rfl, cell_of c16 rfl, cell_of c16 rfl, cell_of c16 rfl, cell_of c16 rfl, cell_of c16 rfl, cell_of c16 rfl, cell_of c16 rfl, cell_of c16 rfl, (wantsnil_ok (f := f) (h := hh) (v := v) (a := a) (l := l) (c := c) g16.ok).mono ?_⟩
  rintro _ H19 ⟨rfl, g19⟩
  refine ⟨_, rfl, cond_neg rfl (jobsnil_ok.mono ?_)⟩
  rintro _ _ ⟨rfl, rfl⟩
  refine ⟨_, _, _, rfl, cond_neg rfl (workersnil_ok.mono ?_)⟩
  rintro _ _ ⟨rfl, rfl⟩
  refine ⟨_, _, _, rfl, cond_neg rfl (opennil_ok.mono ?_)⟩
  rintro _ _ ⟨rfl, rfl⟩
  refine ⟨_, rfl, cond_neg rfl (epochnil_ok.mono ?_)⟩
  rintro _ _ ⟨rfl, rfl⟩
  refine ⟨_, rfl, cond_neg rfl (encodenil_ok.mono ?_)⟩
  rintro _ _ ⟨rfl, rfl⟩
  refine ⟨_, rfl, cond_neg rfl ((newfm_ok g19.ok).mono ?_)⟩
  rintro _ H25 ⟨rfl, f25, n25, g25⟩
  refine ⟨_, rfl, (statusn_ok g25.ok f25).mono ?_⟩
  rintro _ H26 ⟨rfl, g26⟩
  refine ⟨_, _, _, _, _, _, _, _, _, _, _, rfl, ?_⟩
  intro H27 e27
  obtain ⟨H28, e28, b28, g28, n28⟩ := fresh_store (vs := zStat) e27 rfl rfl g26.ok
  have n26 := g26.next
  have n19 : H.next < H19.next := by
    have a2 := g2.next
    have a4 := g4.next
    have a16 := g416.next
    have a19 := g19.next
    omega
  have f28 := (f25.grow g26).grow g28
  have c28 := (((g19.trans g25).trans g26).trans g28).get _ _ not_false c16
  have g028 : Grow H H28 := ((((g1.trans g2).trans g4).trans g416).trans (g19.trans g25)).trans (g26.trans g28)
  have hn28 : H19.next + 4 < H28.next := by have := g28.next; omega
  have ap := applyn_ok (kd := kd) (se := se) (sq := sq) (jd := jd) (wk := wk) (li := li) (s := s) (f := f) (hh := hh) (v := v) (a := a) (l := l) (c := c) hs g28.ok f28 hn28
  refine ⟨H28, e28, _, cell_of c28 rfl, cond_dec (fun hlt => ?_) (fun hge => ⟨_, cell_of c28 rfl, cond_dec (fun hgt => ?_) (fun hle => ?_)⟩)⟩
  · refine ⟨_, _, _, _, _, _, _, _, _, _, _, _, _, _, _, _, _, _, _, _, _, _, _, _, _, _, _, _, _, cell_of c28 rfl, cell_of c28 rfl, cell_of c28 rfl, cell_of c28 rfl, cell_of c28 rfl, cell_of c28 rfl, cell_of c28 rfl, cell_of c28 rfl, cell_of c28 rfl, cell_of c28 rfl, cell_of c28 rfl, cell_of c28 rfl, cell_of c28 rfl, cell_of c28 rfl, cell_of c28 rfl, cell_of c28 rfl, cell_of c28 rfl, cell_of c28 rfl, cell_of c28 rfl, cell_of c28 rfl, cell_of c28 rfl, cell_of c28 rfl, cell_of c28 rfl, cell_of c28 rfl, cell_of c28 rfl, cell_of c28 rfl, cell_of c28 rfl, ap.mono ?_⟩
    rintro _ H29 ⟨x, y, e, rfl, he, _, m29⟩
    have he := he (.inl hlt)
    subst he
    refine ⟨_, _, _, rfl, ?_⟩
    intro H30 e30
    obtain ⟨H31, e31, b31, g31, n31⟩ := fresh_store (vs := [.int .i64 x, .int .i64 y]) e30 rfl rfl m29.ok
    exact ⟨H31, e31, cond_pos rfl ⟨rfl, (g028.ext m29 ok fun x hx => .inr (by omega)).trans g31⟩⟩
  · refine ⟨_, _, _, _, _, _, _, _, _, _, _, _, _, _, _, _, _, _, _, _, _, _, _, _, _, _, _, _, _, cell_of c28 rfl, cell_of c28 rfl, cell_of c28 rfl, cell_of c28 rfl, cell_of c28 rfl, cell_of c28 rfl, cell_of c28 rfl, cell_of c28 rfl, cell_of c28 rfl, cell_of c28 rfl, cell_of c28 rfl, cell_of c28 rfl, cell_of c28 rfl, cell_of c28 rfl, cell_of c28 rfl, cell_of c28 rfl, cell_of c28 rfl, cell_of c28 rfl, cell_of c28 rfl, cell_of c28 rfl, cell_of c28 rfl, cell_of c28 rfl, cell_of c28 rfl, cell_of c28 rfl, cell_of c28 rfl, cell_of c28 rfl, cell_of c28 rfl, ap.mono ?_⟩
    rintro _ H29 ⟨x, y, e, rfl, he, _, m29⟩
    have he := he (.inr (by omega))
    subst he
    refine ⟨_, _, _, rfl, ?_⟩
    intro H30 e30
    obtain ⟨H31, e31, b31, g31, n31⟩ := fresh_store (vs := [.int .i64 x, .int .i64 y]) e30 rfl rfl m29.ok
    exact ⟨H31, e31, cond_pos rfl ⟨rfl, (g028.ext m29 ok fun x hx => .inr (by omega)).trans g31⟩⟩
  · refine ⟨_, _, _, _, _, _, _, _, _, _, _, _, _, _, _, _, _, _, _, _, _, _, _, _, _, _, _, _, _, cell_of c28 rfl, cell_of c28 rfl, cell_of c28 rfl, cell_of c28 rfl, cell_of c28 rfl, cell_of c28 rfl, cell_of c28 rfl, cell_of c28 rfl, cell_of c28 rfl, cell_of c28 rfl, cell_of c28 rfl, cell_of c28 rfl, cell_of c28 rfl, cell_of c28 rfl, cell_of c28 rfl, cell_of c28 rfl, cell_of c28 rfl, cell_of c28 rfl, cell_of c28 rfl, cell_of c28 rfl, cell_of c28 rfl, cell_of c28 rfl, cell_of c28 rfl, cell_of c28 rfl, cell_of c28 rfl, cell_of c28 rfl, cell_of c28 rfl, ap.mono ?_⟩
    rintro _ H29 ⟨x, y, e, rfl, he, ⟨L, hN⟩, m29⟩
    have c29 := m29.get _ _ (by omega) c28
    refine ⟨_, _, _, rfl, cond_pos rfl ⟨_, _, _, _, _, _, _, _, _, _, _, _, _, _, _, _, _, _, _, _, _, _, cell_of c29 rfl, cell_of c29 rfl, cell_of c29 rfl, cell_of c29 rfl, cell_of c29 rfl, cell_of c29 rfl, cell_of c29 rfl, cell_of c29 rfl, cell_of c29 rfl, cell_of c29 rfl, cell_of c29 rfl, cell_of c29 rfl, cell_of c29 rfl, cell_of c29 rfl, cell_of c29 rfl, cell_of c29 rfl, cell_of c29 rfl, cell_of c29 rfl, cell_of c29 rfl, cell_of c29 rfl, (wantsn_ok (f := f) (h := hh) (v := v) (a := a) (l := l) (c := c) m29.ok hN).mono ?_⟩⟩
    rintro _ H31 ⟨rfl, g31⟩
    exact ⟨_, rfl, rfl, (g028.ext m29 ok fun x hx => .inr (by omega)).trans g31⟩
end
abbrev RCm : AH → List Value → Int × Int × Int × List UInt8 × Int × Int × Int × (Int × Int × Int × Int × Int × Int × Int × Int × Int × ((Bool × Bool × Bool × Bool × Bool × Unit) × (Int × Int × Int × Int × Int × Unit) × Unit) × List (Int × Int × Unit) × Unit) × Unit → Prop :=
  RCons RI (RCons RI (RCons RI (RCons RStr (RCons RI (RCons RI (RCons RI (RCons RRep RNil)))))))
theorem stable_rcm : Stable RCm := stable_cons stable_ri (stable_cons stable_ri (stable_cons stable_ri (stable_cons stable_str (stable_cons stable_ri (stable_cons stable_ri (stable_cons stable_ri (stable_cons stable_rrep stable_nil)))))))
section
variable {Hh : Type} {enc : TypeId × Value → Hh} {W : World} [Sy]
theorem lay_cmd : LayT enc Tryz.prog W T_api_Command RCm :=
  lay_struct (ds := [(T_int, 0), (T_int64, 1), (T_int, 2), (T_string, 3), (T_int, 4), (T_int, 5), (T_int, 6), (T_api_Report, 7)]) (by kernel_rfl) (total := 27) (by kernel_rfl)
    (lay_fcons (off := 0) (n := 1) rfl (by kernel_rfl) (lay_int (by kernel_rfl)) stable_ri
    (lay_fcons (off := 1) (n := 1) rfl (by kernel_rfl) (lay_int (by kernel_rfl)) stable_ri
    (lay_fcons (off := 2) (n := 1) rfl (by kernel_rfl) (lay_int (by kernel_rfl)) stable_ri
    (lay_fcons (off := 3) (n := 1) rfl (by kernel_rfl) (lay_str (by kernel_rfl)) stable_str
    (lay_fcons (off := 4) (n := 1) rfl (by kernel_rfl) (lay_int (by kernel_rfl)) stable_ri
    (lay_fcons (off := 5) (n := 1) rfl (by kernel_rfl) (lay_int (by kernel_rfl)) stable_ri
    (lay_fcons (off := 6) (n := 1) rfl (by kernel_rfl) (lay_int (by kernel_rfl)) stable_ri
    (lay_fcons (off := 7) (n := 20) rfl (by kernel_rfl) lay_report stable_rrep lay_fnil))))))))
end
theorem cmd_in {H : AH} (ok : Ok H) {cs : List Value} {x} (h : RCm H cs x) : ∃ kd se sq s jd wk li f hh v a l c vs, cs = cmdV kd se sq s jd wk li f hh v a l c ∧ I64 kd ∧ I64 se ∧ I64 sq ∧ s.length ≤ 140737488351232 ∧ I64 jd ∧ I64 wk ∧ I64 li ∧ (∀ i, I64 (v i)) ∧ SlE (fun b => b < H.next) H a l vs ∧ (∀ e ∈ vs, PairI e) ∧ Room l c ∧ (∀ i, I64 (f i)) ∧ vs.length * 16 ≤ 140737488351232 := by
  obtain ⟨d1, e1, rfl, ⟨rfl, w1⟩, d2, e2, rfl, ⟨rfl, w2⟩, d3, e3, rfl, ⟨rfl, w3⟩, d4, e4, rfl, ⟨rfl, w4⟩, d5, e5, rfl, ⟨rfl, w5⟩, d6, e6, rfl, ⟨rfl, w6⟩, d7, e7, rfl, ⟨rfl, w7⟩, d8, e8, rfl, h8, rfl⟩ := h
  obtain ⟨f, ha, v, a, l, c, us, rfl, k1, k2, k3, k4, k5, k6⟩ := rep_in ok h8
  exact ⟨_, _, _, _, _, _, _, f, ha, v, a, l, c, us, by rw [List.append_nil]; rfl, i64_wf w1, i64_wf w2, i64_wf w3, w4, i64_wf w5, i64_wf w6, i64_wf w7, k1, k2, k3, k4, k5, k6⟩
theorem law_nil_in {H : AH} {vs : List Value} {c1 c2 : List Value} {x y} (ok : Ok H) (hv : vs = [.agg ⟨c1⟩] ++ c2) (h1 : RCm H c1 x) (h2 : RI H c2 y) :
    FW Ee F_cohortlaw17_MasterNil vs H fun r H' => r = .bool true ∧ Grow H H' := by
  subst hv
  obtain ⟨kd, se, sq, s, jd, wk, li, f, hh, v, a, l, c, us, rfl, _, _, _, k, _⟩ := cmd_in ok h1
  obtain ⟨rfl, _⟩ := h2
  exact law_nil (by omega) ok
end Go.Proofs.Cx
