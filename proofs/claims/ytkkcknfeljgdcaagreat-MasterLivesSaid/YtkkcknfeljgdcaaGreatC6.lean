/- Maps whose keys are whole numbers. A master without jobs: who joins, who is lost. MasterLives: the law, as formulas have it. MasterLives: what comes in. -/
import Derived.Test.YtkkcknfeljgdcaaGreatB3
import Derived.Test.YtkkcknfeljgdcaaGreatC3
import Derived.Test.YtkkcknfeljgdcaaGreatVc2
import Derived.Test.YtkkcknfeljgdcaaGreatC5
namespace Go.Ev
open Go

/-- a map with these keys, each with its value -/
def MapV (H : AH) (r : Nat) (zs : List Int) (val : Int → Value) : Prop := ∃ es clock, H.get r = some (.map es clock) ∧ Ents es clock zs ∧ ∀ e ∈ es, ∀ x, e.key = iv x → e.val = val x
theorem MapV.mod {S : Nat → Prop} {H H' : AH} {r : Nat} {zs : List Int} {val : Int → Value} (h : MapV H r zs val) (hm : Mod S H H') (hs : ¬ S r) : MapV H' r zs val := by
  obtain ⟨es, clock, h1, h2⟩ := h
  exact ⟨es, clock, hm.get _ _ hs h1, h2⟩
theorem MapV.empty {H : AH} {r c : Nat} {val : Int → Value} (h : H.get r = some (.map [] c)) : MapV H r [] val :=
  ⟨[], c, h, ⟨rfl, fun _ h => (by cases h), List.nodup_nil, List.nodup_nil, fun _ h => (by cases h), by simp⟩, fun _ h => (by cases h)⟩
theorem MapV.nodup {H : AH} {r : Nat} {zs : List Int} {val : Int → Value} (h : MapV H r zs val) : zs.Nodup := by obtain ⟨_, _, _, h, _⟩ := h; exact h.nodup
theorem MapV.wf {H : AH} {r : Nat} {zs : List Int} {val : Int → Value} (h : MapV H r zs val) : ∀ x ∈ zs, I64 x := by obtain ⟨_, _, _, h, _⟩ := h; exact h.wf
theorem MapV.congr {H : AH} {r : Nat} {zs : List Int} {val val' : Int → Value} (h : MapV H r zs val) (k : ∀ x ∈ zs, val x = val' x) : MapV H r zs val' := by
  obtain ⟨es, clock, h1, h2, h3⟩ := h
  refine ⟨es, clock, h1, h2, fun e he x hx => ?_⟩
  rw [h3 e he x hx]
  refine k x ?_
  have := List.mem_map_of_mem (f := (·.key)) he
  rw [mkeys_at h2.keys, hx] at this
  obtain ⟨y, hy, e2⟩ := List.mem_map.1 this
  have : y = x := by simpa [iv] using e2
  rw [← this]; exact hy
theorem MapV.lt {H : AH} {r : Nat} {zs : List Int} {val : Int → Value} (ok : Ok H) (h : MapV H r zs val) : r < H.next := by obtain ⟨_, _, h, _⟩ := h; exact ok.lt h

theorem map_eraseIdx' {α β : Type} (f : α → β) : ∀ (l : List α) (n : Nat), (l.eraseIdx n).map f = (l.map f).eraseIdx n
  | [], _ => by simp
  | _ :: _, 0 => rfl
  | a :: l, n + 1 => by simp [map_eraseIdx' f l n]
theorem nodup_at {α : Type} : ∀ {l : List α}, l.Nodup → ∀ {i j : Nat} (hi : i < l.length) (hj : j < l.length), l[i] = l[j] → i = j
  | [], _, _, _, hi, _, _ => by simp at hi
  | a :: l, h, 0, 0, _, _, _ => rfl
  | a :: l, h, 0, j + 1, _, hj, e => by
    simp only [List.getElem_cons_zero, List.getElem_cons_succ] at e
    exact ((List.nodup_cons.1 h).1 (e ▸ List.getElem_mem _)).elim
  | a :: l, h, i + 1, 0, hi, _, e => by
    simp only [List.getElem_cons_zero, List.getElem_cons_succ] at e
    exact ((List.nodup_cons.1 h).1 (e ▸ List.getElem_mem _)).elim
  | a :: l, h, i + 1, j + 1, hi, hj, e => by
    simp only [List.getElem_cons_succ] at e
    rw [nodup_at (List.nodup_cons.1 h).2 (by simpa using hi) (by simpa using hj) e]
def lookX (E : Env) (kt : TypeId) (H : AH) (m : Value) (c : Int) (z : Value) (ok : Bool) : Option Value :=
  match entriesOf H m with
  | none => none
  | some es => match findv E kt (.int .i64 c) es 0 with
    | some (some (_, v)) => some (bif ok then .tuple #[v, .bool true] else v)
    | some none => some (bif ok then .tuple #[z, .bool false] else z)
    | none => none
def updX (E : Env) (kt : TypeId) (H : AH) (r : Nat) (c : Int) (v : Value) : Option AH := match H.get r with
  | some (.map es clock) => match findv E kt (.int .i64 c) es 0 with
    | some (some (n, _)) => match es[n]? with
      | some e => bif samek e.key (.int .i64 c) then some (H.set r (.map (setEntry (.int .i64 c) v es n) clock)) else none
      | none => none
    | some none => some (H.set r (.map (es ++ [{ key := .int .i64 c, val := v, born := clock }]) (clock + 1)))
    | none => none
  | _ => none
def delX (E : Env) (kt : TypeId) (H : AH) (r : Nat) (c : Int) : Option (Value × AH) := match H.get r with
  | some (.map es clock) => match findv E kt (.int .i64 c) es 0 with
    | some (some (n, _)) => some (.tuple #[], H.set r (.map (es.eraseIdx n) clock))
    | some none => some (.tuple #[], H.set r (.map es clock))
    | none => none
  | _ => none
section
variable {E : Env} {kt : TypeId} (hE : ∀ a b : Int, eqv E eqDepth kt (.int .i64 a) (.int .i64 b) = some (a == b))
include hE
theorem fv_in {c : Int} : ∀ {es : List MapEntry} {ks : List Int} {i : Nat}, es.map (·.key) = ks.map iv → c ∈ ks → ∃ n, ∃ h : n < es.length, findv E kt (.int .i64 c) es i = some (some (i + n, es[n].val)) ∧ es[n].key = iv c
  | [], [], _, _, h => by simp at h
  | [], _ :: _, _, h, _ => by simp at h
  | _ :: _, [], _, h, _ => by simp at h
  | e :: es, x :: ks, i, h, hc => by
    simp only [List.map_cons, List.cons.injEq] at h
    unfold findv
    rw [h.1, show eqv E eqDepth kt (.int .i64 c) (iv x) = some (c == x) from hE c x]
    by_cases e1 : c = x
    · subst e1
      exact ⟨0, by simp, by rw [beq_self_eq_true]; simp, h.1⟩
    · rw [show (c == x) = false from by simpa using e1]
      obtain ⟨n, hn, h1, h2⟩ := fv_in (i := i + 1) h.2 (by simpa [e1] using hc)
      exact ⟨n + 1, by simpa using hn, by simp only [h1, List.getElem_cons_succ, show i + 1 + n = i + (n + 1) from by omega], by simpa using h2⟩
theorem fv_out {c : Int} : ∀ {es : List MapEntry} {ks : List Int} {i : Nat}, es.map (·.key) = ks.map iv → c ∉ ks → findv E kt (.int .i64 c) es i = some none
  | [], _, _, _, _ => rfl
  | _ :: _, [], _, h, _ => by simp at h
  | e :: es, x :: ks, i, h, hc => by
    simp only [List.map_cons, List.cons.injEq] at h
    unfold findv
    rw [h.1, show eqv E eqDepth kt (.int .i64 c) (iv x) = some (c == x) from hE c x]
    have e1 : c ≠ x := fun e => hc (e ▸ List.mem_cons_self)
    rw [show (c == x) = false from by simpa using e1]
    exact fv_out h.2 fun h2 => hc (List.mem_cons_of_mem _ h2)
theorem MapV.look {H : AH} {r : Nat} {zs : List Int} {val : Int → Value} (h : MapV H r zs val) (c : Int) (z : Value) (ok : Bool) :
    lookX E kt H (.map (some r)) c z ok = some (bif ok then .tuple #[if c ∈ zs then val c else z, .bool (decide (c ∈ zs))] else if c ∈ zs then val c else z) := by
  obtain ⟨es, clock, h1, h2, h3⟩ := h
  have hk := mkeys_at h2.keys
  unfold lookX
  simp only [entriesOf, h1]
  by_cases hc : c ∈ zs
  · obtain ⟨n, hn, h4, h5⟩ := fv_in hE (i := 0) hk hc
    rw [h4]
    simp only [h3 _ (List.getElem_mem hn) c h5, hc, if_true, decide_true]
  · rw [fv_out hE hk hc]
    simp only [hc, if_false, decide_false]
theorem MapV.put {H : AH} {r : Nat} {zs : List Int} {val : Int → Value} (ok : Ok H) (h : MapV H r zs val) {c : Int} (hc64 : I64 c) (hl : zs.length < 1000000) (v : Value) :
    ∃ zs' H', updX E kt H r c v = some H' ∧ MapV H' r zs' (fun x => if x = c then v else val x) ∧ (∀ x, x ∈ zs' ↔ x ∈ zs ∨ x = c) ∧ (zs' = zs ∨ zs' = zs ++ [c]) ∧ Mod (· = r) H H' ∧ H'.next = H.next := by
  obtain ⟨es, clock, h1, h2, h3⟩ := h
  have hk := mkeys_at h2.keys
  unfold updX
  simp only [h1]
  by_cases hc : c ∈ zs
  · obtain ⟨n, hn, h4, h5⟩ := fv_in hE (i := 0) hk hc
    rw [Nat.zero_add] at h4
    have hs : samek (iv c) (.int .i64 c) = true := by simp [samek, samebv, iv]
    have keyS : ∀ (es : List MapEntry) (n : Nat) (ks : List Int), es.map (·.key) = ks.map iv → (∀ h : n < es.length, es[n].key = iv c) → (setEntry (.int .i64 c) v es n).map (·.key) = ks.map iv := by
      intro es
      induction es with
      | nil => intro n ks h _; simpa [setEntry] using h
      | cons e es ih =>
        intro n ks h hk
        cases n with
        | zero =>
          rw [← h]
          have := hk (by simp)
          simp only [List.getElem_cons_zero] at this
          simp only [setEntry, List.map_cons, this]; rfl
        | succ n =>
          cases ks with
          | nil => simp at h
          | cons x ks =>
            simp only [List.map_cons, List.cons.injEq] at h
            simp only [setEntry, List.map_cons, List.cons.injEq]
            exact ⟨h.1, ih n ks h.2 fun hn => by have := hk (by simpa using hn); simpa using this⟩
    have bornS : ∀ (es : List MapEntry) (n : Nat), (setEntry (.int .i64 c) v es n).map (·.born) = es.map (·.born) := by
      intro es
      induction es with
      | nil => intro n; rfl
      | cons e es ih =>
        intro n
        cases n with
        | zero => rfl
        | succ n => simp only [setEntry, List.map_cons, ih n]
    have memS : ∀ (es : List MapEntry) (n : Nat) (e : MapEntry), e ∈ setEntry (.int .i64 c) v es n → (e.key = .int .i64 c ∧ e.val = v) ∨ e ∈ es := by
      intro es
      induction es with
      | nil => intro n e h; simp [setEntry] at h
      | cons x es ih =>
        intro n e h
        cases n with
        | zero =>
          rcases List.mem_cons.1 h with rfl | h
          · exact .inl ⟨rfl, rfl⟩
          · exact .inr (List.mem_cons_of_mem _ h)
        | succ n =>
          rcases List.mem_cons.1 h with rfl | h
          · exact .inr List.mem_cons_self
          · rcases ih n e h with h | h
            · exact .inl h
            · exact .inr (List.mem_cons_of_mem _ h)
    simp only [h4, List.getElem?_eq_getElem hn, h5, hs, cond_true]
    refine ⟨zs, _, rfl, ⟨_, _, get_set_self _ _ _, ⟨mkeys_mk (keyS es n zs hk fun _ => h5), ?_, by rw [bornS]; exact h2.once, h2.nodup, h2.wf, h2.room⟩, ?_⟩, fun x => ⟨.inl, fun h => h.elim id fun e => e ▸ hc⟩, .inl rfl, Mod.set ok h1 _, rfl⟩
    · intro e he
      have : e.born ∈ (setEntry (.int .i64 c) v es n).map (·.born) := List.mem_map_of_mem he
      rw [bornS] at this
      obtain ⟨y, hy, e2⟩ := List.mem_map.1 this
      rw [← e2]; exact h2.born y hy
    · intro e he x hx
      show e.val = if x = c then v else val x
      by_cases hxc : x = c
      · rw [if_pos hxc]
        -- an entry with the key c is the one that was set
        rcases memS es n e he with ⟨_, h⟩ | h
        · exact h
        · have key2 : ∀ (es : List MapEntry) (n : Nat) (ks : List Int), es.map (·.key) = ks.map iv → ks.Nodup → (∀ h : n < es.length, es[n].key = iv c) → n < es.length → ∀ e ∈ setEntry (.int .i64 c) v es n, e.key = iv c → e.val = v := by
            intro es
            induction es with
            | nil => intro n ks _ _ _ h; simp at h
            | cons y es ih =>
              intro n ks hks hnd hkn hn e he hek
              cases ks with
              | nil => simp at hks
              | cons k ks =>
                simp only [List.map_cons, List.cons.injEq] at hks
                have hnd' := List.nodup_cons.1 hnd
                cases n with
                | zero =>
                  rcases List.mem_cons.1 he with rfl | h
                  · rfl
                  · exfalso
                    have h0 := hkn (by simp)
                    simp only [List.getElem_cons_zero] at h0
                    rw [hks.1] at h0
                    have hkc : k = c := by simpa [iv] using h0
                    have : e.key ∈ es.map (·.key) := List.mem_map_of_mem h
                    rw [hks.2, hek] at this
                    obtain ⟨z, hz, e2⟩ := List.mem_map.1 this
                    have : z = c := by simpa [iv] using e2
                    exact hnd'.1 (by rw [hkc, ← this]; exact hz)
                | succ n =>
                  rcases List.mem_cons.1 he with rfl | h
                  · exfalso
                    rw [hks.1] at hek
                    have hkc : k = c := by simpa [iv] using hek
                    have h0 := hkn (by simpa using hn)
                    simp only [List.getElem_cons_succ] at h0
                    have hn' : n < es.length := by simpa using hn
                    have : es[n].key ∈ es.map (·.key) := List.mem_map_of_mem (List.getElem_mem hn')
                    rw [hks.2, h0] at this
                    obtain ⟨z, hz, e2⟩ := List.mem_map.1 this
                    have : z = c := by simpa [iv] using e2
                    exact hnd'.1 (by rw [hkc, ← this]; exact hz)
                  · exact ih n ks hks.2 hnd'.2 (fun hn => by have := hkn (by simpa using hn); simpa using this) (by simpa using hn) e h hek
          exact key2 es n zs hk h2.nodup (fun _ => h5) hn e he (by rw [hx, hxc])
      · rw [if_neg hxc]
        rcases memS es n e he with ⟨h, _⟩ | h
        · rw [h] at hx; exact (hxc (by simpa [iv] using hx.symm)).elim
        · exact h3 e h x hx
  · simp only [fv_out hE hk hc]
    refine ⟨zs ++ [c], _, rfl, ⟨_, _, get_set_self _ _ _, ⟨mkeys_mk (by simp [hk, iv]), ?_, ?_, ?_, ?_, ?_⟩, ?_⟩, fun x => by simp, .inr rfl, Mod.set ok h1 _, rfl⟩
    · intro e he
      rcases List.mem_append.1 he with h | h
      · have := h2.born e h; omega
      · have : e = { key := .int .i64 c, val := v, born := clock } := by simpa using h
        rw [this]; exact Nat.lt_succ_self _
    · rw [List.map_append]
      refine List.nodup_append.2 ⟨h2.once, by simp, fun a ha b hb e => ?_⟩
      obtain ⟨y, hy, rfl⟩ := List.mem_map.1 ha
      have : b = clock := by simpa using hb
      have := h2.born y hy
      omega
    · refine List.nodup_append.2 ⟨h2.nodup, by simp, fun a ha b hb e => ?_⟩
      have : b = c := by simpa using hb
      exact hc (by rw [← this, ← e]; exact ha)
    · intro x hx
      rcases List.mem_append.1 hx with h | h
      · exact h2.wf x h
      · have : x = c := by simpa using h
        rw [this]; exact hc64
    · rw [List.length_append, List.length_singleton]; omega
    · intro e he x hx
      show e.val = if x = c then v else val x
      rcases List.mem_append.1 he with h | h
      · have hxz : x ∈ zs := by
          have := List.mem_map_of_mem (f := (·.key)) h
          rw [hk, hx] at this
          obtain ⟨y, hy, e2⟩ := List.mem_map.1 this
          have : y = x := by simpa [iv] using e2
          rw [← this]; exact hy
        rw [if_neg (fun e2 => hc (by rw [← e2]; exact hxz))]
        exact h3 e h x hx
      · have he2 : e = { key := .int .i64 c, val := v, born := clock } := by simpa using h
        rw [he2] at hx ⊢
        rw [if_pos (by simpa [iv] using hx.symm)]
theorem MapV.del {H : AH} {r : Nat} {zs : List Int} {val : Int → Value} (ok : Ok H) (h : MapV H r zs val) (c : Int) :
    ∃ zs' H', delX E kt H r c = some (.tuple #[], H') ∧ MapV H' r zs' val ∧ (∀ x, x ∈ zs' ↔ x ∈ zs ∧ x ≠ c) ∧ zs'.length ≤ zs.length ∧ Mod (· = r) H H' ∧ H'.next = H.next := by
  obtain ⟨es, clock, h1, h2, h3⟩ := h
  have hk := mkeys_at h2.keys
  unfold delX
  simp only [h1]
  by_cases hc : c ∈ zs
  · obtain ⟨n, hn, h4, h5⟩ := fv_in hE (i := 0) hk hc
    rw [Nat.zero_add] at h4
    simp only [h4]
    have hlen : es.length = zs.length := by have := congrArg List.length hk; simpa using this
    have hn2 : n < zs.length := by omega
    have hzn : zs[n] = c := by
      have : (es.map (·.key))[n]? = (zs.map iv)[n]? := by rw [hk]
      rw [List.getElem?_map, List.getElem?_map, List.getElem?_eq_getElem hn, List.getElem?_eq_getElem hn2] at this
      simp only [Option.map_some, Option.some.injEq, h5] at this
      simpa [iv] using this.symm
    refine ⟨zs.eraseIdx n, _, rfl, ⟨_, _, get_set_self _ _ _, ⟨mkeys_mk ?_, fun e he => h2.born e (List.mem_of_mem_eraseIdx he), ?_, h2.nodup.sublist (List.eraseIdx_sublist _ _), fun x hx => h2.wf x (List.mem_of_mem_eraseIdx hx), ?_⟩, fun e he x hx => h3 e (List.mem_of_mem_eraseIdx he) x hx⟩, fun x => ?_, ?_, Mod.set ok h1 _, rfl⟩
    · rw [map_eraseIdx', hk, ← map_eraseIdx']
    · rw [map_eraseIdx']; exact h2.once.sublist (List.eraseIdx_sublist _ _)
    · have := h2.room
      have := List.length_eraseIdx_le zs n
      omega
    · rw [List.mem_eraseIdx_iff_getElem]
      constructor
      · rintro ⟨i, hi, hin, rfl⟩
        refine ⟨List.getElem_mem hi, fun e => hin ?_⟩
        exact nodup_at h2.nodup hi hn2 (by rw [e, hzn])
      · rintro ⟨hx, hne⟩
        obtain ⟨i, hi, rfl⟩ := List.getElem_of_mem hx
        exact ⟨i, hi, fun e => hne (by subst e; exact hzn), rfl⟩
    · exact List.length_eraseIdx_le zs n
  · simp only [fv_out hE hk hc]
    exact ⟨zs, _, rfl, ⟨_, _, get_set_self _ _ _, h2, h3⟩, fun x => ⟨fun h => ⟨h, fun e => hc (e ▸ h)⟩, fun h => h.1⟩, Nat.le_refl _, Mod.set ok h1 _, rfl⟩
end
theorem MapV.len {H : AH} {r : Nat} {zs : List Int} {val : Int → Value} (h : MapV H r zs val) : ∃ es clock, H.get r = some (.map es clock) ∧ es.length = zs.length := by
  obtain ⟨es, clock, h1, h2, _⟩ := h
  exact ⟨es, clock, h1, mkeys_len h2.keys⟩
end Go.Ev

namespace Go.Ev
open Go
/-- how many of the first numbers are there -/
def cntB (p : Nat → Bool) : Nat → Nat
  | 0 => 0
  | n + 1 => cntB p n + (if p n then 1 else 0)
theorem cntB_le (p : Nat → Bool) : ∀ n, cntB p n ≤ n
  | 0 => Nat.le_refl _
  | n + 1 => by have := cntB_le p n; unfold cntB; split <;> omega
theorem cntB_congr {p q : Nat → Bool} : ∀ {n : Nat}, (∀ i, i < n → p i = q i) → cntB p n = cntB q n
  | 0, _ => rfl
  | n + 1, h => by unfold cntB; rw [cntB_congr fun i hi => h i (by omega), h n (by omega)]
theorem cnt_nodup : ∀ (n : Nat) (zs : List Int), zs.Nodup → (∀ x ∈ zs, 0 ≤ x ∧ x < n) → zs.length = cntB (fun i => decide ((i : Int) ∈ zs)) n
  | 0, zs, _, h => by
    cases zs with
    | nil => rfl
    | cons x zs => have := h x List.mem_cons_self; omega
  | n + 1, zs, hn, h => by
    unfold cntB
    by_cases hm : (n : Int) ∈ zs
    · have h1 := cnt_nodup n (zs.erase n) (hn.erase _) fun x hx => by
        have h2 := (hn.mem_erase_iff).1 hx
        have h3 := h x h2.2
        have := h2.1
        omega
      have h2 := List.length_erase_of_mem hm
      have hpos : 0 < zs.length := List.length_pos_of_mem hm
      have h3 : cntB (fun i => decide ((i : Int) ∈ zs.erase n)) n = cntB (fun i => decide ((i : Int) ∈ zs)) n := cntB_congr fun i hi => by
        refine decide_eq_decide.2 ?_
        rw [hn.mem_erase_iff]
        exact ⟨fun h => h.2, fun h => ⟨by omega, h⟩⟩
      rw [h3] at h1
      simp only [hm, decide_true, if_true]
      omega
    · have h1 := cnt_nodup n zs hn fun x hx => by
        have h3 := h x hx
        have : x ≠ n := fun e => hm (e ▸ hx)
        omega
      simp only [hm, decide_false]
      simpa using h1
/-- a map of lives: of each worker its life, none of those that are not there -/
def LV (H : AH) (r : Nat) (g : Int → Int) : Prop := ∃ (zs : List Int) (f : Int → Int), MapV H r zs (fun x => .int .i64 (f x)) ∧ (∀ x ∈ zs, 0 ≤ x ∧ x < 64 ∧ 0 < f x) ∧ ∀ x, g x = if x ∈ zs then f x else 0
theorem LV.mod {S : Nat → Prop} {H H' : AH} {r : Nat} {g : Int → Int} (h : LV H r g) (hm : Mod S H H') (hs : ¬ S r) : LV H' r g := by
  obtain ⟨zs, f, h1, h2⟩ := h
  exact ⟨zs, f, h1.mod hm hs, h2⟩
theorem LV.empty {H : AH} {r c : Nat} (h : H.get r = some (.map [] c)) : LV H r fun _ => 0 := ⟨[], fun _ => 0, .empty h, fun _ h => (by cases h), fun _ => rfl⟩
theorem LV.ge {H : AH} {r : Nat} {g : Int → Int} (h : LV H r g) (x : Int) : 0 ≤ g x := by
  obtain ⟨zs, f, _, h2, h3⟩ := h
  rw [h3]
  split
  · rename_i hx; have := h2 x hx; omega
  · omega
theorem LV.out {H : AH} {r : Nat} {g : Int → Int} (h : LV H r g) {x : Int} (hx : ¬ (0 ≤ x ∧ x < 64)) : g x = 0 := by
  obtain ⟨zs, f, _, h2, h3⟩ := h
  rw [h3, if_neg]
  intro hm
  have := h2 x hm
  exact hx ⟨this.1, this.2.1⟩
theorem zs_small {zs : List Int} (h1 : zs.Nodup) (h2 : ∀ x ∈ zs, 0 ≤ x ∧ x < 64) : zs.length ≤ 64 := by
  rw [cnt_nodup 64 zs h1 (fun x hx => by have := h2 x hx; omega)]
  exact cntB_le _ _
theorem LV.count {H : AH} {r : Nat} {g : Int → Int} (h : LV H r g) : ∃ (zs : List Int) (f : Int → Int), MapV H r zs (fun x => .int .i64 (f x)) ∧ zs.length = cntB (fun i => decide (0 < g (i : Int))) 64 := by
  obtain ⟨zs, f, h1, h2, h3⟩ := h
  refine ⟨zs, f, h1, ?_⟩
  rw [cnt_nodup 64 zs h1.nodup fun x hx => by have := h2 x hx; omega]
  refine cntB_congr fun i _ => decide_eq_decide.2 ?_
  rw [h3]
  constructor
  · intro hm; rw [if_pos hm]; exact (h2 _ hm).2.2
  · intro hp
    by_cases hm : (i : Int) ∈ zs
    · exact hm
    · rw [if_neg hm] at hp; omega
end Go.Ev
namespace Go.Proofs.Cx
open Go Go.Ev
set_option maxRecDepth 100000 in
theorem eqv_I {a b : Int} : eqv Ee eqDepth T_int (.int .i64 a) (.int .i64 b) = some (a == b) := by kernel_rfl
set_option maxRecDepth 100000 in
theorem look_ii {H : AH} {m : Value} {c : Int} {ok : Bool} : lookupv Ee H T_M_int_int m (.int .i64 c) ok = lookX Ee T_int H m c (.int .i64 0) ok := by kernel_rfl
set_option maxRecDepth 100000 in
theorem upd_ii {H : AH} {r : Nat} {c : Int} {v : Value} : updatev Ee H T_M_int_int (.map (some r)) (.int .i64 c) v = updX Ee T_int H r c v := by kernel_rfl
set_option maxRecDepth 100000 in
theorem del_ii {H : AH} {r : Nat} {c : Int} : deletev Ee H [T_M_int_int, T_int] (.map (some r)) (.int .i64 c) = delX Ee T_int H r c := by kernel_rfl
theorem LV.look {H : AH} {r : Nat} {g : Int → Int} (h : LV H r g) (c : Int) : lookupv Ee H T_M_int_int (.map (some r)) (.int .i64 c) false = some (.int .i64 (g c)) ∧
    lookupv Ee H T_M_int_int (.map (some r)) (.int .i64 c) true = some (.tuple ⟨[.int .i64 (g c), .bool (decide (0 < g c))]⟩) := by
  obtain ⟨zs, f, h1, h2, h3⟩ := h
  rw [look_ii, look_ii, h1.look (fun _ _ => eqv_I), h1.look (fun _ _ => eqv_I), h3]
  by_cases hc : c ∈ zs
  · have := (h2 c hc).2.2
    simp [hc, this]
  · simp [hc]
theorem LV.put {H : AH} {r : Nat} {g : Int → Int} (ok : Ok H) (h : LV H r g) {k n : Int} (hk : 0 ≤ k ∧ k < 64) (hn : 0 < n) :
    ∃ H', updatev Ee H T_M_int_int (.map (some r)) (.int .i64 k) (.int .i64 n) = some H' ∧ LV H' r (fun x => if x = k then n else g x) ∧ Mod (· = r) H H' := by
  obtain ⟨zs, f, h1, h2, h3⟩ := h
  have hl := zs_small h1.nodup fun x hx => ⟨(h2 x hx).1, (h2 x hx).2.1⟩
  obtain ⟨zs', H', k1, k2, k3, _, k4, _⟩ := h1.put (fun _ _ => eqv_I) ok (c := k) (by unfold I64; omega) (by omega) (.int .i64 n)
  refine ⟨H', by rw [upd_ii]; exact k1, ⟨zs', fun x => if x = k then n else f x, k2.congr fun x _ => ?_, fun x hx => ?_, fun x => ?_⟩, k4⟩
  · by_cases e : x = k
    · simp [e]
    · simp [e]
  · rcases (k3 x).1 hx with h | h
    · obtain ⟨a, b, c⟩ := h2 x h
      refine ⟨a, b, ?_⟩
      show 0 < if x = k then n else f x
      by_cases e : x = k
      · rw [if_pos e]; exact hn
      · rw [if_neg e]; exact c
    · subst h; simp only [if_true]; omega
  · by_cases e : x = k
    · have : x ∈ zs' := (k3 x).2 (.inr e)
      simp [e] at this ⊢
      simp [this]
    · have : x ∈ zs' ↔ x ∈ zs := ⟨fun h => ((k3 x).1 h).elim id fun h => (e h).elim, fun h => (k3 x).2 (.inl h)⟩
      simp [e, this, h3]
theorem LV.del {H : AH} {r : Nat} {g : Int → Int} (ok : Ok H) (h : LV H r g) (k : Int) :
    ∃ H', deletev Ee H [T_M_int_int, T_int] (.map (some r)) (.int .i64 k) = some (.tuple #[], H') ∧ LV H' r (fun x => if x = k then 0 else g x) ∧ Mod (· = r) H H' := by
  obtain ⟨zs, f, h1, h2, h3⟩ := h
  obtain ⟨zs', H', k1, k2, k3, _, k4, _⟩ := h1.del (fun _ _ => eqv_I) ok k
  refine ⟨H', by rw [del_ii]; exact k1, ⟨zs', f, k2, fun x hx => h2 x ((k3 x).1 hx).1, fun x => ?_⟩, k4⟩
  by_cases e : x = k
  · have : x ∉ zs' := fun h => ((k3 x).1 h).2 e
    simp [e] at this ⊢
    simp [this]
  · have : x ∈ zs' ↔ x ∈ zs := ⟨fun h => ((k3 x).1 h).1, fun h => (k3 x).2 ⟨h, e⟩⟩
    simp [e, this, h3]

/-! sorted keys -/
set_option maxRecDepth 100000 in
theorem sorted_eq {args : List Value} {H : AH} : (evalN Ee 1).call F_slices_Sorted_int args H = keysW [F_maps_Keys_map_int_int_int_int_1, F_maps_Keys_map_int_P_master_job_int_P_master_job_1, F_maps_Keys_map_int_api_Report_int_api_Report_1] args H := by kernel_rfl
theorem sorted_ok {H : AH} {B m g : Nat} {zs : List Int} {val : Int → Value} (ok : Ok H) (hg : g ∈ [F_maps_Keys_map_int_int_int_int_1, F_maps_Keys_map_int_P_master_job_int_P_master_job_1, F_maps_Keys_map_int_api_Report_int_api_Report_1])
    (hB : H.get B = some (.cells [.map (some m)] 0)) (hm : MapV H m zs val) :
    FW Ee F_slices_Sorted_int [.func (.func g) ⟨[]⟩ ⟨[.pointer (some ⟨B, 0, none⟩)]⟩] H fun r H' => ∃ a c, r = .slice a zs.length c ∧ Own H' 1 a zs.length c ((sortI zs).map iv) ∧ (∀ x, a = some x → H.next ≤ x.block) ∧ Grow H H' ∧ H'.next ≤ H.next + 1 := by
  obtain ⟨es, clock, h1, h2, _⟩ := hm
  have hc : List.contains [F_maps_Keys_map_int_int_int_int_1, F_maps_Keys_map_int_P_master_job_int_P_master_job_1, F_maps_Keys_map_int_api_Report_int_api_Report_1] g = true := List.contains_iff_mem.2 hg
  by_cases hz : zs = []
  · refine ⟨1, .slice none 0 0, H, ?_, none, 0, by rw [hz]; rfl, ?_, fun x e => (by cases e), .refl ok, by omega⟩
    · rw [sorted_eq]
      simp only [keysW, hc, cond_true, hB, h1, h2.keys, if_pos h2, if_pos hz]
    · have e : (sortI []).map iv = [] := by simp [sortI]
      rw [hz, e]; exact Own.nil _ _
  · refine ⟨1, .slice (some ⟨H.next, 0, none⟩) zs.length (2 * zs.length + 1), H.new (.cells ((sortI zs).map iv) 1), ?_, _, _, rfl, ?_, fun x e => (by cases e; exact Nat.le_refl _), Grow.new ok _, Nat.le_refl _⟩
    · rw [sorted_eq]
      simp only [keysW, hc, cond_true, hB, h1, h2.keys, if_pos h2, if_neg hz]
    · have hl : (sortI zs).length = zs.length := List.length_mergeSort _
      exact ⟨by simp [hl], by simp [iv, oneCell], .inr (.inr ⟨H.next, rfl, rfl, get_new_self _ _⟩)⟩

/-! the master -/
structure M0 (H : AH) (mb wb : Nat) (g : Int → Int) : Prop where
  row : ∃ sp jb la ep, H.get mb = some (.cells [.pointer sp, .map (some jb), .map (some wb), .int .i64 la, .int .i64 ep] 0) ∧ H.get jb = some (.map [] 0) ∧ jb ≠ wb
  ne : mb ≠ wb
  lives : LV H wb g
theorem M0.grow {H H' : AH} {mb wb : Nat} {g : Int → Int} (h : M0 H mb wb g) (k : Grow H H') : M0 H' mb wb g := by
  obtain ⟨⟨sp, jb, la, ep, h1, h2, h3⟩, h4, h5⟩ := h
  exact ⟨⟨sp, jb, la, ep, k.get _ _ id h1, k.get _ _ id h2, h3⟩, h4, h5.mod k id⟩
theorem M0.turn {H H' : AH} {mb wb : Nat} {g g' : Int → Int} (h : M0 H mb wb g) (k : Mod (· = wb) H H') (l : LV H' wb g') : M0 H' mb wb g' := by
  obtain ⟨⟨sp, jb, la, ep, h1, h2, h3⟩, h4, h5⟩ := h
  exact ⟨⟨sp, jb, la, ep, k.get _ _ h4 h1, k.get _ _ h3 h2, h3⟩, h4, l⟩
section
variable {H : AH} {mb wb : Nat} {g : Int → Int}
theorem keys_ok {m : Option Nat} (ok : Ok H) : FW Ee F_maps_Keys_map_int_int_int_int [.map m] H fun r H' => r = .func (.func F_maps_Keys_map_int_int_int_int_1) ⟨[]⟩ ⟨[.pointer (some ⟨H.next, 0, none⟩)]⟩ ∧ H'.get H.next = some (.cells [.map m] 0) ∧ Grow H H' := by
  refine fw_maps_Keys_map_int_int_int_int ?_
  intro H1 e1
  exact ⟨rfl, e1 ▸ get_new_self _ _, e1 ▸ Grow.new ok _⟩
theorem keysj_ok {m : Option Nat} (ok : Ok H) : FW Ee F_maps_Keys_map_int_P_master_job_int_P_master_job [.map m] H fun r H' => r = .func (.func F_maps_Keys_map_int_P_master_job_int_P_master_job_1) ⟨[]⟩ ⟨[.pointer (some ⟨H.next, 0, none⟩)]⟩ ∧ H'.get H.next = some (.cells [.map m] 0) ∧ Grow H H' := by
  refine fw_maps_Keys_map_int_P_master_job_int_P_master_job ?_
  intro H1 e1
  exact ⟨rfl, e1 ▸ get_new_self _ _, e1 ▸ Grow.new ok _⟩
theorem workers_ok (ok : Ok H) (h : M0 H mb wb g) : FW Ee F_master_Master_Workers [.pointer (some ⟨mb, 0, none⟩)] H fun r H' => ∃ a c, r = .slice a (cntB (fun i => decide (0 < g (i : Int))) 64) c ∧ Grow H H' := by
  obtain ⟨⟨sp, jb, la, ep, h1, h2, h3⟩, h4, h5⟩ := h
  obtain ⟨zs, f, k1, k2⟩ := h5.count
  refine fw_master_Master_Workers ?_
  refine ⟨_, cell_of h1 rfl, (keys_ok ok).mono ?_⟩
  rintro _ H1 ⟨rfl, b1, g1⟩
  refine ⟨_, rfl, (sorted_ok g1.ok (by simp) b1 (k1.mod g1 id)).mono ?_⟩
  rintro _ H2 ⟨a, c, rfl, _, _, g2, _⟩
  exact ⟨a, _, c, rfl, a, c, by rw [k2], g1.trans g2⟩
theorem ids0_ok (ok : Ok H) (h : M0 H mb wb g) : FW Ee F_master_Master_ids [.pointer (some ⟨mb, 0, none⟩)] H fun r H' => ∃ a c, r = .slice a 0 c ∧ Grow H H' := by
  obtain ⟨⟨sp, jb, la, ep, h1, h2, h3⟩, h4, h5⟩ := h
  refine fw_master_Master_ids ?_
  refine ⟨_, cell_of h1 rfl, (keysj_ok ok).mono ?_⟩
  rintro _ H1 ⟨rfl, b1, g1⟩
  refine ⟨_, rfl, (sorted_ok (val := fun _ => .bool true) g1.ok (by simp) b1 (MapV.empty (g1.get _ _ id h2))).mono ?_⟩
  rintro _ H2 ⟨a, c, rfl, _, _, g2, _⟩
  exact ⟨a, _, c, rfl, a, c, rfl, g1.trans g2⟩
theorem current0_ok (ok : Ok H) (h : M0 H mb wb g) : FW Ee F_master_Master_current [.pointer (some ⟨mb, 0, none⟩)] H fun r H' => r = .pointer none ∧ Grow H H' := by
  refine fw_master_Master_current ?_
  refine (ids0_ok ok h).mono ?_
  rintro _ H1 ⟨a, c, rfl, g1⟩
  refine ⟨_, _, _, rfl, fun _ _ t Hx => t = 0 ∧ Hx = H1, ⟨0, rfl, rfl⟩, ?_⟩
  rintro n t2 t8 H2 ⟨rfl, rfl⟩
  exact cond_neg (by simp) ⟨rfl, g1⟩
theorem start0_ok (ok : Ok H) (h : M0 H mb wb g) : FW Ee F_master_Master_start [.pointer (some ⟨mb, 0, none⟩)] H fun r H' => r = .tuple ⟨[]⟩ ∧ Grow H H' := by
  have h' := h
  obtain ⟨⟨sp, jb, la, ep, h1, h2, h3⟩, h4, h5⟩ := h
  obtain ⟨zs, f, k1, _⟩ := h5
  obtain ⟨es, cl, k2, _⟩ := k1.len
  refine fw_master_Master_start ?_
  refine ⟨_, cell_of h1 rfl, .inr ⟨wb, es, cl, rfl, k2, cond_intro (fun _ => ⟨rfl, .refl ok⟩) (fun _ => (current0_ok ok h').mono ?_)⟩⟩
  rintro _ H6 ⟨rfl, g6⟩
  refine ⟨none, rfl, cond_neg rfl ((ids0_ok g6.ok (h'.grow g6)).mono ?_)⟩
  rintro _ H8 ⟨a, c, rfl, g8⟩
  refine ⟨_, _, _, rfl, fun _ t Hx => t = 0 ∧ Hx = H8, ⟨0, rfl, rfl⟩, ?_⟩
  rintro n t H9 ⟨rfl, rfl⟩
  exact cond_neg (by simp) ⟨rfl, g6.trans g8⟩
theorem lose0_ok {k : Int} (ok : Ok H) (h : M0 H mb wb g) : FW Ee F_master_Master_lose [.pointer (some ⟨mb, 0, none⟩), .int .i64 k] H fun r H' => r = .tuple ⟨[]⟩ ∧ M0 H' mb wb (fun x => if x = k then 0 else g x) ∧ Mod (· = wb) H H' := by
  have h' := h
  obtain ⟨⟨sp, jb, la, ep, h1, h2, h3⟩, h4, h5⟩ := h
  obtain ⟨H1, k1, k2, k3⟩ := LV.del ok h5 k
  refine fw_master_Master_lose ?_
  refine ⟨_, cell_of h1 rfl, _, H1, k1, (current0_ok k3.ok (h'.turn k3 k2)).mono ?_⟩
  rintro _ H2 ⟨rfl, g2⟩
  exact ⟨none, rfl, cond_pos rfl ⟨rfl, (h'.turn k3 k2).grow g2, k3.add g2⟩⟩
/-- the lives behind a joining -/
def joinG (g : Int → Int) (k n : Int) : Int → Int := if 0 ≤ k ∧ k < 64 ∧ g k < n then (fun x => if x = k then n else g x) else g
def loseG (g : Int → Int) (k n : Int) : Int → Int := if g k = n then (fun x => if x = k then 0 else g x) else g
theorem join0_ok {k n : Int} (hn : 0 < n) (ok : Ok H) (h : M0 H mb wb g) : FW Ee F_master_Master_join [.pointer (some ⟨mb, 0, none⟩), .int .i64 k, .int .i64 n] H fun r H' => r = .tuple ⟨[]⟩ ∧ M0 H' mb wb (joinG g k n) ∧ Mod (· = wb) H H' := by
  have h' := h
  obtain ⟨⟨sp, jb, la, ep, h1, h2, h3⟩, h4, h5⟩ := h
  have hge := h5.ge k
  refine fw_master_Master_join ?_
  refine ⟨_, cell_of h1 rfl, _, _, (LV.look h5 k).2, ?_⟩
  have skip : ¬ (0 ≤ k ∧ k < 64 ∧ g k < n) → M0 H mb wb (joinG g k n) ∧ Mod (· = wb) H H := fun hne => ⟨by unfold joinG; rw [if_neg hne]; exact h', .refl ok⟩
  refine cond_dec (fun hpos => ?_) (fun hzero => ?_)
  · refine cond_dec (fun hle => ⟨rfl, skip fun hh => by omega⟩) (fun hgt => cond_dec (fun hneg => ⟨rfl, skip fun hh => by omega⟩) (fun hnn => cond_dec (fun hbig => ⟨rfl, skip fun hh => by omega⟩) (fun hsm => ?_)))
    refine cond_pos (by simpa using hpos) ((lose0_ok (k := k) ok h').mono ?_)
    rintro _ H1 ⟨rfl, m1, d1⟩
    have m1' := m1
    obtain ⟨⟨sp1, jb1, la1, ep1, r1, r2, r3⟩, r4, r5⟩ := m1
    obtain ⟨H2, k1, k2, k3⟩ := LV.put d1.ok r5 (k := k) (n := n) ⟨by omega, by omega⟩ hn
    refine ⟨rfl, _, cell_of r1 rfl, H2, k1, (start0_ok k3.ok (m1'.turn k3 k2)).mono ?_⟩
    rintro _ H3 ⟨rfl, g3⟩
    refine ⟨rfl, rfl, ?_, (d1.trans k3).add g3⟩
    have e : joinG g k n = fun x => if x = k then n else (if x = k then 0 else g x) := by
      unfold joinG
      rw [if_pos ⟨by omega, by omega, by omega⟩]
      funext x
      by_cases e : x = k
      · rw [if_pos e, if_pos e]
      · rw [if_neg e, if_neg e, if_neg e]
    rw [e]
    exact (m1'.turn k3 k2).grow g3
  · refine cond_dec (fun hneg => ⟨rfl, skip fun hh => by omega⟩) (fun hnn => cond_dec (fun hbig => ⟨rfl, skip fun hh => by omega⟩) (fun hsm => ?_))
    refine cond_neg (by simpa using hzero) ?_
    obtain ⟨H4, k1, k2, k3⟩ := LV.put ok h5 (k := k) (n := n) ⟨by omega, by omega⟩ hn
    refine ⟨_, cell_of h1 rfl, H4, k1, (start0_ok k3.ok (h'.turn k3 k2)).mono ?_⟩
    rintro _ H5 ⟨rfl, g5⟩
    refine ⟨rfl, rfl, ?_, k3.add g5⟩
    unfold joinG
    rw [if_pos ⟨by omega, by omega, by omega⟩]
    exact (h'.turn k3 k2).grow g5
theorem newmaster_ok (ok : Ok H) : FW Ee F_master_New [] H fun r H' => ∃ mb wb, r = .pointer (some ⟨mb, 0, none⟩) ∧ M0 H' mb wb (fun _ => 0) ∧ H.next ≤ mb ∧ H.next ≤ wb ∧ Grow H H' := by
  refine fw_master_New ?_
  refine FW.mono (Q := fun r H' => r = .pointer (some ⟨H.next + 1, 0, none⟩) ∧ Grow H H' ∧ H'.next = H.next + 2) ?_ ?_
  · refine fw_sess_New ?_
    intro H1 e1 H2 e2
    have g1 : Grow H H1 := e1 ▸ Grow.new ok _
    have g2 : Grow H1 H2 := e2 ▸ Grow.new g1.ok _
    have n1 : H1.next = H.next + 1 := by rw [e1]; rfl
    exact ⟨by rw [n1], g1.trans g2, by rw [e2, AH.new_next]; omega⟩
  · rintro _ H1 ⟨rfl, g1, n1⟩
    refine ⟨_, rfl, ?_⟩
    intro H2 e2 H3 e3 H4 e4
    have g2 : Grow H1 H2 := e2 ▸ Grow.new g1.ok _
    have g3 : Grow H2 H3 := e3 ▸ Grow.new g2.ok _
    obtain ⟨g4, b4, n4⟩ := new_job g3.ok e4
    have n2 : H2.next = H1.next + 1 := by rw [e2]; rfl
    have n3 : H3.next = H2.next + 1 := by rw [e3]; rfl
    have j2 : H2.get H1.next = some (.map [] 0) := e2 ▸ get_new_self _ _
    have w3 : H3.get H2.next = some (.map [] 0) := e3 ▸ get_new_self _ _
    exact ⟨H3.next, H2.next, rfl, ⟨⟨_, _, _, _, b4, (g3.trans g4).get _ _ id j2, by omega⟩, by omega, LV.empty (g4.get _ _ id w3)⟩, by omega, by omega, ((g1.trans g2).trans g3).trans g4⟩
theorem life_ok {k : Int} (_ : Ok H) (h : M0 H mb wb g) : FW Ee F_master_Master_Life [.pointer (some ⟨mb, 0, none⟩), .int .i64 k] H fun r H' => r = .tuple ⟨[.int .i64 (g k), .bool (decide (0 < g k))]⟩ ∧ H = H' := by
  obtain ⟨⟨sp, jb, la, ep, h1, h2, h3⟩, h4, h5⟩ := h
  refine fw_master_Master_Life ?_
  exact ⟨_, cell_of h1 rfl, _, _, (LV.look h5 k).2, rfl, rfl⟩
end
end Go.Proofs.Cx

namespace Go.Ev
open Go
abbrev zrepC : List Value := [.int .i64 0, .int .i64 0, .int .i64 0, .int .i64 0, .int .i64 0, .int .i64 0, .int .i64 0, .int .i64 0, .int .i64 0, .bool false, .bool false, .bool false, .bool false, .bool false, .int .i64 0, .int .i64 0, .int .i64 0, .int .i64 0, .int .i64 0, .slice none 0 0]
abbrev cmdC (kd k n : Int) : List Value := [.int .i64 kd, .int .i64 0, .int .i64 0, .string ⟨⟨[]⟩⟩, .int .i64 0, .int .i64 k, .int .i64 n] ++ zrepC
def PAct (H : AH) (b o : Nat) (x : Int × Int) : Prop := H.cell b o = some (.int .i64 x.1) ∧ H.cell b (o + 1) = some (.int .i64 x.2)
theorem loc_act {F : Nat → Prop} : Ev.Loc F PAct := fun _ _ hk _ _ _ hb h => ⟨loc_cell hk hb h.1, loc_cell hk hb h.2⟩
end Go.Ev
namespace Go.Proofs.Cx
open Go Go.Ev
section
variable {H : AH} {mb wb : Nat} {g : Int → Int}
theorem there_ok {lb : Nat} (h : LV H lb g) : FW Ee F_cohortlaw17_there [.map (some lb)] H fun r H' => r = .int .i64 ((cntB (fun i => decide (0 < g (i : Int))) 64 : Nat) : Int) ∧ H = H' := by
  refine fw_cohortlaw17_there ?_
  refine ⟨fun n c k Hx => ∃ i : Nat, k = i ∧ i ≤ 64 ∧ n = 64 - i ∧ c = ((cntB (fun i => decide (0 < g (i : Int))) i : Nat) : Int) ∧ H = Hx, ⟨_, 0, rfl, by omega, rfl, rfl, rfl⟩, ?_⟩
  rintro n c k H1 ⟨i, rfl, hi, rfl, rfl, rfl⟩
  refine cond_dec (fun hlt => ?_) (fun hge => ?_)
  · have hi64 : i < 64 := by omega
    have hc := cntB_le (fun i => decide (0 < g (i : Int))) i
    refine ⟨_, (LV.look h _).1, cond_dec (fun hp => ?_) (fun hz => ?_)⟩
    · intro t14 e14 t8 e8
      rw [wrap_i64 (by omega) (by omega)] at e14 e8
      subst e14 e8
      refine ⟨64 - (i + 1), by omega, i + 1, by simp, by omega, rfl, ?_, rfl⟩
      have : cntB (fun i => decide (0 < g (i : Int))) (i + 1) = cntB (fun i => decide (0 < g (i : Int))) i + 1 := by
        rw [cntB]; simp [hp]
      rw [this]; simp
    · intro t8 e8
      rw [wrap_i64 (by omega) (by omega)] at e8
      subst e8
      refine ⟨64 - (i + 1), by omega, i + 1, by simp, by omega, rfl, ?_, rfl⟩
      have : cntB (fun i => decide (0 < g (i : Int))) (i + 1) = cntB (fun i => decide (0 < g (i : Int))) i := by
        rw [cntB]; simp [hz]
      rw [this]
  · have : i = 64 := by omega
    subst this
    exact ⟨rfl, rfl⟩
theorem applyj_ok {k n : Int} (hn : 0 < n) (ok : Ok H) (h : M0 H mb wb g) : FW Ee F_master_Master_Apply [.pointer (some ⟨mb, 0, none⟩), .agg ⟨cmdC 3 k n⟩] H fun r H' => r = .tuple ⟨[.agg ⟨[.int .i64 0, .int .i64 0]⟩, .int .i64 0]⟩ ∧ M0 H' mb wb (joinG g k n) ∧ Mod (· = wb) H H' := by
  refine fw_master_Master_Apply ?_
  intro H1 e1 H2 e2 H3 e3
  obtain ⟨g1, p1, n1⟩ := new_job ok e1
  obtain ⟨g2, c2, n2⟩ := new_job g1.ok e2
  obtain ⟨g3, r3, n3⟩ := new_job g2.ok e3
  have p3 := (g2.trans g3).get _ _ id p1
  have c3 := g3.get _ _ id c2
  have g03 := (g1.trans g2).trans g3
  have hwb : wb < H.next := by obtain ⟨_, _, hl⟩ := h; obtain ⟨zs, f, hm, _⟩ := hl; exact hm.lt ok
  refine ⟨_, cell_of p3 rfl, cond_neg rfl ⟨_, cell_of c3 rfl, cond_neg rfl (cond_neg rfl (cond_pos rfl ⟨_, cell_of p3 rfl, _, cell_of c3 rfl, _, cell_of c3 rfl, (join0_ok hn g03.ok (h.grow g03)).mono ?_⟩))⟩⟩
  rintro _ H13 ⟨rfl, m13, d13⟩
  have r13 := d13.get _ _ (show ¬ H2.next = wb by omega) r3
  have s14 := store_of (o := 0) (vs := [.int .i64 0, .int .i64 0]) r13 (by simp) rfl
  have d14 := Mod.set d13.ok r13 (.cells (lset [.int .i64 0, .int .i64 0] 0 [.int .i64 0, .int .i64 0]) 0)
  have r14 := get_set_self H13 H2.next (.cells (lset [.int .i64 0, .int .i64 0] 0 [.int .i64 0, .int .i64 0]) 0)
  refine ⟨rfl, _, s14, _, _, cell_of r14 rfl, cell_of r14 rfl, rfl, ?_, ((g03.le (fun _ hf _ => hf.elim) ok).trans d13).ext d14 ok fun x hx => .inr (by omega)⟩
  obtain ⟨⟨sp, jb, la, ep, q1, q2, q3⟩, q4, q5⟩ := h
  have hmb := ok.lt q1
  have hjb := ok.lt q2
  obtain ⟨⟨sp1, jb1, la1, ep1, u1, u2, u3⟩, u4, u5⟩ := m13
  have hrow := d13.get _ _ q4 (g03.get _ _ id q1)
  rw [hrow] at u1
  cases u1
  exact ⟨⟨_, _, _, _, d14.get _ _ (by omega) hrow, d14.get _ _ (by omega) u2, q3⟩, q4, u5.mod d14 (by omega)⟩
theorem applyl_ok {k n : Int} (hn : 0 < n) (ok : Ok H) (h : M0 H mb wb g) : FW Ee F_master_Master_Apply [.pointer (some ⟨mb, 0, none⟩), .agg ⟨cmdC 4 k n⟩] H fun r H' => r = .tuple ⟨[.agg ⟨[.int .i64 0, .int .i64 0]⟩, .int .i64 0]⟩ ∧ M0 H' mb wb (loseG g k n) ∧ Mod (· = wb) H H' := by
  have hge := h.lives.ge k
  refine fw_master_Master_Apply ?_
  intro H1 e1 H2 e2 H3 e3
  obtain ⟨g1, p1, n1⟩ := new_job ok e1
  obtain ⟨g2, c2, n2⟩ := new_job g1.ok e2
  obtain ⟨g3, r3, n3⟩ := new_job g2.ok e3
  have p3 := (g2.trans g3).get _ _ id p1
  have c3 := g3.get _ _ id c2
  have g03 := (g1.trans g2).trans g3
  have hwb : wb < H.next := by obtain ⟨_, _, hl⟩ := h; obtain ⟨zs, f, hm, _⟩ := hl; exact hm.lt ok
  have h3 := h.grow g03
  obtain ⟨⟨sp, jb, la, ep, q1, q2, q3⟩, q4, q5⟩ := h
  have hmb := ok.lt q1
  have hjb := ok.lt q2
  -- nothing is done
  have none_ : g k ≠ n → ∃ H16, storeCellsv H3 H2.next 0 [.int .i64 0, .int .i64 0] = some H16 ∧ ∃ (r6 r7 : Int), H16.cell H2.next (0 + 0) = some (.int .i64 r6) ∧ H16.cell H2.next (0 + 1) = some (.int .i64 r7) ∧
      (Value.tuple ⟨[.agg ⟨[.int .i64 r6, .int .i64 r7]⟩, .int .i64 0]⟩ = .tuple ⟨[.agg ⟨[.int .i64 0, .int .i64 0]⟩, .int .i64 0]⟩ ∧ M0 H16 mb wb (loseG g k n) ∧ Mod (· = wb) H H16) := by
    intro hne
    have s4 := store_of (o := 0) (vs := [.int .i64 0, .int .i64 0]) r3 (by simp) rfl
    have d4 := Mod.set g3.ok r3 (.cells (lset [.int .i64 0, .int .i64 0] 0 [.int .i64 0, .int .i64 0]) 0)
    have r4 := get_set_self H3 H2.next (.cells (lset [.int .i64 0, .int .i64 0] 0 [.int .i64 0, .int .i64 0]) 0)
    refine ⟨_, s4, _, _, cell_of r4 rfl, cell_of r4 rfl, rfl, ?_, (g03.le (fun _ hf _ => hf.elim) ok).ext d4 ok fun x hx => .inr (by omega)⟩
    unfold loseG
    rw [if_neg hne]
    obtain ⟨_, _, u5⟩ := h3
    exact ⟨⟨_, _, _, _, d4.get _ _ (by omega) (g03.get _ _ id q1), d4.get _ _ (by omega) (g03.get _ _ id q2), q3⟩, q4, u5.mod d4 (by omega)⟩
  have row3 := g03.get _ _ id q1
  refine ⟨_, cell_of p3 rfl, cond_neg rfl ⟨_, cell_of c3 rfl, cond_neg rfl (cond_neg rfl (cond_neg rfl (cond_pos rfl ⟨_, cell_of p3 rfl, grd_intro rfl (grd_intro rfl ⟨_, cell_of row3 rfl, _, cell_of c3 rfl, _, _, (LV.look h3.lives k).2, ?_⟩)⟩)))⟩⟩
  refine cond_dec (fun hp => ?_) (fun hz => none_ (by omega))
  refine ⟨_, cell_of c3 rfl, cond_intro (fun he => ?_) (fun he => none_ (by simpa using he))⟩
  have he : g k = n := by simpa using he
  refine ⟨_, cell_of p3 rfl, _, cell_of c3 rfl, (lose0_ok (k := k) g03.ok h3).mono ?_⟩
  rintro _ H15 ⟨rfl, m15, d15⟩
  have r15 := d15.get _ _ (show ¬ H2.next = wb by omega) r3
  have s16 := store_of (o := 0) (vs := [.int .i64 0, .int .i64 0]) r15 (by simp) rfl
  have d16 := Mod.set d15.ok r15 (.cells (lset [.int .i64 0, .int .i64 0] 0 [.int .i64 0, .int .i64 0]) 0)
  have r16 := get_set_self H15 H2.next (.cells (lset [.int .i64 0, .int .i64 0] 0 [.int .i64 0, .int .i64 0]) 0)
  refine ⟨rfl, _, s16, _, _, cell_of r16 rfl, cell_of r16 rfl, rfl, ?_, ((g03.le (fun _ hf _ => hf.elim) ok).trans d15).ext d16 ok fun x hx => .inr (by omega)⟩
  obtain ⟨⟨sp1, jb1, la1, ep1, u1, u2, u3⟩, u4, u5⟩ := m15
  have hrow := d15.get _ _ q4 row3
  rw [hrow] at u1
  cases u1
  unfold loseG
  rw [if_pos he]
  exact ⟨⟨_, _, _, _, d16.get _ _ (by omega) hrow, d16.get _ _ (by omega) u2, q3⟩, q4, u5.mod d16 (by omega)⟩
theorem law_lives {F : Nat → Prop} {a : Option Addr} {l c : Nat} {xs : List (Int × Int)} (ok : Ok H) (hA : Sl F H 8 PAct a l xs) (_ : ∀ x, F x → x < H.next) :
    FW Ee F_cohortlaw17_MasterLives [.slice a l c] H fun r H' => r = .bool true ∧ Grow H H' := by
  refine fw_cohortlaw17_MasterLives ?_
  refine (newmaster_ok ok).mono ?_
  rintro _ H1 ⟨mb, wb, rfl, m1, hmb, hwb, g1⟩
  refine ⟨_, rfl, ?_⟩
  intro H2 e2
  have g2 : Grow H1 H2 := e2 ▸ Grow.new g1.ok _
  have l2 : H2.get H1.next = some (.map [] 0) := e2 ▸ get_new_self _ _
  have n2 : H2.next = H1.next + 1 := by rw [e2]; rfl
  have n1 := g1.next
  have hwl : wb < H1.next := by obtain ⟨_, _, hl⟩ := m1; obtain ⟨zs, f, hm, _⟩ := hl; exact hm.lt g1.ok
  have hml : mb < H1.next := by obtain ⟨⟨_, _, _, _, hr, _⟩, _, _⟩ := m1; exact g1.ok.lt hr
  have hjl : ∀ {Hx : AH} {g : Int → Int}, M0 Hx mb wb g → Grow H1 Hx → True := fun _ _ => trivial
  refine ⟨fun n t2 t Hb => ∃ (i : Nat) (g : Int → Int), t = i ∧ i ≤ 100 ∧ n = 100 - i ∧ M0 Hb mb wb g ∧ LV Hb H1.next g ∧ Grow H Hb ∧ H2.next ≤ Hb.next ∧ ∃ sp jb la ep, jb < H1.next ∧ Hb.get mb = some (.cells [.pointer sp, .map (some jb), .map (some wb), .int .i64 la, .int .i64 ep] 0), ⟨_, 0, fun _ => 0, rfl, by omega, rfl, m1.grow g2, LV.empty l2, g1.trans g2, Nat.le_refl _, ?_⟩, ?_⟩
  · obtain ⟨⟨sp, jb, la, ep, hr, hj, _⟩, _, _⟩ := m1
    exact ⟨sp, jb, la, ep, g1.ok.lt hj, g2.get _ _ id hr⟩
  rintro n t2 t H3 ⟨i, g, rfl, hi, rfl, m3, l3, g3, n3, sp, jb, la, ep, hjb, row3⟩
  refine cond_dec (fun hlt => cond_dec (fun hl100 => ?_) (fun _ => ?_)) (fun _ => ?_)
  · have hik : i < xs.length := by have := hA.len; omega
    obtain ⟨hsome, hx1, hx2⟩ := (hA.grow loc_act g3).nth hik
    have hge := l3.ge
    refine grd_intro hsome ⟨by omega, by omega, xs[i].2, ?_, by omega, ?_⟩
    · rw [Int.toNat_natCast]; exact hx2
    intro t29 e29
    refine grd_intro hsome ⟨by omega, by omega, xs[i].1, ?_, ?_⟩
    · rw [Int.toNat_natCast]; exact hx1
    intro t35 e35 t36 e36
    have j35 : 0 ≤ t35 ∧ t35 ≤ 3 := by rw [e35]; exact iand_le (m := 3) (by omega)
    rw [wrap_i64 (by omega) (by omega)] at e36
    refine ⟨_, (LV.look l3 t29).1, grd_intro hsome ⟨by omega, by omega, xs[i].1, ?_, by omega, ?_⟩⟩
    · rw [Int.toNat_natCast]; exact hx1
    intro t45 e45
    -- the lives behind
    have back : ∀ {Hx : AH} {g' : Int → Int}, M0 Hx mb wb g' → LV Hx H1.next g' → Mod (fun x => x = wb ∨ x = H1.next) H3 Hx → ∃ g', M0 Hx mb wb g' ∧ LV Hx H1.next g' ∧ Grow H Hx ∧ H2.next ≤ Hx.next ∧ ∃ sp jb la ep, jb < H1.next ∧ Hx.get mb = some (.cells [.pointer sp, .map (some jb), .map (some wb), .int .i64 la, .int .i64 ep] 0) := by
      intro Hx g' hm hl hd
      have := hd.next
      exact ⟨g', hm, hl, g3.ext hd ok fun x hx => .inr (by omega), by omega, sp, jb, la, ep, hjb, hd.get _ _ (fun hh => by rcases hh with h1 | h1; exact m3.ne h1; omega) row3⟩
    have keepM : ∀ {Hx Hy : AH} {g' : Int → Int}, M0 Hx mb wb g' → Mod (· = H1.next) Hx Hy → Hx.get mb = some (.cells [.pointer sp, .map (some jb), .map (some wb), .int .i64 la, .int .i64 ep] 0) → M0 Hy mb wb g' := by
      intro Hx Hy g' hm hd hr
      obtain ⟨⟨sp1, jb1, la1, ep1, u1, u2, u3⟩, u4, u5⟩ := hm
      rw [hr] at u1
      cases u1
      exact ⟨⟨_, _, _, _, hd.get _ _ (by omega) hr, hd.get _ _ (by omega) u2, u3⟩, u4, u5.mod hd (by omega)⟩
    refine ⟨fun Hx => ∃ g', M0 Hx mb wb g' ∧ LV Hx H1.next g' ∧ Grow H Hx ∧ H2.next ≤ Hx.next ∧ ∃ sp jb la ep, jb < H1.next ∧ Hx.get mb = some (.cells [.pointer sp, .map (some jb), .map (some wb), .int .i64 la, .int .i64 ep] 0), cond_intro (fun _ => ?_) (fun _ => ?_), ?_⟩
    · refine (applyj_ok (k := t29) (n := t36) (by omega) g3.ok m3).mono ?_
      rintro _ H4 ⟨rfl, m4, d4⟩
      have l4 := l3.mod d4 (show ¬ H1.next = wb by omega)
      have row4 := d4.get _ _ m3.ne row3
      have dd := d4.le (S' := fun x => x = wb ∨ x = H1.next) (fun x hx _ => .inl hx) g3.ok
      have same : ¬ (0 ≤ t29 ∧ t29 < 64 ∧ g t29 < t36) → ∃ g', M0 H4 mb wb g' ∧ LV H4 H1.next g' ∧ Grow H H4 ∧ H2.next ≤ H4.next ∧ ∃ sp jb la ep, jb < H1.next ∧ H4.get mb = some (.cells [.pointer sp, .map (some jb), .map (some wb), .int .i64 la, .int .i64 ep] 0) := by
        intro hne
        unfold joinG at m4
        rw [if_neg hne] at m4
        exact back m4 l4 dd
      refine ⟨_, _, _, rfl, cond_dec (fun h1 => cond_dec (fun h2 => cond_dec (fun h3 => ?_) (fun h3 => same fun hh => by omega)) (fun h2 => same fun hh => by omega)) (fun h1 => same fun hh => by omega)⟩
      obtain ⟨H5, k1, k2, k3⟩ := LV.put d4.ok l4 (k := t29) (n := t36) ⟨by omega, by omega⟩ (by omega)
      unfold joinG at m4
      rw [if_pos ⟨by omega, by omega, by omega⟩] at m4
      exact ⟨H5, k1, back (keepM m4 k3 row4) k2 (dd.trans (k3.le (fun x hx _ => .inr hx) d4.ok))⟩
    · refine (applyl_ok (k := t29) (n := t36) (by omega) g3.ok m3).mono ?_
      rintro _ H6 ⟨rfl, m6, d6⟩
      have l6 := l3.mod d6 (show ¬ H1.next = wb by omega)
      have row6 := d6.get _ _ m3.ne row3
      have dd := d6.le (S' := fun x => x = wb ∨ x = H1.next) (fun x hx _ => .inl hx) g3.ok
      refine ⟨_, _, _, rfl, cond_intro (fun he => ?_) (fun he => ?_)⟩
      · have he : g t29 = t36 := by simpa using he
        obtain ⟨H7, k1, k2, k3⟩ := LV.del d6.ok l6 t29
        unfold loseG at m6
        rw [if_pos he] at m6
        exact ⟨_, H7, k1, back (keepM m6 k3 row6) k2 (dd.trans (k3.le (fun x hx _ => .inr hx) d6.ok))⟩
      · have he : g t29 ≠ t36 := by simpa using he
        unfold loseG at m6
        rw [if_neg he] at m6
        exact back m6 l6 dd
    · rintro H8 ⟨g', m8, l8, g8, n8, sp', jb', la', ep', hjb', row8⟩
      refine (life_ok (k := t29) g8.ok m8).mono ?_
      rintro _ _ ⟨rfl, rfl⟩
      refine ⟨_, _, rfl, _, (LV.look l8 t29).1, cond_neg (by simp) (cond_neg (by simp) ((workers_ok g8.ok m8).mono ?_))⟩
      rintro _ H10 ⟨a', c', rfl, g10⟩
      refine ⟨_, _, _, rfl, (there_ok (l8.mod g10 id)).mono ?_⟩
      rintro _ _ ⟨rfl, rfl⟩
      refine ⟨_, rfl, cond_neg (by simp) ?_⟩
      intro t23 e23
      rw [wrap_i64 (by omega) (by omega)] at e23
      subst e23
      have := g10.next
      exact ⟨100 - (i + 1), by omega, i + 1, g', by simp, by omega, rfl, m8.grow g10, l8.mod g10 id, g8.trans g10, by omega, sp', jb', la', ep', hjb', g10.get _ _ id row8⟩
  · refine awake17_ok.mono ?_
    rintro _ _ ⟨rfl, rfl⟩
    exact ⟨true, rfl, rfl, g3⟩
  · refine awake17_ok.mono ?_
    rintro _ _ ⟨rfl, rfl⟩
    exact ⟨true, rfl, rfl, g3⟩
end
end Go.Proofs.Cx

namespace Go.Proofs.Cx
open Go Go.Ev Go.RowKit
abbrev RAct : AH → List Value → Int × Int × (List UInt8 × (List (Int × Int × List (Int × Int × Unit) × Unit) × Unit) × List Int × Int × Int × Int × Unit) × Unit → Prop := RCons RI (RCons RI (RCons RJ RNil))
theorem stable_ract : Stable RAct := stable_cons stable_ri (stable_cons stable_ri (stable_cons stable_rj stable_nil))
theorem rj_len (H : AH) (cs : List Value) (x) (h : RJ H cs x) : cs.length = 6 := by
  obtain ⟨c1, c2, rfl, ⟨rfl, _⟩, c3, c4, rfl, ⟨c5, c6, rfl, ⟨a, l, c, rfl, _⟩, rfl⟩, c7, c8, rfl, ⟨pa, pl, pc, rfl, _⟩, c9, c10, rfl, ⟨rfl, w1⟩, c11, c12, rfl, ⟨rfl, w2⟩, c13, c14, rfl, ⟨rfl, w3⟩, rfl⟩ := h
  rfl
theorem ract_len (H : AH) (cs : List Value) (x) (h : RAct H cs x) : cs.length = 8 := by
  obtain ⟨c1, c2, rfl, ⟨rfl, _⟩, c3, c4, rfl, ⟨rfl, _⟩, c5, c6, rfl, h5, rfl⟩ := h
  have := rj_len _ _ _ h5
  simp; omega
section
variable {Hh : Type} {enc : TypeId × Value → Hh} {W : World} [Sy]
theorem lay_act : LayT enc Tryz.prog W T_cohortlaw17_Act RAct :=
  lay_struct (ds := [(T_int, 0), (T_int, 1), (T_api_Job, 2)]) (by kernel_rfl) (total := 8) (by kernel_rfl)
    (lay_fcons (off := 0) (n := 1) rfl (by kernel_rfl) (lay_int (by kernel_rfl)) stable_ri (lay_fcons (off := 1) (n := 1) rfl (by kernel_rfl) (lay_int (by kernel_rfl)) stable_ri
      (lay_fcons (off := 2) (n := 6) rfl (by kernel_rfl) lay_job stable_rj lay_fnil)))
theorem lay_acts : LayT enc Tryz.prog W T_L_cohortlaw17_Act (RSl 8 104 RAct) :=
  lay_slice (e := T_cohortlaw17_Act) (by kernel_rfl) (by kernel_rfl) (by omega) (by kernel_rfl) lay_act stable_ract ract_len
end
theorem law_lives_in {H : AH} {vs : List Value} {cs : List Value} {xs} (ok : Ok H) (hv : vs = cs) (h : RSl 8 104 RAct H cs xs) :
    FW Ee F_cohortlaw17_MasterLives vs H fun r H' => r = .bool true ∧ Grow H H' := by
  subst hv
  obtain ⟨a, l, c, rfl, hA, _⟩ := h
  refine law_lives (F := fun b => b < H.next) (xs := xs.map fun x => (x.1, x.2.1)) ok (Sl.into hA (fun b o x hx => ?_) (fun b o x _ hx => ?_)) (fun _ h => h)
  · obtain ⟨cs, hc, c1, c2, rfl, ⟨rfl, _⟩, _⟩ := hx
    exact lt_of_cell ok (hc 0 _ rfl)
  · obtain ⟨cs, hc, c1, c2, rfl, ⟨rfl, _⟩, c3, c4, rfl, ⟨rfl, _⟩, _⟩ := hx
    exact ⟨by simpa using hc 0 _ rfl, by simpa using hc 1 _ rfl⟩
end Go.Proofs.Cx
