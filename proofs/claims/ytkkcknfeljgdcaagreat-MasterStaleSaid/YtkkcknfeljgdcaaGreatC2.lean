/- Outcomes as bytes: run.Encode, run.Decode. Reading, as functions: numbers, texts, graphs, jobs; what is written is read. Readers: numbers, counts, texts; the program's and the document's, as functions. The document's readers. graph.Edges, graph.edges, graph.Check. -/
import Derived.Test.YtkkcknfeljgdcaaGreatC1
import Derived.Test.YtkkcknfeljgdcaaGreatVc1
namespace Go.Ev
open Go
structure OutW where
  kind : Nat
  err : Nat
  steps : Nat
  vals : List (Int × Int)
structure OutW.Lim (o : OutW) : Prop where
  kind : o.kind ≤ 2
  err : o.err ≤ 1000
  steps : o.steps ≤ 1000
  len : o.vals.length ≤ 256
  each : ∀ x ∈ o.vals, I64 x.1 ∧ I64 x.2
def valB (x : Int × Int) : List UInt8 := sgB x.1 ++ sgB x.2
def outB (o : OutW) : List UInt8 := enc o.kind ++ enc o.err ++ enc o.steps ++ enc o.vals.length ++ o.vals.flatMap valB
theorem sgB_len {x : Int} (h : I64 x) : (sgB x).length ≤ 10 := enc_len64 (fold_lt h)
theorem valB_len {x : Int × Int} (h : I64 x.1 ∧ I64 x.2) : (valB x).length ≤ 20 := by
  have := sgB_len h.1
  have := sgB_len h.2
  rw [valB, List.length_append]; omega
theorem flatB_len : ∀ {vs : List (Int × Int)}, (∀ x ∈ vs, I64 x.1 ∧ I64 x.2) → (vs.flatMap valB).length ≤ vs.length * 20
  | [], _ => by simp
  | x :: vs, h => by
    have h1 := flatB_len (vs := vs) fun y hy => h y (List.mem_cons_of_mem _ hy)
    have h2 := valB_len (h x List.mem_cons_self)
    rw [List.flatMap_cons, List.length_append, List.length_cons]; omega
def PPair (H : AH) (b o : Nat) (x : Int × Int) : Prop := H.cell b o = some (.int .i64 x.1) ∧ H.cell b (o + 1) = some (.int .i64 x.2)
theorem loc_pair {F : Nat → Prop} : Loc F PPair := fun _ _ hk _ _ _ hb h => ⟨loc_cell hk hb h.1, loc_cell hk hb h.2⟩
abbrev SlP (F : Nat → Prop) (H : AH) (a : Option Addr) (l : Nat) (vs : List (Int × Int)) : Prop := Sl F H 2 PPair a l vs
/-! what is known as far as it was read -/
section
variable {s : List UInt8} {p e : Nat}
end
end Go.Ev
namespace Go.Proofs.Cx
open Go Go.Ev

theorem encode_ok {F : Nat → Prop} {H : AH} {a : Option Addr} {l c : Nat} {o : OutW} (ok : Ok H) (hL : o.Lim) (hV : SlP F H a l o.vals) (hF : ∀ b, F b → b < H.next) :
    FW Ee F_run_Encode [.agg ⟨[.int .i64 o.kind, .int .i64 o.err, .int .i64 o.steps, .slice a l c]⟩] H fun r H' => r = .string ⟨⟨outB o⟩⟩ ∧ Grow H H' := by
  have hlen := hV.len
  have hk := hL.kind
  have her := hL.err
  have hst := hL.steps
  have hll := hL.len
  subst hlen
  refine fw_run_Encode ?_
  intro H1 e1
  have g1 : Grow H H1 := e1 ▸ Grow.new ok _
  have b1 : H1.get H.next = some (.cells [.int .i64 o.kind, .int .i64 o.err, .int .i64 o.steps, .slice a o.vals.length c] 0) := e1 ▸ get_new_self _ _
  have n1 : H1.next = H.next + 1 := by rw [e1]; rfl
  refine (newwriter_ok g1.ok).mono ?_
  rintro _ H2 ⟨rfl, w2, g2⟩
  have b2 := g2.get _ _ id b1
  have l1 := enc_len64 (show o.kind < 18446744073709551616 by omega)
  have l2 := enc_len64 (show o.err < 18446744073709551616 by omega)
  have l3 := enc_len64 (show o.steps < 18446744073709551616 by omega)
  have l4 := enc_len64 (show o.vals.length < 18446744073709551616 by omega)
  refine ⟨_, rfl, _, cell_of b2 rfl, (wcount_ok g2.ok w2 (by omega) (by simp)).mono ?_⟩
  rintro _ H3 ⟨rfl, w3, m3⟩
  have q3 : Mod (H1.next ≤ ·) H2 H3 := m3.le (fun x hx _ => w2.low hx) g2.ok
  refine ⟨rfl, _, cell_of (q3.get _ _ (by omega) b2) rfl, (wcount_ok m3.ok w3 (by omega) (by simp; omega)).mono ?_⟩
  rintro _ H4 ⟨rfl, w4, m4⟩
  have q4 := q3.trans (m4.le (fun x hx _ => w3.low hx) m3.ok)
  refine ⟨rfl, _, cell_of (q4.get _ _ (by omega) b2) rfl, (wcount_ok m4.ok w4 (by omega) (by simp; omega)).mono ?_⟩
  rintro _ H5 ⟨rfl, w5, m5⟩
  have q5 := q4.trans (m5.le (fun x hx _ => w4.low hx) m4.ok)
  refine ⟨rfl, _, _, _, cell_of (q5.get _ _ (by omega) b2) rfl, (wcount_ok m5.ok w5 (by omega) (by simp; omega)).mono ?_⟩
  rintro _ H6 ⟨rfl, w6, m6⟩
  have q6 := q5.trans (m6.le (fun x hx _ => w5.low hx) m5.ok)
  refine ⟨rfl, _, _, _, cell_of (q6.get _ _ (by omega) b2) rfl, ?_⟩
  have hV6 : SlP F H6 a o.vals.length o.vals := (hV.grow loc_pair (g1.trans g2)).mod loc_pair q6 fun b hb h => by have := hF b hb; omega
  refine ⟨fun m t Hb => ∃ p : Nat, t = p ∧ p ≤ o.vals.length ∧ m = o.vals.length - p ∧ Wr Hb H1.next H1.next ([] ++ enc o.kind ++ enc o.err ++ enc o.steps ++ enc o.vals.length ++ (o.vals.take p).flatMap valB) ∧ Mod (H1.next ≤ ·) H6 Hb,
    ⟨_, 0, rfl, by omega, rfl, by simpa using w6, .refl q6.ok⟩, ?_⟩
  rintro m t Hb ⟨p, rfl, hp, rfl, hw, hm⟩
  refine cond_dec (fun hlt => ?_) (fun hge => ?_)
  · have hpk : p < o.vals.length := by omega
    obtain ⟨hs, hc1, hc2⟩ := (hV6.mod loc_pair hm fun b hb h => by have := hF b hb; omega).nth hpk
    obtain ⟨hi1, hi2⟩ := hL.each _ (List.getElem_mem hpk)
    have hfl := flatB_len (vs := o.vals.take p) fun x hx => hL.each x (List.mem_of_mem_take hx)
    rw [List.length_take] at hfl
    refine grd_intro hs ⟨by omega, by omega, _, _, hc1, hc2, ?_⟩
    intro H8 e8
    obtain ⟨H9, e9, b9, g9, n9⟩ := fresh_store (vs := [.int .i64 o.vals[p].1, .int .i64 o.vals[p].2]) e8 rfl rfl hm.ok
    have hbs : ([] ++ enc o.kind ++ enc o.err ++ enc o.steps ++ enc o.vals.length ++ (o.vals.take p).flatMap valB).length ≤ 10000 := by
      simp only [List.length_append, List.length_nil]
      omega
    have n1b := hm.next
    have n16 := q6.next
    have n12 := g2.next
    refine ⟨H9, e9, _, cell_of b9 rfl, (wsigned_ok g9.ok (hw.grow g9) hi1 (by omega)).mono ?_⟩
    rintro _ H10 ⟨rfl, w10, m10⟩
    have l5 := sgB_len hi1
    have b10 := m10.get _ _ (fun h => by have := hw.lt hm.ok (hw.old g9 h); omega) b9
    refine ⟨rfl, _, cell_of b10 rfl, (wsigned_ok m10.ok w10 hi2 (by rw [List.length_append]; omega)).mono ?_⟩
    rintro _ H11 ⟨rfl, w11, m11⟩
    refine ⟨rfl, ?_⟩
    intro t et
    rw [wrap_i64 (by omega) (by omega)] at et
    subst et
    refine ⟨o.vals.length - (p + 1), by omega, p + 1, by simp, by omega, rfl, ?_, ?_⟩
    · rw [List.take_succ_eq_append_getElem hpk, List.flatMap_append, ← List.append_assoc]
      simpa [valB] using w11
    · have z9 := hm.add g9
      exact (z9.trans (m10.le (fun x hx _ => (hw.grow g9).low hx) g9.ok)).trans (m11.le (fun x hx _ => w10.low hx) m10.ok)
  · have hpn : p = o.vals.length := by omega
    subst hpn
    refine (wall_ok hw).mono ?_
    rintro _ _ ⟨rfl, rfl⟩
    refine ⟨_, rfl, ?_, ((g1.trans g2).ext q6 ok fun b hb => .inr (by omega)).ext hm ok fun b hb => .inr (by omega)⟩
    rw [List.take_length, List.nil_append]; rfl

end Go.Proofs.Cx

namespace Go.Ev
open Go
/-- a number's reading from the byte i on: the error, the number, how many bytes -/
def scan (l : List UInt8) : Nat → Nat → Nat → Nat × Nat × Nat
  | 0, _, _ => (6, 0, 0)
  | k + 1, i, n => match l[i]? with
    | none => (4, 0, 0)
    | some b => if (i = 9 ∧ 1 < b.toNat) ∨ (0 < i ∧ b.toNat = 0) then (6, 0, 0)
      else if b.toNat < 128 then (0, n + b.toNat * 128 ^ i, i + 1)
      else scan l k (i + 1) (n + (b.toNat - 128) * 128 ^ i)
theorem pow_9 : (128 : Nat) ^ 9 = 9223372036854775808 := by decide
theorem pow_to9 {i : Nat} (hi : i ≤ 9) : (128 : Nat) ^ i ≤ 9223372036854775808 := pow_9 ▸ Nat.pow_le_pow_right (by omega) hi
theorem scan_ok {l : List UInt8} : ∀ {k i n : Nat}, k + i = 10 → n < 128 ^ i → (scan l k i n).1 = 0 → (scan l k i n).2.1 < 18446744073709551616 ∧ (scan l k i n).2.2 ≤ l.length
  | 0, _, _, _, _, h => by simp [scan] at h
  | k + 1, i, n, hk, hn, h => by
    unfold scan at h ⊢
    cases hl : l[i]? with
    | none => rw [hl] at h; simp at h
    | some b =>
      rw [hl] at h
      obtain ⟨hi, _⟩ := List.getElem?_eq_some_iff.1 hl
      simp only at h ⊢
      split at h
      · simp at h
      · rename_i hc
        rw [if_neg hc]
        have hp := pow_to9 (show i ≤ 9 by omega)
        split at h
        · rename_i hb
          rw [if_pos hb]
          refine ⟨?_, by simp only; omega⟩
          simp only
          rcases Nat.lt_or_ge i 9 with h9 | h9
          · have h8 : (128 : Nat) ^ i ≤ 72057594037927936 := by
              have : (128 : Nat) ^ 8 = 72057594037927936 := by decide
              rw [← this]; exact Nat.pow_le_pow_right (by omega) (by omega)
            have := Nat.mul_le_mul (show b.toNat ≤ 127 by omega) h8
            omega
          · have : i = 9 := by omega
            subst this
            rw [pow_9] at hn ⊢
            have : b.toNat ≤ 1 := by omega
            have := Nat.mul_le_mul_right 9223372036854775808 this
            omega
        · rename_i hb
          rw [if_neg hb]
          refine scan_ok (by omega) ?_ h
          have h2 := b.toNat_lt
          obtain ⟨P, hP⟩ : ∃ P, P = 128 ^ i := ⟨_, rfl⟩
          rw [← hP] at hn
          rw [Nat.pow_succ, ← hP]
          have := Nat.mul_le_mul_right P (show b.toNat - 128 ≤ 127 by omega)
          omega
/-- what was written is read -/
theorem scan_enc {l : List UInt8} : ∀ (k i n v : Nat) (t : List UInt8), k + i = 10 → i ≤ 9 → (i = 0 ∨ 0 < v) → n + v * 128 ^ i < 18446744073709551616 → l.drop i = enc v ++ t → scan l k i n = (0, n + v * 128 ^ i, i + (enc v).length)
  | 0, i, _, _, _, h, h2, _, _, _ => by omega
  | k + 1, i, n, v, t, hk, hi, h0, hv, hl => by
    obtain ⟨P, hP⟩ : ∃ P, P = 128 ^ i := ⟨_, rfl⟩
    have hP9 : i = 9 → P = 9223372036854775808 := fun e => by rw [hP, e, pow_9]
    rw [← hP] at hv ⊢
    have hP0 : 0 < P := hP ▸ Nat.pow_pos (by omega)
    unfold scan
    by_cases hv2 : v < 128
    · rw [enc_lo hv2] at hl ⊢
      have e : l[i]? = some (UInt8.ofNat v) := by
        have := congrArg List.head? hl
        rw [List.head?_drop] at this
        simpa using this
      rw [e]
      simp only
      rw [u8_of (by omega), if_neg, if_pos hv2, ← hP]
      · simp
      · rintro (⟨h9, h1⟩ | ⟨h1, h2⟩)
        · rw [hP9 h9] at hv
          omega
        · omega
    · rw [enc_hi (by omega)] at hl ⊢
      have e : l[i]? = some (UInt8.ofNat (v % 128 + 128)) := by
        have := congrArg List.head? hl
        rw [List.head?_drop] at this
        simpa using this
      have hi9 : i ≠ 9 := fun e => by rw [hP9 e] at hv; omega
      rw [e]
      simp only
      rw [u8_of (by omega), if_neg (by omega), if_neg (by omega), ← hP, show v % 128 + 128 - 128 = v % 128 from by omega]
      have e2 : v * P = v % 128 * P + v / 128 * (P * 128) := by
        conv => lhs; rw [show v = v % 128 + 128 * (v / 128) from by omega]
        rw [Nat.add_mul, Nat.mul_comm P 128, ← Nat.mul_assoc, Nat.mul_comm (v / 128) 128]
      have e3 : l.drop (i + 1) = enc (v / 128) ++ t := by
        rw [← List.drop_drop, hl]; rfl
      have := scan_enc k (i + 1) (n + v % 128 * P) (v / 128) t (by omega) (by omega) (.inr (by omega)) (by rw [Nat.pow_succ, ← hP]; omega) e3
      rw [this, Nat.pow_succ, ← hP, List.length_cons]
      congr 2
      · omega
      · omega

/-! what stands at a place: the place, the error -/
abbrev RSt := Nat × Int
def rNum (s : List UInt8) (q : RSt) : Nat × RSt := if q.2 ≠ 0 then (0, q) else if (scan (s.drop q.1) 10 0 0).1 = 0 then ((scan (s.drop q.1) 10 0 0).2.1, (q.1 + (scan (s.drop q.1) 10 0 0).2.2, 0)) else (0, (q.1, ((scan (s.drop q.1) 10 0 0).1 : Int)))
def rSig (s : List UInt8) (q : RSt) : Int × RSt := (unfold_ (rNum s q).1, (rNum s q).2)
def rCnt (s : List UInt8) (m : Nat) (q : RSt) : Nat × RSt := if (rNum s q).2.2 ≠ 0 then (0, (rNum s q).2) else if m < (rNum s q).1 then (0, (q.1, 5)) else rNum s q
def rTxt (s : List UInt8) (q : RSt) : List UInt8 × RSt := if (rNum s q).2.2 ≠ 0 then ([], (rNum s q).2) else if s.length - (rNum s q).2.1 < (rNum s q).1 then ([], (q.1, 4)) else ((s.drop (rNum s q).2.1).take (rNum s q).1, ((rNum s q).2.1 + (rNum s q).1, 0))
def rMany {α : Type} (one : RSt → α × RSt) : Nat → RSt → List α × RSt
  | 0, q => ([], q)
  | n + 1, q => if q.2 ≠ 0 then ([], q) else ((one q).1 :: (rMany one n (one q).2).1, (rMany one n (one q).2).2)
def rPair (s : List UInt8) (q : RSt) : (Int × Int) × RSt := (((rSig s q).1, (rSig s (rSig s q).2).1), (rSig s (rSig s q).2).2)
def rVtx (s : List UInt8) (q : RSt) : Vtx × RSt :=
  let a := rSig s q
  let b := rSig s a.2
  let n := rCnt s 2048 b.2
  let es := rMany (rPair s) n.1 n.2
  (⟨a.1, b.1, es.1⟩, es.2)
noncomputable def rGraph (s : List UInt8) (q : RSt) : List Vtx × RSt :=
  let n := rCnt s 256 q
  let vs := rMany (rVtx s) n.1 n.2
  (vs.1, if vs.2.2 = 0 then (vs.2.1, chk vs.1) else vs.2)

/-! jobs -/
structure JobW where
  prog : List UInt8
  graph : List Vtx
  params : List Int
  steps : Int
  sent : Int
  parts : Int
def progs : List (List UInt8) := [[98, 102, 115], [99, 99], [99, 111, 108, 111, 114, 115], [100, 101, 103, 114, 101, 101], [107, 99, 111, 114, 101], [108, 97, 98, 101, 108, 115], [109, 97, 116, 99, 104, 105, 110, 103], [112, 97, 103, 101, 114, 97, 110, 107], [115, 115, 115, 112], [116, 114, 105, 97, 110, 103, 108, 101, 115]]
def pBfs : List UInt8 := [98, 102, 115]
def pSssp : List UInt8 := [115, 115, 115, 112]
def pRank : List UInt8 := [112, 97, 103, 101, 114, 97, 110, 107]
def pLab : List UInt8 := [108, 97, 98, 101, 108, 115]
def pCore : List UInt8 := [107, 99, 111, 114, 101]
def NoNeg (G : List Vtx) : Prop := ∀ (i k : Nat) (hi : i < G.length) (hk : k < G[i].edges.length), 0 ≤ (G[i].edges[k]).2
def Turns1 (most : Int) (ps : List Int) : Prop := ∃ x, ps = [x] ∧ 0 ≤ x ∧ x ≤ most
def Src (G : List Vtx) (ps : List Int) : Prop := ∃ x, ps = [x] ∧ isIn G x = true
open Classical in
/-- parameters of a known program -/
noncomputable def pchk (p : List UInt8) (G : List Vtx) (ps : List Int) : Int :=
  if p = pBfs then (if Src G ps then 0 else 71)
  else if p = pSssp then (if Src G ps ∧ NoNeg G then 0 else 71)
  else if p = pRank ∨ p = pLab then (if Turns1 100 ps then 0 else 71)
  else if p = pCore then (if Turns1 256 ps then 0 else 71)
  else if p ∈ progs then (if ps = [] then 0 else 71) else 70
open Classical in
noncomputable def jchk (j : JobW) : Int :=
  if j.prog ∉ progs then 70 else if chk j.graph ≠ 0 then chk j.graph else if 4 < j.params.length then 71 else if pchk j.prog j.graph j.params ≠ 0 then pchk j.prog j.graph j.params
  else if j.steps < 1 ∨ 1000 < j.steps ∨ j.sent < 0 ∨ 65536 < j.sent ∨ j.parts < 1 ∨ 16 < j.parts then 90 else 0
noncomputable def rJob (s : List UInt8) (q : RSt) : JobW × RSt :=
  let t := rTxt s q
  let g := rGraph s t.2
  let n := rCnt s 4 g.2
  let ps := rMany (rSig s) n.1 n.2
  let a := rCnt s 1000 ps.2
  let b := rCnt s 65536 a.2
  let c := rCnt s 16 b.2
  (⟨t.1, g.1, ps.1, a.1, b.1, c.1⟩, if c.2.2 = 0 then (c.2.1, jchk ⟨t.1, g.1, ps.1, a.1, b.1, c.1⟩) else c.2)
def rEnd (s : List UInt8) (q : RSt) : Int := if q.2 = 0 ∧ q.1 < s.length then 5 else q.2

/-! what is known of what was read -/
def AtOk (s : List UInt8) (q : RSt) : Prop := q.1 ≤ s.length
theorem rNum_ok {s : List UInt8} {q : RSt} (h : AtOk s q) : AtOk s (rNum s q).2 ∧ (rNum s q).1 < 18446744073709551616 := by
  unfold rNum AtOk at *
  split
  · exact ⟨h, by simp⟩
  · split
    · rename_i h0
      have := scan_ok (l := s.drop q.1) (k := 10) (i := 0) (n := 0) (by omega) (by simp) h0
      rw [List.length_drop] at this
      exact ⟨by simp only; omega, this.1⟩
    · exact ⟨h, by simp⟩
theorem rSig_ok {s : List UInt8} {q : RSt} (h : AtOk s q) : AtOk s (rSig s q).2 ∧ I64 (rSig s q).1 := ⟨(rNum_ok h).1, unfold_i64 (rNum_ok h).2⟩
theorem rCnt_ok {s : List UInt8} {m : Nat} {q : RSt} (h : AtOk s q) : AtOk s (rCnt s m q).2 ∧ (rCnt s m q).1 ≤ m := by
  have h1 := rNum_ok h
  unfold rCnt
  split
  · exact ⟨h1.1, by simp⟩
  · split
    · exact ⟨h, by simp⟩
    · exact ⟨h1.1, by omega⟩
theorem rTxt_ok {s : List UInt8} {q : RSt} (h : AtOk s q) : AtOk s (rTxt s q).2 ∧ (rTxt s q).1.length ≤ s.length := by
  have h1 := rNum_ok h
  unfold rTxt
  split
  · exact ⟨h1.1, by simp⟩
  · split
    · exact ⟨h, by simp⟩
    · refine ⟨?_, by rw [List.length_take, List.length_drop]; omega⟩
      have := h1.1
      unfold AtOk at *
      simp only; omega
theorem rMany_ok {α : Type} {s : List UInt8} {one : RSt → α × RSt} {R : α → Prop} (h1 : ∀ q, AtOk s q → AtOk s (one q).2 ∧ R (one q).1) : ∀ {n : Nat} {q : RSt}, AtOk s q → AtOk s (rMany one n q).2 ∧ (rMany one n q).1.length ≤ n ∧ ∀ x ∈ (rMany one n q).1, R x
  | 0, q, h => ⟨h, by simp [rMany], by simp [rMany]⟩
  | n + 1, q, h => by
    unfold rMany
    split
    · exact ⟨h, by simp, by simp⟩
    · have a := h1 q h
      obtain ⟨b1, b2, b3⟩ := rMany_ok h1 (n := n) a.1
      refine ⟨b1, by simp; omega, fun x hx => ?_⟩
      rcases List.mem_cons.1 hx with rfl | hx
      · exact a.2
      · exact b3 x hx
def PairI (e : Int × Int) : Prop := I64 e.1 ∧ I64 e.2
structure VtxI (v : Vtx) : Prop where
  id : I64 v.id
  val : I64 v.val
  len : v.edges.length ≤ 2048
  edges : ∀ e ∈ v.edges, PairI e
theorem rPair_ok {s : List UInt8} {q : RSt} (h : AtOk s q) : AtOk s (rPair s q).2 ∧ PairI (rPair s q).1 := by
  have a := rSig_ok h
  have b := rSig_ok a.1
  exact ⟨b.1, a.2, b.2⟩
theorem rVtx_ok {s : List UInt8} {q : RSt} (h : AtOk s q) : AtOk s (rVtx s q).2 ∧ VtxI (rVtx s q).1 := by
  have a := rSig_ok h
  have b := rSig_ok a.1
  have c := rCnt_ok (m := 2048) b.1
  have d := rMany_ok (one := rPair s) (R := PairI) (fun q h => rPair_ok h) (n := (rCnt s 2048 (rSig s (rSig s q).2).2).1) c.1
  exact ⟨d.1, a.2, b.2, Nat.le_trans d.2.1 c.2, d.2.2⟩
structure GraphI (G : List Vtx) : Prop where
  len : G.length ≤ 256
  each : ∀ v ∈ G, VtxI v
theorem rGraph_ok {s : List UInt8} {q : RSt} (h : AtOk s q) : AtOk s (rGraph s q).2 ∧ GraphI (rGraph s q).1 := by
  have c := rCnt_ok (m := 256) h
  have d := rMany_ok (one := rVtx s) (R := VtxI) (fun q h => rVtx_ok h) (n := (rCnt s 256 q).1) c.1
  refine ⟨?_, Nat.le_trans d.2.1 c.2, d.2.2⟩
  have := d.1
  unfold rGraph AtOk at *
  simp only
  split
  · exact this
  · exact this
structure JobI (j : JobW) : Prop where
  graph : GraphI j.graph
  params : j.params.length ≤ 4
  each : ∀ x ∈ j.params, I64 x
  steps : 0 ≤ j.steps ∧ j.steps ≤ 1000
  sent : 0 ≤ j.sent ∧ j.sent ≤ 65536
  parts : 0 ≤ j.parts ∧ j.parts ≤ 16
theorem rJob_ok {s : List UInt8} {q : RSt} (h : AtOk s q) : AtOk s (rJob s q).2 ∧ JobI (rJob s q).1 ∧ (rJob s q).1.prog.length ≤ s.length := by
  have t := rTxt_ok h
  have g := rGraph_ok t.1
  have n := rCnt_ok (m := 4) g.1
  have ps := rMany_ok (one := rSig s) (R := I64) (fun q h => rSig_ok h) (n := (rCnt s 4 (rGraph s (rTxt s q).2).2).1) n.1
  have a := rCnt_ok (m := 1000) ps.1
  have b := rCnt_ok (m := 65536) a.1
  have c := rCnt_ok (m := 16) b.1
  refine ⟨?_, ⟨g.2, Nat.le_trans ps.2.1 n.2, ps.2.2, ⟨Int.natCast_nonneg _, Int.ofNat_le.2 a.2⟩, ⟨Int.natCast_nonneg _, Int.ofNat_le.2 b.2⟩, ⟨Int.natCast_nonneg _, Int.ofNat_le.2 c.2⟩⟩, t.2⟩
  have := c.1
  unfold rJob AtOk at *
  simp only
  split
  · exact this
  · exact this

/-! what is written is read -/
def txtB (t : List UInt8) : List UInt8 := enc t.length ++ t
def pairB (e : Int × Int) : List UInt8 := sgB e.1 ++ sgB e.2
def vtxB (v : Vtx) : List UInt8 := sgB v.id ++ sgB v.val ++ enc v.edges.length ++ v.edges.flatMap pairB
def graphB (G : List Vtx) : List UInt8 := enc G.length ++ G.flatMap vtxB
def jobB (j : JobW) : List UInt8 := txtB j.prog ++ graphB j.graph ++ enc j.params.length ++ j.params.flatMap sgB ++ enc j.steps.toNat ++ enc j.sent.toNat ++ enc j.parts.toNat
def RT {α : Type} (s : List UInt8) (one : RSt → α × RSt) (x : α) (bs : List UInt8) : Prop := ∀ p t, s.drop p = bs ++ t → one (p, 0) = (x, (p + bs.length, 0)) ∧ s.drop (p + bs.length) = t
theorem drop_at {s bs t : List UInt8} {p : Nat} (h : s.drop p = bs ++ t) : s.drop (p + bs.length) = t := by
  rw [← List.drop_drop, h, List.drop_left]
theorem rt_num {s : List UInt8} {n : Nat} (hn : n < 18446744073709551616) : RT s (rNum s) n (enc n) := by
  intro p t h
  have := scan_enc (l := s.drop p) 10 0 0 n t (by omega) (by omega) (.inl rfl) (by simpa using hn) (by simpa using h)
  simp only [Nat.pow_zero, Nat.mul_one, Nat.zero_add] at this
  refine ⟨?_, drop_at h⟩
  unfold rNum
  simp only [this]
  rfl
theorem rt_sig {s : List UInt8} {x : Int} (hx : I64 x) : RT s (rSig s) x (sgB x) := by
  intro p t h
  obtain ⟨h1, h2⟩ := rt_num (fold_lt hx) p t h
  refine ⟨?_, h2⟩
  unfold rSig
  rw [h1, unfold_fold]; rfl
theorem rt_cnt {s : List UInt8} {n m : Nat} (hn : n ≤ m) (hm : m < 18446744073709551616) : RT s (rCnt s m) n (enc n) := by
  intro p t h
  obtain ⟨h1, h2⟩ := rt_num (show n < 18446744073709551616 by omega) p t h
  refine ⟨?_, h2⟩
  unfold rCnt
  rw [h1, if_neg (by simp), if_neg (by simp only; omega)]
theorem rt_txt {s x : List UInt8} (hx : x.length < 18446744073709551616) : RT s (rTxt s) x (txtB x) := by
  intro p t h
  have h3 := drop_at h
  rw [txtB, List.append_assoc] at h
  obtain ⟨h1, h2⟩ := rt_num hx p _ h
  have h4 := congrArg List.length h2
  rw [List.length_drop, List.length_append] at h4
  refine ⟨?_, h3⟩
  unfold rTxt
  rw [h1, if_neg (by simp), if_neg (by simp only; omega)]
  simp only [h2, List.take_left, txtB, List.length_append, Nat.add_assoc]
theorem rt_many {α : Type} {s : List UInt8} {one : RSt → α × RSt} {B : α → List UInt8} : ∀ {l : List α}, (∀ x ∈ l, RT s one x (B x)) → RT s (rMany one l.length) l (l.flatMap B)
  | [], _, p, t, h => ⟨rfl, by simpa using h⟩
  | x :: l, h1, p, t, h => by
    have h3 := drop_at h
    rw [List.flatMap_cons, List.append_assoc] at h
    obtain ⟨h4, h5⟩ := h1 x List.mem_cons_self p _ h
    obtain ⟨h6, h7⟩ := rt_many (fun y hy => h1 y (List.mem_cons_of_mem _ hy)) _ _ h5
    refine ⟨?_, h3⟩
    rw [List.length_cons]
    unfold rMany
    rw [if_neg (by simp), h4, h6]
    simp only [List.flatMap_cons, List.length_append, Nat.add_assoc]
theorem rt_pair {s : List UInt8} {e : Int × Int} (h : PairI e) : RT s (rPair s) e (pairB e) := by
  intro p t hd
  have h3 := drop_at hd
  rw [pairB, List.append_assoc] at hd
  obtain ⟨a1, a2⟩ := rt_sig h.1 p _ hd
  obtain ⟨b1, b2⟩ := rt_sig h.2 _ _ a2
  refine ⟨?_, h3⟩
  unfold rPair
  rw [a1]
  simp only [b1, pairB, List.length_append, Nat.add_assoc]
theorem rt_vtx {s : List UInt8} {v : Vtx} (h : VtxI v) : RT s (rVtx s) v (vtxB v) := by
  intro p t hd
  have h3 := drop_at hd
  rw [vtxB] at hd
  simp only [List.append_assoc] at hd
  obtain ⟨a1, a2⟩ := rt_sig h.id p _ hd
  obtain ⟨b1, b2⟩ := rt_sig h.val _ _ a2
  obtain ⟨c1, c2⟩ := rt_cnt h.len (by omega) _ _ b2
  obtain ⟨d1, d2⟩ := rt_many (fun e he => rt_pair (h.edges e he)) _ _ c2
  refine ⟨?_, h3⟩
  unfold rVtx
  simp only [a1, b1, c1, d1]
  simp only [vtxB, List.length_append, Nat.add_assoc]
theorem rt_graph {s : List UInt8} {G : List Vtx} (h : GraphI G) (hc : chk G = 0) : RT s (rGraph s) G (graphB G) := by
  intro p t hd
  have h3 := drop_at hd
  rw [graphB] at hd
  simp only [List.append_assoc] at hd
  obtain ⟨c1, c2⟩ := rt_cnt h.len (by omega) p _ hd
  obtain ⟨d1, d2⟩ := rt_many (fun e he => rt_vtx (h.each e he)) _ _ c2
  refine ⟨?_, h3⟩
  unfold rGraph
  simp only [c1, d1, hc, if_true]
  simp only [graphB, List.length_append, Nat.add_assoc]
theorem rt_job {s : List UInt8} {j : JobW} (h : JobI j) (hp : j.prog.length < 18446744073709551616) (hg : chk j.graph = 0) (hc : jchk j = 0) : RT s (rJob s) j (jobB j) := by
  intro p t hd
  have h3 := drop_at hd
  rw [jobB] at hd
  simp only [List.append_assoc] at hd
  obtain ⟨a1, a2⟩ := rt_txt hp p _ hd
  obtain ⟨b1, b2⟩ := rt_graph h.graph hg _ _ a2
  obtain ⟨c1, c2⟩ := rt_cnt h.params (by omega) _ _ b2
  obtain ⟨d1, d2⟩ := rt_many (fun e he => rt_sig (h.each e he)) _ _ c2
  obtain ⟨e1, e2⟩ := rt_cnt (m := 1000) (show j.steps.toNat ≤ 1000 by have := h.steps; omega) (by omega) _ _ d2
  obtain ⟨f1, f2⟩ := rt_cnt (m := 65536) (show j.sent.toNat ≤ 65536 by have := h.sent; omega) (by omega) _ _ e2
  obtain ⟨g1, g2⟩ := rt_cnt (m := 16) (show j.parts.toNat ≤ 16 by have := h.parts; omega) (by omega) _ _ f2
  refine ⟨?_, h3⟩
  have k1 : (j.steps.toNat : Int) = j.steps := by have := h.steps; omega
  have k2 : (j.sent.toNat : Int) = j.sent := by have := h.sent; omega
  have k3 : (j.parts.toNat : Int) = j.parts := by have := h.parts; omega
  unfold rJob
  simp only [a1, b1, c1, d1, e1, f1, g1, k1, k2, k3, hc, if_true]
  simp only [jobB, List.length_append, Nat.add_assoc]
theorem jchk_zero {j : JobW} (h : jchk j = 0) : j.prog ∈ progs ∧ chk j.graph = 0 ∧ j.params.length ≤ 4 ∧ pchk j.prog j.graph j.params = 0 ∧ 1 ≤ j.steps ∧ j.steps ≤ 1000 ∧ 0 ≤ j.sent ∧ j.sent ≤ 65536 ∧ 1 ≤ j.parts ∧ j.parts ≤ 16 := by
  unfold jchk at h
  split at h
  · cases h
  · rename_i h1
    split at h
    · rename_i h2; exact (h2 h).elim
    · rename_i h2
      split at h
      · cases h
      · rename_i h3
        split at h
        · rename_i h4; exact (h4 h).elim
        · rename_i h4
          split at h
          · cases h
          · rename_i h5
            exact ⟨Classical.not_not.1 h1, Classical.not_not.1 h2, by omega, Classical.not_not.1 h4, by omega, by omega, by omega, by omega, by omega, by omega⟩
end Go.Ev

namespace Go.Ev
open Go
theorem rNum_err {s : List UInt8} {p : Nat} {e : Int} (h : e ≠ 0) : rNum s (p, e) = (0, (p, e)) := by unfold rNum; rw [if_pos h]
theorem rNum_bad {s : List UInt8} {p e : Nat} (h : scan (s.drop p) 10 0 0 = (e, 0, 0)) (he : e ≠ 0) : rNum s (p, 0) = (0, (p, (e : Int))) := by
  unfold rNum; rw [if_neg (by simp)]
  simp only [h]; rw [if_neg he]
theorem rNum_good {s : List UInt8} {p n k : Nat} (h : scan (s.drop p) 10 0 0 = (0, n, k)) : rNum s (p, 0) = (n, (p + k, 0)) := by
  unfold rNum; rw [if_neg (by simp)]
  simp only [h, if_true]
theorem scan_cut {l : List UInt8} {k i n : Nat} (h : l.length ≤ i) : scan l (k + 1) i n = (4, 0, 0) := by
  unfold scan; rw [List.getElem?_eq_none h]
theorem scan_bad {l : List UInt8} {k i n : Nat} (h : i < l.length) (hc : (i = 9 ∧ 1 < l[i].toNat) ∨ (0 < i ∧ l[i].toNat = 0)) : scan l (k + 1) i n = (6, 0, 0) := by
  unfold scan; rw [List.getElem?_eq_getElem h]; simp only; rw [if_pos hc]
theorem scan_stop {l : List UInt8} {k i n : Nat} (h : i < l.length) (hc : ¬ ((i = 9 ∧ 1 < l[i].toNat) ∨ (0 < i ∧ l[i].toNat = 0))) (hb : l[i].toNat < 128) : scan l (k + 1) i n = (0, n + l[i].toNat * 128 ^ i, i + 1) := by
  unfold scan; rw [List.getElem?_eq_getElem h]; simp only; rw [if_neg hc, if_pos hb]
theorem scan_go {l : List UInt8} {k i n : Nat} (h : i < l.length) (hc : ¬ ((i = 9 ∧ 1 < l[i].toNat) ∨ (0 < i ∧ l[i].toNat = 0))) (hb : 128 ≤ l[i].toNat) : scan l (k + 1) i n = scan l k (i + 1) (n + (l[i].toNat - 128) * 128 ^ i) := by
  conv => lhs; unfold scan
  rw [List.getElem?_eq_getElem h]; simp only; rw [if_neg hc, if_neg (by omega)]
theorem pow_next {n B i : Nat} (hn : n < 128 ^ i) (hB : B < 256) : n + (B - 128) * 128 ^ i < 128 ^ (i + 1) := by
  obtain ⟨P, hP⟩ : ∃ P, P = 128 ^ i := ⟨_, rfl⟩
  rw [← hP] at hn
  rw [Nat.pow_succ, ← hP]
  have := Nat.mul_le_mul_right P (show B - 128 ≤ 127 by omega)
  omega
theorem pow_fit {n B i : Nat} (hi : i ≤ 9) (hn : n < 128 ^ i) (h9 : i = 9 → B ≤ 1) : n + B % 128 * 128 ^ i < 18446744073709551616 := by
  rcases Nat.lt_or_ge i 9 with h | h
  · have h8 : (128 : Nat) ^ i ≤ 72057594037927936 := by
      have : (128 : Nat) ^ 8 = 72057594037927936 := by decide
      rw [← this]; exact Nat.pow_le_pow_right (by omega) (by omega)
    have := Nat.mul_le_mul (show B % 128 ≤ 127 by omega) h8
    omega
  · have : i = 9 := by omega
    subst this
    have := h9 rfl
    rw [pow128_9] at hn ⊢
    have : B % 128 ≤ 1 := by omega
    omega
/-- the ways of the program's test of a byte, and of the document's -/
theorem cond_num {i B : Nat} {P E : Prop} (hE : ((i = 9 ∧ 1 < B) ∨ (0 < i ∧ B = 0)) → E) (hP : ¬ ((i = 9 ∧ 1 < B) ∨ (0 < i ∧ B = 0)) → P) :
    cond ((i : Int) == 9) (cond (decide ((B : Int) > 1)) E (cond ((B : Int) == 0) (cond (decide ((i : Int) > 0)) E P) P)) (cond ((B : Int) == 0) (cond (decide ((i : Int) > 0)) E P) P) := by
  have zero : ∀ {x : Nat}, ((x : Int) == 0) = true → x = 0 := fun {x} h => by
    have : (x : Int) = 0 := by simpa using h
    omega
  have nz : ∀ {x : Nat}, ((x : Int) == 0) = false → x ≠ 0 := fun {x} h e => by subst e; simp at h
  refine cond_intro (fun h9 => ?_) (fun h9 => ?_)
  · have h9 : i = 9 := by
      have : (i : Int) = 9 := by simpa using h9
      omega
    refine cond_dec (fun hb => hE (.inl ⟨h9, by omega⟩)) (fun hb => cond_intro (fun hz => ?_) (fun hz => hP ?_))
    · have := zero hz
      exact cond_dec (fun h0 => hE (.inr ⟨by omega, this⟩)) (fun h0 => by omega)
    · have := nz hz
      omega
  · have h9 : i ≠ 9 := by
      have : (i : Int) ≠ 9 := by simpa using h9
      omega
    refine cond_intro (fun hz => ?_) (fun hz => hP ?_)
    · have := zero hz
      exact cond_dec (fun h0 => hE (.inr ⟨by omega, this⟩)) (fun h0 => hP (by omega))
    · have := nz hz
      omega
/-- a part of a text -/
theorem strv_cut {s : List UInt8} {a n : Nat} (h : a + n ≤ s.length) : strv s (some (.int .i64 (a : Int))) (some (.int .i64 ((a + n : Nat) : Int))) = some (.string ⟨⟨(s.drop a).take n⟩⟩) := by
  unfold strv
  rw [show boundOf s.length (some (.int .i64 ((a + n : Nat) : Int))) (some s.length) = some (a + n) from by
    simp only [boundOf]
    rw [if_pos (by constructor <;> omega)]; rfl]
  simp only
  rw [show boundOf (a + n) (some (.int .i64 (a : Int))) (some 0) = some a from by
    simp only [boundOf]
    rw [if_pos (by constructor <;> omega)]; rfl]
  simp only
  rw [show a + n - a = n from by omega]
end Go.Ev
namespace Go.Proofs.Cx
open Go Go.Ev

section
variable {H : AH} {b : Nat} {s : List UInt8} {p : Nat} {e : Int}
theorem xnum_vc {Q : Value → AH → Prop} (ok : Ok H) (h : Rd H b s p e) (hp : p ≤ s.length) (hs : s.length ≤ 4611686018427387904)
    (hQ : ∀ H', Rd H' b s (rNum s (p, e)).2.1 (rNum s (p, e)).2.2 → Mod (· = b) H H' → Q (.int .u64 ((rNum s (p, e)).1 : Int)) H') :
    FW Ee F_wire_Reader_Number [.pointer (some ⟨b, 0, none⟩)] H Q := by
  refine fw_wire_Reader_Number ?_
  refine (rerr_ok h).mono ?_
  rintro _ _ ⟨rfl, rfl⟩
  refine ⟨_, rfl, cond_intro (fun he => ?_) (fun he => ?_)⟩
  · have he : e ≠ 0 := by simpa using he
    rw [rNum_err he] at hQ
    exact hQ H h (.refl ok)
  have he : e = 0 := by simpa using he
  subst he
  have bad : ∀ e' : Nat, e' ≠ 0 → scan (s.drop p) 10 0 0 = (e', 0, 0) → ∃ H', storeCellsv H b 2 [.int .i64 (e' : Int)] = some H' ∧ Q (.int .u64 0) H' := by
    intro e' he' hno
    obtain ⟨H', h1, h2, h3⟩ := h.err ok (e' : Int)
    rw [rNum_bad hno he'] at hQ
    exact ⟨H', h1, hQ H' h2 h3⟩
  have hc0 : H.cell b 0 = some (.string ⟨⟨s⟩⟩) := cell_of h rfl
  have hc1 : H.cell b 1 = some (.int .i64 (p : Int)) := cell_of h rfl
  refine ⟨fun m _ n3 t9 Hx => H = Hx ∧ ∃ i n : Nat, t9 = i ∧ n3 = n ∧ i ≤ 9 ∧ m = 10 - i ∧ n < 128 ^ i ∧ scan (s.drop p) 10 0 0 = scan (s.drop p) (10 - i) i n, ⟨_, rfl, 0, 0, rfl, rfl, by omega, rfl, by simp, rfl⟩, ?_⟩
  rintro m t2 n3 t9 Hx ⟨rfl, i, n, rfl, rfl, hi, rfl, hlt, hsc⟩
  rw [show 10 - i = 9 - i + 1 from by omega] at hsc
  refine cond_dec (fun _ => ?_) (fun hge => by omega)
  have hlen := List.length_drop (i := p) (l := s)
  refine ⟨p, hc1, ?_⟩
  intro t17 e17
  rw [wrap_i64 (by omega) (by omega)] at e17
  subst e17
  refine ⟨s, hc0, cond_dec (fun hcut => ?_) (fun hin => ?_)⟩
  · exact bad 4 (by omega) (hsc.trans (scan_cut (by omega)))
  have hil : i < (s.drop p).length := by omega
  refine ⟨s, hc0, p, hc1, ?_⟩
  intro t36 e36
  rw [wrap_i64 (by omega) (by omega)] at e36
  subst e36
  refine ⟨by omega, by omega, ?_⟩
  obtain ⟨B, hB⟩ : ∃ B : Nat, B = ((s.drop p)[i]).toNat := ⟨_, rfl⟩
  have hB256 : B < 256 := by rw [hB]; exact UInt8.toNat_lt _
  have hbyte : byteAt s ((p : Int) + (i : Int)) = (B : Int) := by rw [byteAt_drop hil, hB]
  rw [hbyte]
  refine cond_num (fun hbad => bad 6 (by omega) (hsc.trans (scan_bad hil (by rw [← hB]; exact hbad)))) (fun hgood => ?_)
  have h9 : i = 9 → B ≤ 1 := fun h => by omega
  have hfit := pow_fit hi hlt h9
  have hpow := pow_le hi
  intro t57 e57 t58 e58 t60 e60
  rw [low7 hB256] at e57
  subst e57
  rw [wrap_u64 (by omega) (by omega)] at e58
  subst e58
  rw [wrap_i64 (by omega) (by omega)] at e60
  subst e60
  refine ⟨by omega, ?_⟩
  intro t61 e61
  rw [shlk hi] at e61
  obtain ⟨X, hX⟩ : ∃ X, X = B % 128 * 128 ^ i := ⟨_, rfl⟩
  rw [← hX] at e61 hfit
  rw [wrap_u64 (by omega) (by omega)] at e61
  subst e61
  intro t62 e62
  rw [ior_u64 (by omega) (by omega), hX, or_add hlt, ← hX] at e62
  subst e62
  intro t64 e64
  rw [high1 hB256] at e64
  refine cond_intro (fun hz => ?_) (fun hnz => ?_)
  · have hlo : B < 128 := by
      by_cases h : B < 128
      · exact h
      · rw [if_neg h] at e64; subst e64; simp at hz
    refine ⟨p, hc1, ?_⟩
    intro t71 e71
    rw [wrap_i64 (by omega) (by omega)] at e71
    subst e71
    intro t72 e72
    rw [wrap_i64 (by omega) (by omega)] at e72
    have e72 : t72 = ((p + (i + 1) : Nat) : Int) := by omega
    subst e72
    obtain ⟨H', q1, q2, q3⟩ := h.set ok (p + (i + 1))
    have hst := hsc.trans (scan_stop hil (by rw [← hB]; exact hgood) (by rw [← hB]; exact hlo))
    rw [← hB] at hst
    rw [rNum_good hst] at hQ
    rw [hX, Nat.mod_eq_of_lt hlo]
    exact ⟨H', q1, hQ H' q2 q3⟩
  · have hhi : 128 ≤ B := by
      by_cases h : B < 128
      · rw [if_pos h] at e64; subst e64; simp at hnz
      · omega
    intro t76 e76
    rw [wrap_i64 (by omega) (by omega)] at e76
    have hi9 : i ≠ 9 := fun e => by have := h9 e; omega
    have hst := hsc.trans (scan_go hil (by rw [← hB]; exact hgood) (by rw [← hB]; exact hhi))
    rw [← hB] at hst
    rw [hX, show B % 128 = B - 128 from by omega]
    exact ⟨10 - (i + 1), by omega, rfl, i + 1, _, by omega, rfl, by omega, rfl, pow_next hlt hB256, by rw [hst, show 9 - i = 10 - (i + 1) from by omega]⟩
end
section
variable {H : AH} {b : Nat} {s : List UInt8} {q : RSt}
theorem xnum_ok (ok : Ok H) (h : Rd H b s q.1 q.2) (hp : AtOk s q) (hs : s.length ≤ 4611686018427387904) :
    FW Ee F_wire_Reader_Number [.pointer (some ⟨b, 0, none⟩)] H fun r H' => r = .int .u64 ((rNum s q).1 : Int) ∧ Rd H' b s (rNum s q).2.1 (rNum s q).2.2 ∧ Mod (· = b) H H' :=
  xnum_vc ok h hp hs fun _ h1 h2 => ⟨rfl, h1, h2⟩
theorem xsig_ok (ok : Ok H) (h : Rd H b s q.1 q.2) (hp : AtOk s q) (hs : s.length ≤ 4611686018427387904) :
    FW Ee F_wire_Reader_Signed [.pointer (some ⟨b, 0, none⟩)] H fun r H' => r = .int .i64 (rSig s q).1 ∧ Rd H' b s (rSig s q).2.1 (rSig s q).2.2 ∧ Mod (· = b) H H' := by
  refine fw_wire_Reader_Signed ?_
  refine (xnum_ok ok h hp hs).mono ?_
  rintro _ H1 ⟨rfl, h1, h2⟩
  refine ⟨_, rfl, (unfold_ok (rNum_ok hp).2).mono ?_⟩
  rintro _ _ ⟨rfl, rfl⟩
  exact ⟨_, rfl, rfl, h1, h2⟩
theorem xcnt_ok (m : Nat) (hm : m ≤ 4611686018427387904) (ok : Ok H) (h : Rd H b s q.1 q.2) (hp : AtOk s q) (hs : s.length ≤ 4611686018427387904) :
    FW Ee F_wire_Reader_Count [.pointer (some ⟨b, 0, none⟩), .int .i64 m] H fun r H' => r = .int .i64 ((rCnt s m q).1 : Int) ∧ Rd H' b s (rCnt s m q).2.1 (rCnt s m q).2.2 ∧ Mod (· = b) H H' := by
  have hn := rNum_ok hp
  refine fw_wire_Reader_Count ?_
  refine (rat_ok h).mono ?_
  rintro _ _ ⟨rfl, rfl⟩
  refine ⟨_, rfl, (xnum_ok ok h hp hs).mono ?_⟩
  rintro _ H1 ⟨rfl, h1, h3⟩
  refine ⟨_, rfl, (rerr_ok h1).mono ?_⟩
  rintro _ _ ⟨rfl, rfl⟩
  refine ⟨_, rfl, cond_intro (fun he => ?_) (fun he => ?_)⟩
  · have he : (rNum s q).2.2 ≠ 0 := by simpa using he
    unfold rCnt
    rw [if_pos he]
    exact ⟨rfl, h1, h3⟩
  · have he : (rNum s q).2.2 = 0 := by simpa using he
    unfold rCnt
    rw [if_neg (by simpa using he)]
    refine cond_dec (fun hneg => by omega) (fun _ => ?_)
    intro t19 e19
    rw [wrap_u64 (by omega) (by omega)] at e19
    subst e19
    refine cond_dec (fun hbig => ?_) (fun hok => ?_)
    · obtain ⟨H6, k1, k2, k3⟩ := h1.set h3.ok q.1
      obtain ⟨H7, l1, l2, l3⟩ := k2.err k3.ok 5
      rw [if_pos (by omega)]
      exact ⟨H6, k1, H7, l1, rfl, l2, (h3.trans k3).trans l3⟩
    · intro t30 e30
      rw [wrap_i64 (by omega) (by omega)] at e30
      subst e30
      rw [if_neg (by omega)]
      exact ⟨rfl, h1, h3⟩
theorem xbytes_ok {n : Nat} (ok : Ok H) (h : Rd H b s q.1 q.2) (he : q.2 = 0) (hn : q.1 + n ≤ s.length) (hs : s.length ≤ 4611686018427387904) :
    FW Ee F_wire_Reader_Bytes [.pointer (some ⟨b, 0, none⟩), .int .i64 n] H fun r H' => r = .string ⟨⟨(s.drop q.1).take n⟩⟩ ∧ Rd H' b s (q.1 + n) 0 ∧ Mod (· = b) H H' := by
  refine fw_wire_Reader_Bytes ?_
  refine (rerr_ok h).mono ?_
  rintro _ _ ⟨rfl, rfl⟩
  refine ⟨_, rfl, cond_neg (by simp [he]) (cond_dec (fun h => by omega) fun _ => ?_)⟩
  refine ⟨s, cell_of h rfl, _, cell_of h rfl, ?_⟩
  intro t25 e25
  rw [wrap_i64 (by omega) (by omega)] at e25
  subst e25
  refine cond_dec (fun h => by omega) fun _ => ?_
  refine ⟨_, cell_of h rfl, ?_⟩
  intro t36 e36
  rw [wrap_i64 (by omega) (by omega)] at e36
  have e36 : t36 = ((q.1 + n : Nat) : Int) := by omega
  subst e36
  obtain ⟨H4, k1, k2, k3⟩ := h.set ok (q.1 + n)
  refine ⟨H4, k1, s, cell_of k2 rfl, _, cell_of k2 rfl, ?_⟩
  intro t48 e48
  rw [wrap_i64 (by omega) (by omega)] at e48
  have e48 : t48 = ((q.1 : Nat) : Int) := by omega
  subst e48
  refine ⟨_, cell_of k2 rfl, _, strv_cut hn, rfl, ?_, k3⟩
  rw [he] at k2
  exact k2
theorem xtxt_ok (ok : Ok H) (h : Rd H b s q.1 q.2) (hp : AtOk s q) (hs : s.length ≤ 4611686018427387904) :
    FW Ee F_wire_Reader_Text [.pointer (some ⟨b, 0, none⟩)] H fun r H' => r = .string ⟨⟨(rTxt s q).1⟩⟩ ∧ Rd H' b s (rTxt s q).2.1 (rTxt s q).2.2 ∧ Mod (· = b) H H' := by
  have hn := rNum_ok hp
  have hat : (rNum s q).2.1 ≤ s.length := hn.1
  refine fw_wire_Reader_Text ?_
  refine (rat_ok h).mono ?_
  rintro _ _ ⟨rfl, rfl⟩
  refine ⟨_, rfl, (xnum_ok ok h hp hs).mono ?_⟩
  rintro _ H1 ⟨rfl, h1, h3⟩
  refine ⟨_, rfl, (rerr_ok h1).mono ?_⟩
  rintro _ _ ⟨rfl, rfl⟩
  refine ⟨_, rfl, cond_intro (fun he => ?_) (fun he => ?_)⟩
  · have he : (rNum s q).2.2 ≠ 0 := by simpa using he
    unfold rTxt
    rw [if_pos he]
    exact ⟨rfl, h1, h3⟩
  · have he : (rNum s q).2.2 = 0 := by simpa using he
    unfold rTxt
    rw [if_neg (by simpa using he)]
    refine (rleft_ok h1 hat hs).mono ?_
    rintro _ _ ⟨rfl, rfl⟩
    refine ⟨_, rfl, ?_⟩
    intro t15 e15
    rw [wrap_u64 (by omega) (by omega)] at e15
    subst e15
    refine cond_dec (fun hbig => ?_) (fun hok => ?_)
    · obtain ⟨H6, k1, k2, k3⟩ := h1.set h3.ok q.1
      obtain ⟨H7, l1, l2, l3⟩ := k2.err k3.ok 4
      rw [if_pos (by omega)]
      exact ⟨H6, k1, H7, l1, rfl, l2, (h3.trans k3).trans l3⟩
    · intro t26 e26
      rw [wrap_i64 (by omega) (by omega)] at e26
      subst e26
      rw [if_neg (by omega)]
      refine (xbytes_ok h3.ok h1 he (by omega) hs).mono ?_
      rintro _ H7 ⟨rfl, h7, m7⟩
      exact ⟨_, rfl, rfl, h7, h3.trans m7⟩
end

/-! the document's -/
theorem two_new {H H1 H2 : AH} {x y : AObj} (ok : Ok H) (e1 : H1 = H.new x) (e2 : H2 = H1.new y) : Grow H H2 ∧ H2.get H.next = some x ∧ H2.get H1.next = some y ∧ H1.next = H.next + 1 ∧ H2.next = H.next + 2 := by
  subst e1
  have g := Grow.new ok x
  subst e2
  have g2 := Grow.new g.ok y
  exact ⟨g.trans g2, g2.get _ _ id (get_new_self _ _), get_new_self _ _, rfl, rfl⟩
section
variable {H : AH} {s : List UInt8} {q : RSt}
end
end Go.Proofs.Cx

namespace Go.Proofs.Cx
open Go Go.Ev

section
variable {H : AH} {s : List UInt8} {q : RSt}
end
end Go.Proofs.Cx

namespace Go.Proofs.Cx
open Go Go.Ev

theorem gcount_ok {F : Nat → Prop} {a : Option Addr} {l c : Nat} {H : AH} {G : List Vtx} (ok : Ok H) (hG : SlV F H a l G) (hF : ∀ b, F b → b < H.next) (hf : Fit G) (hn : nE G ≤ 4611686018427387904) :
    FW Ee F_graph_Edges [.agg ⟨[.slice a l c]⟩] H fun r H' => r = .int .i64 (nE G : Int) ∧ Grow H H' := by
  have hlen := hG.len
  have hfn := hf.n
  refine fw_graph_Edges ?_
  intro H1 e1
  have g1 : Grow H H1 := e1 ▸ Grow.new ok _
  have b1 : H1.get H.next = some (.cells [.slice a l c] 0) := e1 ▸ get_new_self _ _
  have n1 : H1.next = H.next + 1 := by rw [e1]; rfl
  intro H2 e2
  obtain ⟨H3, e3, b3, g3, n3⟩ := fresh_store (vs := [.int .i64 0]) e2 rfl rfl g1.ok
  refine ⟨H3, e3, a, l, c, cell_of (g3.get _ _ id b1) rfl, (all_ok g3.ok).mono ?_⟩
  rintro _ H4 ⟨rfl, b4, g4⟩
  have n4 := g4.next
  refine ⟨_, rfl, ?_⟩
  intro L hL hst hpd
  have g5 : Grow H4 (H4.new (.loop L)) := Grow.new g4.ok _
  have g35 := g4.trans g5
  have gall := (g1.trans g3).trans g35
  have n5 : (H4.new (.loop L)).next = H4.next + 1 := rfl
  let S : Nat → Prop := fun b => b = H1.next ∨ b = H4.next
  refine (all1_ok (F := F) (S := S) (R := fun done Hx => Hx.get H4.next = some (.loop L) ∧ Hx.get H1.next = some (.cells [.int .i64 (done.length : Int)] 0)) g5.ok (a := a) (l := l) (c := c) (G := G) (hG.grow loc_vtx gall) (by omega) hf.e (cell_of (g5.get _ _ id b4) rfl) ?_ ?_ ?_ ?_).mono ?_
  · intro b hb
    rcases hb with rfl | rfl
    · exact ⟨by omega, fun h => by have := hF _ h; omega⟩
    · exact ⟨by omega, fun h => by have := hF _ h; omega⟩
  · exact ⟨get_new_self _ _, g35.get _ _ id b3⟩
  · rintro done Ha Hb ⟨r1, r2⟩ g
    exact ⟨g.get _ _ id r1, g.get _ _ id r2⟩
  · rintro done x rest Hx hsp ⟨r1, r2⟩ okx mx
    have hlenE := flatE_len G
    have hlt : done.length < nE G := by rw [← hlenE, hsp]; simp
    refine rw_graph_Edges_r0 r1 hL ?_
    have mw := Mod.set okx r1 (.loop { L with st := .busy })
    have w2 := mw.get _ _ (show ¬ H1.next = H4.next by omega) r2
    have lw := get_set_self Hx H4.next (.loop { L with st := .busy })
    refine ⟨L, r1, hst, hL.body, _, cell_of w2 rfl, ?_⟩
    intro t9 e9
    rw [wrap_i64 (by omega) (by omega)] at e9
    subst e9
    have m1 := Mod.set mw.ok w2 (.cells (lset [.int .i64 (done.length : Int)] 0 [.int .i64 ((done.length : Int) + 1)]) 0)
    have l1 := m1.get _ _ (show ¬ H4.next = H1.next by omega) lw
    have m3 := Mod.set m1.ok l1 (.loop L)
    have hLr : ({ L with st := LoopState.ready, pend := none } : ALoop) = L := by
      cases L; simp only at hst hpd; subst hst hpd; rfl
    refine ⟨_, store_of (o := 0) w2 (by simp) rfl, _, l1, rfl, ?_, ?_⟩
    · simp only [hLr]
      refine ⟨get_set_self _ _ _, ?_⟩
      refine Eq.trans (m3.get H1.next _ (by omega) (get_set_self _ _ _)) ?_
      simp [lset]
    · simp only [hLr]
      have q : ∀ {S' : Nat → Prop} {Ha Hb : AH}, Ok Ha → Mod S' Ha Hb → (∀ b, S' b → S b) → Mod S Ha Hb := fun ok h k => h.le (fun b hb _ => k b hb) ok
      exact (q okx mw (fun b h => .inr h)).trans ((q mw.ok m1 (fun b h => .inl h)).trans (q m1.ok m3 (fun b h => .inr h)))
  · rintro _ H6 ⟨⟨r1, r2⟩, m6⟩
    have m7 := Mod.set m6.ok r1 (.loop { L with st := .exhausted, pend := none })
    refine ⟨L, r1, by rw [hst]; simp, ?_⟩
    simp only [hpd]
    have r3 := m7.get _ _ (show ¬ H1.next = H4.next by omega) r2
    rw [flatE_len] at r3
    refine ⟨_, cell_of r3 rfl, rfl, (gall.ext m6 ok fun b hb => .inr ?_).ext m7 ok fun b hb => .inr (by omega)⟩
    rcases hb with rfl | rfl <;> omega

/-- the edges of a vertex may be -/
def EsOk (G : List Vtx) (es : List (Int × Int)) : Prop := ∀ k (hk : k < es.length), isIn G es[k].1 = true ∧ ∀ (_ : 0 < k), (es[k - 1]'(by omega)).1 < es[k].1
theorem gedges_ok {F : Nat → Prop} {a ea : Option Addr} {l c el ec : Nat} {vid val : Int} {H : AH} {G : List Vtx} {es : List (Int × Int)} (ok : Ok H) (hG : SlV F H a l G) (hl : l ≤ 4611686018427387904) (hE : SlE F H ea el es) (hel : el ≤ 4611686018427387904) (hr : Rising G) :
    FW Ee F_graph_edges [.agg ⟨[.slice a l c]⟩, .agg ⟨[.int .i64 vid, .int .i64 val, .slice ea el ec]⟩] H fun r H' => ∃ bb : Bool, r = .bool bb ∧ (bb = true → EsOk G es) ∧ (bb = false → ¬ EsOk G es) ∧ Grow H H' := by
  have hlen := hE.len
  refine fw_graph_edges ?_
  intro H1 e1 H2 e2
  obtain ⟨g2, b2, v2, n1, n2⟩ := two_new ok e1 e2
  refine ⟨_, _, _, cell_of v2 rfl, ?_⟩
  refine ⟨fun n _ i Hx => ∃ p : Nat, i = p ∧ p ≤ el ∧ n = el - p ∧ Grow H2 Hx ∧ ∀ k (hk : k < es.length), k < p → isIn G es[k].1 = true ∧ ∀ (_ : 0 < k), (es[k - 1]'(by omega)).1 < es[k].1, ⟨_, 0, rfl, by omega, rfl, .refl g2.ok, fun k _ h => by omega⟩, ?_⟩
  rintro n t4 i H3 ⟨p, rfl, hp, rfl, g3, hpre⟩
  have gg := g2.trans g3
  refine cond_dec (fun hlt => ?_) (fun hge => ?_)
  · have hk : p < es.length := by omega
    obtain ⟨hs, c1, c2⟩ := (hE.grow loc_edge gg).nth hk
    refine grd_intro hs ⟨by omega, by omega, _, _, c1, c2, ?_⟩
    intro H4 e4
    obtain ⟨H5, e5, b5, g5, n5⟩ := fresh_store (vs := [.int .i64 es[p].1, .int .i64 es[p].2]) e4 rfl rfl gg.ok
    have gb := (g3.trans g5).get _ _ id b2
    have gv := (g3.trans g5).get _ _ id v2
    refine ⟨H5, e5, _, _, _, cell_of gb rfl, _, cell_of b5 rfl, (gfind_ok g5.ok ((hG.grow loc_vtx gg).grow loc_vtx g5) hl hr).mono ?_⟩
    rintro _ H6 ⟨rfl, g6⟩
    have g36 := g5.trans g6
    refine ⟨_, _, rfl, cond_intro (fun hno => ⟨false, rfl, fun h => (by cases h), fun _ h => ?_, gg.trans g36⟩) (fun hin => ?_)⟩
    · have := (h p hk).1
      rw [this] at hno; cases hno
    have hin : isIn G es[p].1 = true := by simpa using hin
    have next : (∀ (_ : 0 < p), (es[p - 1]'(by omega)).1 < es[p].1) → ∀ (t42 : Int), t42 = IntKind.i64.wrap ((p : Int) + 1) → ∃ m, m < el - p ∧ ∃ p' : Nat, t42 = p' ∧ p' ≤ el ∧ m = el - p' ∧ Grow H2 H6 ∧ ∀ k (hk : k < es.length), k < p' → isIn G es[k].1 = true ∧ ∀ (_ : 0 < k), (es[k - 1]'(by omega)).1 < es[k].1 := by
      intro h t42 e42
      rw [wrap_i64 (by omega) (by omega)] at e42
      subst e42
      refine ⟨el - (p + 1), by omega, p + 1, by simp, by omega, rfl, g3.trans g36, fun k hk2 hkp => ?_⟩
      rcases Nat.lt_or_ge k p with h3 | h3
      · exact hpre k hk2 h3
      · have : k = p := by omega
        subst this; exact ⟨hin, h⟩
    refine cond_dec (fun h0 => ?_) (fun h0 => next fun h => by omega)
    refine ⟨_, _, _, cell_of (g6.get _ _ id gv) rfl, ?_⟩
    intro t33 e33
    rw [wrap_i64 (by omega) (by omega)] at e33
    subst e33
    have hjj : ((p : Int) - 1).toNat = p - 1 := by omega
    obtain ⟨_, d1, _⟩ := ((hE.grow loc_edge gg).grow loc_edge g36).nth (k := p - 1) (by omega)
    refine grd_intro hs ⟨by omega, by omega, _, by rw [hjj]; exact d1, _, cell_of (g6.get _ _ id b5) rfl, cond_dec (fun h1 => ⟨false, rfl, fun h => (by cases h), fun _ h => ?_, gg.trans g36⟩) (fun h1 => next fun _ => by omega)⟩
    have := (h p hk).2 (by omega)
    omega
  · exact ⟨true, rfl, fun _ k hk => hpre k hk (by omega), fun h => (by cases h), gg⟩

theorem gcheck_ok {F : Nat → Prop} {a : Option Addr} {l c : Nat} {H : AH} {G : List Vtx} (ok : Ok H) (hG : SlV F H a l G) (hF : ∀ b, F b → b < H.next) (hf : Fit G) :
    FW Ee F_graph_Check [.agg ⟨[.slice a l c]⟩] H fun r H' => r = .int .i64 (chk G) ∧ Grow H H' := by
  have hlen := hG.len
  have hfn := hf.n
  refine fw_graph_Check ?_
  intro H1 e1
  have g1 : Grow H H1 := e1 ▸ Grow.new ok _
  have b1 : H1.get H.next = some (.cells [.slice a l c] 0) := e1 ▸ get_new_self _ _
  have n1 : H1.next = H.next + 1 := by rw [e1]; rfl
  refine ⟨_, _, _, cell_of b1 rfl, cond_dec (fun h => ⟨by rw [chk, if_pos (.inl (by omega))], g1⟩) (fun h256 => ?_)⟩
  refine ⟨_, _, _, cell_of b1 rfl, ?_⟩
  refine ⟨fun n _ i Hx => ∃ p : Nat, i = p ∧ p ≤ l ∧ n = l - p ∧ Grow H1 Hx ∧ ∀ k (h : k + 1 < G.length), k + 1 < p → G[k].id < G[k + 1].id, ⟨_, 0, rfl, by omega, rfl, .refl g1.ok, fun k _ h => by omega⟩, ?_⟩
  rintro n t2 i H2 ⟨p, rfl, hp, rfl, g2, hst⟩
  have b2 := g2.get _ _ id b1
  have gg := g1.trans g2
  have G2 := hG.grow loc_vtx gg
  refine cond_dec (fun hlt => ?_) (fun hge => ?_)
  · have hk : p < G.length := by omega
    obtain ⟨hs, c1, c2, ea, el, ec, c3, c4⟩ := G2.nth hk
    refine grd_intro hs ⟨by omega, by omega, _, _, ea, el, ec, c1, c2, c3, ?_⟩
    intro H3 e3
    obtain ⟨H4, e4, b4, g4, n4⟩ := fresh_store (vs := [.int .i64 G[p].id, .int .i64 G[p].val, .slice ea el ec]) e3 rfl rfl gg.ok
    have next : (∀ (_ : 0 < p), (G[p - 1]'(by omega)).id < G[p].id) → ∀ (t33 : Int), t33 = IntKind.i64.wrap ((p : Int) + 1) → ∃ m, m < l - p ∧ ∃ p' : Nat, t33 = p' ∧ p' ≤ l ∧ m = l - p' ∧ Grow H1 H4 ∧ ∀ k (h : k + 1 < G.length), k + 1 < p' → G[k].id < G[k + 1].id := by
      intro h t e
      rw [wrap_i64 (by omega) (by omega)] at e
      subst e
      refine ⟨l - (p + 1), by omega, p + 1, by simp, by omega, rfl, g2.trans g4, fun k hk2 hkp => ?_⟩
      rcases Nat.lt_or_ge (k + 1) p with h3 | h3
      · exact hst k hk2 h3
      · have e : p = k + 1 := by omega
        subst e
        exact h (by omega)
    refine ⟨H4, e4, cond_dec (fun h0 => ?_) (fun h0 => next fun h => by omega)⟩
    refine ⟨_, _, _, cell_of (g4.get _ _ id b2) rfl, ?_⟩
    intro t25 e25
    rw [wrap_i64 (by omega) (by omega)] at e25
    subst e25
    have hpp : ((p : Int) - 1).toNat = p - 1 := by omega
    obtain ⟨_, d1, _⟩ := (G2.grow loc_vtx g4).nth (k := p - 1) (by omega)
    refine grd_intro hs ⟨by omega, by omega, _, by rw [hpp]; exact d1, _, cell_of b4 rfl, cond_dec (fun h1 => ⟨?_, gg.trans g4⟩) (fun h1 => next fun _ => by omega)⟩
    have hbad : ¬ Steps1 G := by
      intro h2
      have hp' : p - 1 + 1 = p := by omega
      have := h2 (p - 1) (by omega)
      simp only [hp'] at this
      omega
    rw [chk, if_pos (.inr hbad)]
  · have hsteps : Steps1 G := fun k hk => hst k hk (by omega)
    have hnb := nE_bound hf.e
    have hn1 : nE G ≤ 4611686018427387904 := by
      have : G.length * 140737488355328 ≤ 256 * 140737488355328 := Nat.mul_le_mul_right _ (by omega)
      omega
    refine ⟨_, _, _, cell_of b2 rfl, (gcount_ok g2.ok G2 (fun b hb => by have := hF b hb; have := gg.next; omega) hf hn1).mono ?_⟩
    rintro _ H5 ⟨rfl, g5⟩
    have b5 := g5.get _ _ id b2
    refine ⟨_, rfl, cond_dec (fun h1 => ⟨?_, gg.trans g5⟩) (fun h2048 => ?_)⟩
    · rw [chk, if_neg, if_pos (.inl (by omega))]
      simp only [not_or, Classical.not_not]; exact ⟨by omega, hsteps⟩
    have bad : ∀ {i : Nat} (hi : i < G.length), ¬ EsOk G G[i].edges → chk G = 31 := by
      intro i hi hb
      have h2 : ¬ EdgesOk G := fun h => hb fun k hk => by
        have := h i k hi hk
        exact ⟨this.1, fun h0 => this.2 h0⟩
      rw [chk, if_neg, if_pos (.inr h2)]
      · simp only [not_or, Classical.not_not]; exact ⟨by omega, hsteps⟩
    refine ⟨_, _, _, cell_of b5 rfl, ?_⟩
    have gg5 := gg.trans g5
    refine ⟨fun n _ i Hx => ∃ p : Nat, i = p ∧ p ≤ l ∧ n = l - p ∧ Grow H5 Hx ∧ ∀ k (h : k < G.length), k < p → EsOk G G[k].edges, ⟨_, 0, rfl, by omega, rfl, .refl g5.ok, fun k _ h => by omega⟩, ?_⟩
    rintro n t2 i H6 ⟨q, rfl, hq, rfl, g6, hes⟩
    have gg6 := gg5.trans g6
    have b6 := g6.get _ _ id b5
    have G6 := hG.grow loc_vtx gg6
    refine cond_dec (fun hlt => ?_) (fun hge2 => ?_)
    · have hk : q < G.length := by omega
      obtain ⟨hs, c1, c2, ea, el, ec, c3, c4⟩ := G6.nth hk
      have hel := c4.len
      have hfe := hf.at hk
      refine grd_intro hs ⟨by omega, by omega, _, _, ea, el, ec, c1, c2, c3, ?_⟩
      intro H7 e7
      obtain ⟨H8, e8, b8, g8, n8⟩ := fresh_store (vs := [.int .i64 G[q].id, .int .i64 G[q].val, .slice ea el ec]) e7 rfl rfl gg6.ok
      refine ⟨H8, e8, _, _, _, cell_of (g8.get _ _ id b6) rfl, _, _, _, _, _, cell_of b8 rfl, cell_of b8 rfl, cell_of b8 rfl, (gedges_ok g8.ok (G6.grow loc_vtx g8) (by omega) (c4.grow loc_edge g8) (by omega) hsteps.rising).mono ?_⟩
      rintro _ H9 ⟨bb, rfl, k1, k2, g9⟩
      refine ⟨_, rfl, cond_intro (fun hb => ⟨by rw [bad hk (k2 (by simpa using hb))], (gg6.trans g8).trans g9⟩) (fun hb => ?_)⟩
      have hgood := k1 (by simpa using hb)
      intro t48 e48
      rw [wrap_i64 (by omega) (by omega)] at e48
      subst e48
      refine ⟨l - (q + 1), by omega, q + 1, by simp, by omega, rfl, (g6.trans g8).trans g9, fun k hk2 hkq => ?_⟩
      rcases Nat.lt_or_ge k q with h3 | h3
      · exact hes k hk2 h3
      · have : k = q := by omega
        subst this; exact hgood
    · refine ⟨?_, gg6⟩
      rw [chk, if_neg, if_neg]
      · simp only [not_or, Classical.not_not]
        exact ⟨by omega, fun i k hi hk => ⟨(hes i hi (by omega) k hk).1, fun h0 => (hes i hi (by omega) k hk).2 h0⟩⟩
      · simp only [not_or, Classical.not_not]; exact ⟨by omega, hsteps⟩
end Go.Proofs.Cx
