/-   Graphs: what may be; plain facts. The reference's graph functions. A graph as the document has it. graph.All: all edges, one behind the other. Numbers as bytes: the plain law. wire: numbers, writers, readers. wire: readers. Reading, as functions: numbers, texts, graphs, jobs; what is written is read. -/
import Derived.Test.YtkkcknfeljgdcaaGreatB2
import Derived.Test.YtkkcknfeljgdcaaGreatVc1
namespace Go.Ev
open Go

/-! graphs as the memory has them -/
structure Vtx where
  id : Int
  val : Int
  edges : List (Int × Int)
def PEdge (H : AH) (b o : Nat) (e : Int × Int) : Prop := H.cell b o = some (.int .i64 e.1) ∧ H.cell b (o + 1) = some (.int .i64 e.2)
def PVtx (F : Nat → Prop) (H : AH) (b o : Nat) (v : Vtx) : Prop :=
  H.cell b o = some (.int .i64 v.id) ∧ H.cell b (o + 1) = some (.int .i64 v.val) ∧ ∃ ea el ec, H.cell b (o + 2) = some (.slice ea el ec) ∧ Sl F H 2 PEdge ea el v.edges
abbrev SlV (F : Nat → Prop) (H : AH) (a : Option Addr) (l : Nat) (G : List Vtx) : Prop := Sl F H 3 (PVtx F) a l G
abbrev SlI (F : Nat → Prop) (H : AH) (a : Option Addr) (l : Nat) (xs : List Int) : Prop := Sl F H 1 (PInt .i64) a l xs

/-- the place of a number, or where it would stand -/
def fnd : List Vtx → Int → Nat
  | [], _ => 0
  | v :: l, t => if v.id < t then fnd l t + 1 else 0
def isIn (G : List Vtx) (t : Int) : Bool := match G[fnd G t]? with
  | some v => v.id == t
  | none => false
structure IsPos (G : List Vtx) (t : Int) (p : Nat) : Prop where
  le : p ≤ G.length
  low : ∀ k (h : k < G.length), k < p → G[k].id < t
  high : ∀ (h : p < G.length), t ≤ G[p].id
end Go.Ev

namespace Go.Proofs.Cx
open Go Go.Ev

end Go.Proofs.Cx

namespace Go.Ev
open Go

def nE : List Vtx → Nat
  | [] => 0
  | v :: l => v.edges.length + nE l
theorem nE_append : ∀ (a b : List Vtx), nE (a ++ b) = nE a + nE b
  | [], b => by simp [nE]
  | v :: a, b => by simp [nE, nE_append a b]; omega
theorem nE_take {G : List Vtx} {k : Nat} (h : k < G.length) : nE (G.take (k + 1)) = nE (G.take k) + G[k].edges.length := by
  rw [List.take_succ_eq_append_getElem h, nE_append]; simp [nE]
theorem nE_take_le (G : List Vtx) (k : Nat) : nE (G.take k) ≤ nE G := by
  have h := nE_append (G.take k) (G.drop k)
  rw [List.take_append_drop] at h
  omega
structure Fit (G : List Vtx) : Prop where
  n : G.length * 40 ≤ 140737488355328
  e : ∀ v ∈ G, v.edges.length * 16 ≤ 140737488355328
theorem Fit.at {G : List Vtx} (h : Fit G) {k : Nat} (hk : k < G.length) : G[k].edges.length * 16 ≤ 140737488355328 := h.e _ (List.getElem_mem _)
def Steps1 (G : List Vtx) : Prop := ∀ i (h : i + 1 < G.length), G[i].id < G[i + 1].id
def EdgeOk (G : List Vtx) (i k : Nat) : Prop := ∀ (hi : i < G.length) (hk : k < G[i].edges.length), isIn G (G[i].edges[k]).1 = true ∧ (∀ (h0 : 0 < k), (G[i].edges[k - 1]'(by omega)).1 < (G[i].edges[k]).1)
def EdgesOk (G : List Vtx) : Prop := ∀ i k, EdgeOk G i k
open Classical in
noncomputable def chk (G : List Vtx) : Int := if 256 < G.length ∨ ¬ Steps1 G then 30 else if 2048 < nE G ∨ ¬ EdgesOk G then 31 else 0
structure May (G : List Vtx) : Prop where
  len : G.length ≤ 256
  steps : Steps1 G
  many : nE G ≤ 2048
  edges : EdgesOk G
theorem chk_zero {G : List Vtx} : chk G = 0 ↔ May G := by
  unfold chk
  constructor
  · intro h
    split at h
    · cases h
    · split at h
      · cases h
      · rename_i h1 h2
        simp only [not_or, Classical.not_not] at h1 h2
        exact ⟨by omega, h1.2, by omega, h2.2⟩
  · intro h
    rw [if_neg, if_neg]
    · simp only [not_or, Classical.not_not]; exact ⟨by have := h.many; omega, h.edges⟩
    · simp only [not_or, Classical.not_not]; exact ⟨by have := h.len; omega, h.steps⟩
end Go.Ev

namespace Go.Proofs.Cx
open Go Go.Ev

end Go.Proofs.Cx

namespace Go.Proofs.Cx
open Go Go.Ev

end Go.Proofs.Cx

namespace Go.Ev
open Go
end Go.Ev
namespace Go.Proofs.Cx
open Go Go.Ev

end Go.Proofs.Cx

namespace Go.Ev
open Go

theorem u8_of {n : Nat} (h : n < 256) : (UInt8.ofNat n).toNat = n := by
  rw [UInt8.toNat_ofNat']; exact Nat.mod_eq_of_lt h
theorem u8_to (b : UInt8) : UInt8.ofNat b.toNat = b := UInt8.ofNat_toNat
/-- a number's bytes: seven bits in each, the last one below 128 -/
def enc (n : Nat) : List UInt8 := if n < 128 then [UInt8.ofNat n] else UInt8.ofNat (n % 128 + 128) :: enc (n / 128)
termination_by n
decreasing_by omega
theorem enc_lo {n : Nat} (h : n < 128) : enc n = [UInt8.ofNat n] := by rw [enc, if_pos h]
theorem enc_hi {n : Nat} (h : 128 ≤ n) : enc n = UInt8.ofNat (n % 128 + 128) :: enc (n / 128) := by rw [enc, if_neg (by omega)]
theorem enc_cons (n : Nat) : ∃ b l, enc n = b :: l := by
  by_cases h : n < 128
  · exact ⟨_, _, enc_lo h⟩
  · exact ⟨_, _, enc_hi (by omega)⟩
/-! ### A number that is read -/
/-- what is known when i bytes were taken that say n -/
structure NumI (l : List UInt8) (i n : Nat) : Prop where
  lt : n < 128 ^ i
  out : ∀ v, (i = 0 ∨ 0 < v) → enc (n + v * 128 ^ i) = l.take i ++ enc v
  inn : ∀ m t, l = enc m ++ t → ∃ v, (i = 0 ∨ 0 < v) ∧ m = n + v * 128 ^ i ∧ l.drop i = enc v ++ t
  le : i ≤ l.length
theorem NumI.start (l : List UInt8) : NumI l 0 0 :=
  ⟨by simp, fun v _ => by simp, fun m t h => ⟨m, .inl rfl, by simp, by simpa using h⟩, by omega⟩
theorem NumI.next {l : List UInt8} {i n : Nat} (h : NumI l i n) (hi : i < l.length) (hb : 128 ≤ l[i].toNat) : NumI l (i + 1) (n + (l[i].toNat - 128) * 128 ^ i) := by
  have hlt := h.lt
  have hb2 := l[i].toNat_lt
  obtain ⟨P, hP⟩ : ∃ P, P = 128 ^ i := ⟨_, rfl⟩
  have hP1 : 128 ^ (i + 1) = P * 128 := by rw [Nat.pow_succ, hP]
  have hout := h.out
  have hinn := h.inn
  rw [← hP] at hlt hout hinn
  rw [← hP]
  refine ⟨?_, fun v hv => ?_, fun m t e => ?_, by omega⟩
  · have := Nat.mul_le_mul_right P (show l[i].toNat - 128 ≤ 127 by omega)
    rw [hP1]; omega
  · have hv : 0 < v := by omega
    rw [hP1]
    have e1 : n + (l[i].toNat - 128) * P + v * (P * 128) = n + ((l[i].toNat - 128) + 128 * v) * P := by
      rw [Nat.add_mul, Nat.mul_comm P 128, ← Nat.mul_assoc, Nat.mul_comm v 128]; omega
    rw [e1, hout _ (.inr (by omega)), enc_hi (by omega), List.take_succ_eq_append_getElem hi, List.append_assoc]
    congr 1
    rw [show ((l[i].toNat - 128) + 128 * v) % 128 + 128 = l[i].toNat from by omega, show ((l[i].toNat - 128) + 128 * v) / 128 = v from by omega, u8_to]
    rfl
  · obtain ⟨v, hv, h1, h2⟩ := hinn m t e
    rw [List.drop_eq_getElem_cons hi] at h2
    by_cases hv2 : v < 128
    · rw [enc_lo hv2] at h2
      simp only [List.cons_append, List.nil_append, List.cons.injEq] at h2
      have e := congrArg UInt8.toNat h2.1
      rw [u8_of (by omega)] at e
      omega
    · rw [enc_hi (by omega)] at h2
      simp only [List.cons_append, List.cons.injEq] at h2
      have e := congrArg UInt8.toNat h2.1
      rw [u8_of (by omega)] at e
      refine ⟨v / 128, .inr (by omega), ?_, h2.2⟩
      rw [hP1, h1, e]
      have e3 : v = (v % 128 + 128 - 128) + 128 * (v / 128) := by omega
      have e2 : v * P = (v % 128 + 128 - 128) * P + v / 128 * (P * 128) := by
        conv => lhs; rw [e3]
        rw [Nat.add_mul, Nat.mul_comm P 128, ← Nat.mul_assoc, Nat.mul_comm (v / 128) 128]
      omega
theorem NumI.cut {l : List UInt8} {i n : Nat} (h : NumI l i n) (hi : l.length ≤ i) (m : Nat) (t : List UInt8) : l ≠ enc m ++ t := by
  intro e
  obtain ⟨v, _, _, h2⟩ := h.inn m t e
  rw [List.drop_of_length_le hi] at h2
  obtain ⟨b, r, e2⟩ := enc_cons v
  rw [e2] at h2; simp at h2
theorem NumI.first {l : List UInt8} {i n : Nat} (h : NumI l i n) (hi : i < l.length) {m : Nat} {t : List UInt8} (e : l = enc m ++ t) : ∃ v, (i = 0 ∨ 0 < v) ∧ m = n + v * 128 ^ i ∧ (l[i].toNat = v ∨ 128 ≤ v ∧ 128 ≤ l[i].toNat) := by
  obtain ⟨v, hv, h1, h2⟩ := h.inn m t e
  rw [List.drop_eq_getElem_cons hi] at h2
  refine ⟨v, hv, h1, ?_⟩
  by_cases hv2 : v < 128
  · rw [enc_lo hv2] at h2
    simp only [List.cons_append, List.nil_append, List.cons.injEq] at h2
    have e := congrArg UInt8.toNat h2.1
    rw [u8_of (by omega)] at e
    exact .inl e
  · rw [enc_hi (by omega)] at h2
    simp only [List.cons_append, List.cons.injEq] at h2
    have e := congrArg UInt8.toNat h2.1
    rw [u8_of (by omega)] at e
    exact .inr ⟨by omega, by omega⟩
theorem NumI.zero {l : List UInt8} {i n : Nat} (h : NumI l i n) (hi : i < l.length) (hb : l[i].toNat = 0) (h0 : 0 < i) (m : Nat) (t : List UInt8) : l ≠ enc m ++ t := by
  intro e
  obtain ⟨v, hv, _, h2⟩ := h.first hi e
  omega
/-! ### Words of bits -/
theorem ofInt_nat (w n : Nat) : BitVec.ofInt w (n : Int) = BitVec.ofNat w n := BitVec.ofInt_natCast w n
/-! ### Numbers with a sign -/
def unfold_ (n : Nat) : Int := if n % 2 = 0 then ((n / 2 : Nat) : Int) else -((n / 2 : Nat) : Int) - 1
end Go.Ev

namespace Go.Ev
open Go
def u8c (c : UInt8) : Value := .int .u8 (c.toNat : Int)
theorem off_not {a : Option Addr} {b : Nat} (h : ¬ Off a b) : ∃ x, a = some x ∧ x.block = b := by
  cases a with
  | none => exact (h fun x e => by cases e).elim
  | some x =>
    by_cases e : x.block = b
    · exact ⟨x, rfl, e⟩
    · exact (h fun y ey => by cases ey; exact e).elim
theorem own_lt {H : AH} {sz l c : Nat} {a : Option Addr} {cs : List Value} (h : Own H sz a l c cs) (ok : Ok H) {x : Addr} (e : a = some x) : x.block < H.next := by
  rcases h.st with ⟨h1, _⟩ | ⟨b, h1, _, _, h4⟩ | ⟨b, h1, _, h4⟩
  · rw [h1] at e; cases e
  · rw [h1] at e; cases e; exact ok.lt h4
  · rw [h1] at e; cases e; exact ok.lt h4
/-- a writer: its bytes, its own from n0 on -/
def Wr (H : AH) (n0 b : Nat) (bs : List UInt8) : Prop :=
  n0 ≤ b ∧ ∃ a l c, H.get b = some (.cells [.slice a l c] 0) ∧ Own H 1 a l c (bs.map u8c) ∧ ∀ x, a = some x → n0 ≤ x.block ∧ x.block ≠ b
theorem Wr.mod {S : Nat → Prop} {H H' : AH} {n0 b : Nat} {bs : List UInt8} (h : Wr H n0 b bs) (hm : Mod S H H') (hs : ∀ x, S x → x < n0) : Wr H' n0 b bs := by
  obtain ⟨h0, a, l, c, h1, h2, h3⟩ := h
  exact ⟨h0, a, l, c, hm.get _ _ (fun hb => by have := hs _ hb; omega) h1, h2.mod hm (fun x hx y ey e => by have := hs _ hx; have := (h3 y ey).1; omega), h3⟩
theorem Wr.grow {H H' : AH} {n0 b : Nat} {bs : List UInt8} (h : Wr H n0 b bs) (hm : Grow H H') : Wr H' n0 b bs := h.mod hm fun _ h => h.elim
/-- what a writer may change -/
def WrS (H : AH) (b x : Nat) : Prop := x = b ∨ ∃ a l c, H.get b = some (.cells [.slice a l c] 0) ∧ ¬ Off a x
theorem WrS.of {H H' : AH} {b x : Nat} {o : AObj} (h : H.get b = some o) (h' : H'.get b = some o) (k : WrS H' b x) : WrS H b x := by
  rcases k with k | ⟨a, l, c, e, ho⟩
  · exact .inl k
  · exact .inr ⟨a, l, c, h.trans (h'.symm.trans e), ho⟩
theorem Wr.low {H : AH} {n0 b x : Nat} {bs : List UInt8} (h : Wr H n0 b bs) (k : WrS H b x) : n0 ≤ x := by
  obtain ⟨h0, a, l, c, h1, h2, h3⟩ := h
  rcases k with rfl | ⟨a', l', c', e, ho⟩
  · exact h0
  · rw [h1] at e
    cases e
    obtain ⟨y, ey, rfl⟩ := off_not ho
    exact (h3 y ey).1
theorem Wr.lt {H : AH} {n0 b x : Nat} {bs : List UInt8} (ok : Ok H) (h : Wr H n0 b bs) (k : WrS H b x) : x < H.next := by
  obtain ⟨h0, a, l, c, h1, h2, h3⟩ := h
  rcases k with rfl | ⟨a', l', c', e, ho⟩
  · exact ok.lt h1
  · rw [h1] at e
    cases e
    obtain ⟨y, ey, rfl⟩ := off_not ho
    exact own_lt h2 ok ey
/-- what was not the writer's before is not now, when only new things were made -/
theorem Wr.old {H H' : AH} {n0 b x : Nat} {bs : List UInt8} (h : Wr H n0 b bs) (g : Grow H H') (k : WrS H' b x) : WrS H b x := by
  obtain ⟨_, a, l, c, h1, _⟩ := h
  exact k.of h1 (g.get _ _ id h1)
/-! readers -/
def Rd (H : AH) (b : Nat) (s : List UInt8) (p : Nat) (e : Int) : Prop := H.get b = some (.cells [.string ⟨⟨s⟩⟩, .int .i64 (p : Int), .int .i64 e] 0)
end Go.Ev
namespace Go.Proofs.Cx
open Go Go.Ev

/-! writers -/
/-! the document's numbers -/
end Go.Proofs.Cx

namespace Go.Ev
open Go
theorem Rd.set {H : AH} {b : Nat} {s : List UInt8} {p : Nat} {e : Int} (ok : Ok H) (h : Rd H b s p e) (p' : Nat) : ∃ H', storeCellsv H b 1 [.int .i64 (p' : Int)] = some H' ∧ Rd H' b s p' e ∧ Mod (· = b) H H' := by
  refine ⟨_, store_of (o := 1) h (by simp) rfl, ?_, Mod.set ok h _⟩
  exact get_set_self _ _ _
theorem Rd.err {H : AH} {b : Nat} {s : List UInt8} {p : Nat} {e : Int} (ok : Ok H) (h : Rd H b s p e) (e' : Int) : ∃ H', storeCellsv H b 2 [.int .i64 e'] = some H' ∧ Rd H' b s p e' ∧ Mod (· = b) H H' := by
  refine ⟨_, store_of (o := 2) h (by simp) rfl, ?_, Mod.set ok h _⟩
  exact get_set_self _ _ _
theorem Rd.mod {S : Nat → Prop} {H H' : AH} {b : Nat} {s : List UInt8} {p : Nat} {e : Int} (h : Rd H b s p e) (hm : Mod S H H') (hs : ¬ S b) : Rd H' b s p e := hm.get _ _ hs h
end Go.Ev
namespace Go.Proofs.Cx
open Go Go.Ev

section
variable {H : AH} {b : Nat} {s : List UInt8} {p : Nat} {e : Int}
end
end Go.Proofs.Cx

namespace Go.Ev
open Go
/-- a number's reading from the byte i on: the error, the number, how many bytes -/
def scan (l : List UInt8) : Nat → Nat → Nat → Nat × Nat × Nat
  | 0, _, _ => (6, 0, 0)
  | k + 1, i, n => match l[i]? with
    | none => (4, 0, 0)
    | some b => if (i = 9 ∧ 1 < b.toNat) ∨ (0 < i ∧ b.toNat = 0) then (6, 0, 0)
      else if b.toNat < 128 then (0, n + b.toNat * 128 ^ i, i + 1)
      else scan l k (i + 1) (n + (b.toNat - 128) * 128 ^ i)
/-! what stands at a place: the place, the error -/
abbrev RSt := Nat × Int
def rNum (s : List UInt8) (q : RSt) : Nat × RSt := if q.2 ≠ 0 then (0, q) else if (scan (s.drop q.1) 10 0 0).1 = 0 then ((scan (s.drop q.1) 10 0 0).2.1, (q.1 + (scan (s.drop q.1) 10 0 0).2.2, 0)) else (0, (q.1, ((scan (s.drop q.1) 10 0 0).1 : Int)))
def rSig (s : List UInt8) (q : RSt) : Int × RSt := (unfold_ (rNum s q).1, (rNum s q).2)
def rCnt (s : List UInt8) (m : Nat) (q : RSt) : Nat × RSt := if (rNum s q).2.2 ≠ 0 then (0, (rNum s q).2) else if m < (rNum s q).1 then (0, (q.1, 5)) else rNum s q
def rTxt (s : List UInt8) (q : RSt) : List UInt8 × RSt := if (rNum s q).2.2 ≠ 0 then ([], (rNum s q).2) else if s.length - (rNum s q).2.1 < (rNum s q).1 then ([], (q.1, 4)) else ((s.drop (rNum s q).2.1).take (rNum s q).1, ((rNum s q).2.1 + (rNum s q).1, 0))
def rMany {α : Type} (one : RSt → α × RSt) : Nat → RSt → List α × RSt
  | 0, q => ([], q)
  | n + 1, q => if q.2 ≠ 0 then ([], q) else ((one q).1 :: (rMany one n (one q).2).1, (rMany one n (one q).2).2)
def rPair (s : List UInt8) (q : RSt) : (Int × Int) × RSt := (((rSig s q).1, (rSig s (rSig s q).2).1), (rSig s (rSig s q).2).2)
def rVtx (s : List UInt8) (q : RSt) : Vtx × RSt :=
  let a := rSig s q
  let b := rSig s a.2
  let n := rCnt s 2048 b.2
  let es := rMany (rPair s) n.1 n.2
  (⟨a.1, b.1, es.1⟩, es.2)
noncomputable def rGraph (s : List UInt8) (q : RSt) : List Vtx × RSt :=
  let n := rCnt s 256 q
  let vs := rMany (rVtx s) n.1 n.2
  (vs.1, if vs.2.2 = 0 then (vs.2.1, chk vs.1) else vs.2)

/-! jobs -/
structure JobW where
  prog : List UInt8
  graph : List Vtx
  params : List Int
  steps : Int
  sent : Int
  parts : Int
def progs : List (List UInt8) := [[98, 102, 115], [99, 99], [99, 111, 108, 111, 114, 115], [100, 101, 103, 114, 101, 101], [107, 99, 111, 114, 101], [108, 97, 98, 101, 108, 115], [109, 97, 116, 99, 104, 105, 110, 103], [112, 97, 103, 101, 114, 97, 110, 107], [115, 115, 115, 112], [116, 114, 105, 97, 110, 103, 108, 101, 115]]
def pBfs : List UInt8 := [98, 102, 115]
def pSssp : List UInt8 := [115, 115, 115, 112]
def pRank : List UInt8 := [112, 97, 103, 101, 114, 97, 110, 107]
def pLab : List UInt8 := [108, 97, 98, 101, 108, 115]
def pCore : List UInt8 := [107, 99, 111, 114, 101]
def NoNeg (G : List Vtx) : Prop := ∀ (i k : Nat) (hi : i < G.length) (hk : k < G[i].edges.length), 0 ≤ (G[i].edges[k]).2
def Turns1 (most : Int) (ps : List Int) : Prop := ∃ x, ps = [x] ∧ 0 ≤ x ∧ x ≤ most
def Src (G : List Vtx) (ps : List Int) : Prop := ∃ x, ps = [x] ∧ isIn G x = true
open Classical in
/-- parameters of a known program -/
noncomputable def pchk (p : List UInt8) (G : List Vtx) (ps : List Int) : Int :=
  if p = pBfs then (if Src G ps then 0 else 71)
  else if p = pSssp then (if Src G ps ∧ NoNeg G then 0 else 71)
  else if p = pRank ∨ p = pLab then (if Turns1 100 ps then 0 else 71)
  else if p = pCore then (if Turns1 256 ps then 0 else 71)
  else if p ∈ progs then (if ps = [] then 0 else 71) else 70
open Classical in
noncomputable def jchk (j : JobW) : Int :=
  if j.prog ∉ progs then 70 else if chk j.graph ≠ 0 then chk j.graph else if 4 < j.params.length then 71 else if pchk j.prog j.graph j.params ≠ 0 then pchk j.prog j.graph j.params
  else if j.steps < 1 ∨ 1000 < j.steps ∨ j.sent < 0 ∨ 65536 < j.sent ∨ j.parts < 1 ∨ 16 < j.parts then 90 else 0
noncomputable def rJob (s : List UInt8) (q : RSt) : JobW × RSt :=
  let t := rTxt s q
  let g := rGraph s t.2
  let n := rCnt s 4 g.2
  let ps := rMany (rSig s) n.1 n.2
  let a := rCnt s 1000 ps.2
  let b := rCnt s 65536 a.2
  let c := rCnt s 16 b.2
  (⟨t.1, g.1, ps.1, a.1, b.1, c.1⟩, if c.2.2 = 0 then (c.2.1, jchk ⟨t.1, g.1, ps.1, a.1, b.1, c.1⟩) else c.2)
def rEnd (s : List UInt8) (q : RSt) : Int := if q.2 = 0 ∧ q.1 < s.length then 5 else q.2

/-! what is known of what was read -/
def PairI (e : Int × Int) : Prop := I64 e.1 ∧ I64 e.2
structure VtxI (v : Vtx) : Prop where
  id : I64 v.id
  val : I64 v.val
  len : v.edges.length ≤ 2048
  edges : ∀ e ∈ v.edges, PairI e
structure GraphI (G : List Vtx) : Prop where
  len : G.length ≤ 256
  each : ∀ v ∈ G, VtxI v
structure JobI (j : JobW) : Prop where
  graph : GraphI j.graph
  params : j.params.length ≤ 4
  each : ∀ x ∈ j.params, I64 x
  steps : 0 ≤ j.steps ∧ j.steps ≤ 1000
  sent : 0 ≤ j.sent ∧ j.sent ≤ 65536
  parts : 0 ≤ j.parts ∧ j.parts ≤ 16
/-! what is written is read -/
theorem jchk_zero {j : JobW} (h : jchk j = 0) : j.prog ∈ progs ∧ chk j.graph = 0 ∧ j.params.length ≤ 4 ∧ pchk j.prog j.graph j.params = 0 ∧ 1 ≤ j.steps ∧ j.steps ≤ 1000 ∧ 0 ≤ j.sent ∧ j.sent ≤ 65536 ∧ 1 ≤ j.parts ∧ j.parts ≤ 16 := by
  unfold jchk at h
  split at h
  · cases h
  · rename_i h1
    split at h
    · rename_i h2; exact (h2 h).elim
    · rename_i h2
      split at h
      · cases h
      · rename_i h3
        split at h
        · rename_i h4; exact (h4 h).elim
        · rename_i h4
          split at h
          · cases h
          · rename_i h5
            exact ⟨Classical.not_not.1 h1, Classical.not_not.1 h2, by omega, Classical.not_not.1 h4, by omega, by omega, by omega, by omega, by omega, by omega⟩
end Go.Ev
