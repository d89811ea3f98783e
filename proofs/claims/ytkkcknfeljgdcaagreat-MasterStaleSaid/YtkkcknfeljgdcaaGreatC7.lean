/- MasterNil: what a new master does with a command. Readers of any bytes: what they take stands there in its one form. MasterBytes: commands as bytes. MasterBytes: any bytes are all that was agreed on, or are refused. -/
import Derived.Test.YtkkcknfeljgdcaaGreatC6
import Derived.Test.YtkkcknfeljgdcaaGreatVc3
namespace Go.Proofs.Cx
open Go Go.Ev
section
variable {H : AH} {n0 L : Nat}
theorem yw_count_any {n1 b : Nat} {x : Int} {bs : List UInt8} (ok : Ok H) (h : Wr H n1 b bs) (hs : bs.length ≤ 140737488355000) :
    FW Ee F_wire_Writer_Count [.pointer (some ⟨b, 0, none⟩), .int .i64 x] H fun r H' => r = .tuple ⟨[]⟩ ∧ (∃ n, n < 18446744073709551616 ∧ Wr H' n1 b (bs ++ enc n)) ∧ WrX H b H' := by
  refine fw_wire_Writer_Count ?_
  intro t7 e7
  obtain ⟨n, e, hn⟩ := u64_range (if (0 : Int) > x then 0 else x)
  rw [e] at e7
  subst e7
  refine (yw_number ok h hn hs).mono ?_
  rintro _ H2 ⟨rfl, h1, h2⟩
  exact ⟨rfl, rfl, ⟨n, hn, h1⟩, h2⟩
theorem replyText_ok {x y : Int} (ok : Ok H) : FW Ee F_master_replyText [.agg ⟨[.int .i64 x, .int .i64 y]⟩] H fun r H' => ∃ s, r = .string ⟨⟨s⟩⟩ ∧ s.length ≤ 20 ∧ Grow H H' := by
  refine fw_master_replyText ?_
  intro H1 e1
  obtain ⟨g1, p1, n1⟩ := new_job ok e1
  refine (newwriter_ok g1.ok).mono ?_
  rintro _ H2 ⟨rfl, w2, g2⟩
  refine ⟨_, rfl, _, cell_of (g2.get _ _ not_false p1) rfl, (yw_count_any g2.ok w2 (by simp)).mono ?_⟩
  rintro _ H3 ⟨rfl, ⟨a, ha, w3⟩, x3⟩
  have la := enc_len64 ha
  have low : ∀ x, WrS H2 H1.next x → H1.next ≤ x := fun x hx => w2.low hx
  have p3 := x3.mod.get _ _ (fun hb => by have := low _ hb; omega) (g2.get _ _ not_false p1)
  refine ⟨rfl, _, cell_of p3 rfl, (yw_count_any x3.mod.ok w3 (by simp; omega)).mono ?_⟩
  rintro _ H4 ⟨rfl, ⟨b, hb, w4⟩, x4⟩
  have lb := enc_len64 hb
  refine ⟨rfl, (wall_ok w4).mono ?_⟩
  rintro _ _ ⟨rfl, rfl⟩
  have x24 := x3.trans g2.ok x4
  refine ⟨_, rfl, _, rfl, by simp; omega, ((g1.trans g2).ext x24.mod ok fun x hx => .inr ?_)⟩
  have := low x hx; omega
theorem replyOf_ok {s : List UInt8} (hs : s.length ≤ 4611686018427387904) (ok : Ok H) : FW Ee F_master_replyOf [.string ⟨⟨s⟩⟩] H fun r H' => ∃ x y, r = .agg ⟨[.int .i64 x, .int .i64 y]⟩ ∧ Grow H H' := by
  refine fw_master_replyOf ?_
  intro H1 e1
  obtain ⟨g1, p1, n1⟩ := new_job ok e1
  refine (newreader_ok g1.ok).mono ?_
  rintro _ H2 ⟨rfl, r2, g2⟩
  have q2 : AtOk s (0, 0) := Nat.zero_le _
  refine ⟨_, rfl, (xcnt_ok (q := (0, 0)) 2147483647 (by omega) g2.ok r2 q2 hs).mono ?_⟩
  rintro _ H3 ⟨rfl, r3, m3⟩
  refine ⟨_, rfl, (xcnt_ok 2147483647 (by omega) m3.ok r3 (rCnt_ok q2).1 hs).mono ?_⟩
  rintro _ H4 ⟨rfl, r4, m4⟩
  have p4 := (m3.trans m4).get _ _ (show ¬ H.next = H1.next by omega) (g2.get _ _ not_false p1)
  have d5 := Mod.set m4.ok p4 (.cells (lset [.int .i64 0, .int .i64 0] 0 [.int .i64 ((rCnt s 2147483647 (0, 0)).1 : Int), .int .i64 ((rCnt s 2147483647 (rCnt s 2147483647 (0, 0)).2).1 : Int)]) 0)
  have b5 := get_set_self H4 H.next (.cells (lset [.int .i64 0, .int .i64 0] 0 [.int .i64 ((rCnt s 2147483647 (0, 0)).1 : Int), .int .i64 ((rCnt s 2147483647 (rCnt s 2147483647 (0, 0)).2).1 : Int)]) 0)
  refine ⟨_, rfl, _, store_of (o := 0) p4 (by simp) rfl, _, _, cell_of b5 rfl, cell_of b5 rfl, _, _, rfl, ?_⟩
  exact ((g1.trans g2).ext (m3.trans m4) ok fun x hx => .inr (by omega)).ext d5 ok fun x hx => .inr (by omega)
theorem look1_ok {e : Int} : FW Ee F_sess_Table_Look_1 [.int .i64 e] H fun r H' => r = .tuple ⟨[.string ⟨⟨[]⟩⟩, .bool false, .int .i64 e]⟩ ∧ H = H' := by
  refine fw_sess_Table_Look_1 ?_
  exact ⟨rfl, rfl⟩
end
end Go.Proofs.Cx

namespace Go.Ev
open Go
/-- a reader goes on behind these bytes, if it stands -/
def Tk (s : List UInt8) (q q' : RSt) (bs : List UInt8) : Prop := AtOk s q' ∧ (q'.2 = 0 → q.2 = 0 ∧ q'.1 = q.1 + bs.length ∧ s.drop q.1 = bs ++ s.drop q'.1)
theorem Tk.refl {s : List UInt8} {q : RSt} (h : AtOk s q) : Tk s q q [] := ⟨h, fun e => ⟨e, by simp, by simp⟩⟩
theorem Tk.trans {s : List UInt8} {q q1 q2 : RSt} {a b : List UInt8} (h : Tk s q q1 a) (k : Tk s q1 q2 b) : Tk s q q2 (a ++ b) := by
  refine ⟨k.1, fun e => ?_⟩
  obtain ⟨k1, k2, k3⟩ := k.2 e
  obtain ⟨h1, h2, h3⟩ := h.2 k1
  exact ⟨h1, by rw [List.length_append]; omega, by rw [h3, k3, List.append_assoc]⟩
theorem Tk.any {s : List UInt8} {q q' q1 : RSt} {a b : List UInt8} (h : Tk s q q' a) (h1 : q1.1 = q'.1) (h2 : q1.2 ≠ 0) : Tk s q q1 b := ⟨by unfold AtOk; rw [h1]; exact h.1, fun e => absurd e h2⟩
theorem Tk.vac {s : List UInt8} {q q' : RSt} {a b : List UInt8} (h : Tk s q q' a) (h2 : q'.2 ≠ 0) : Tk s q q' b := ⟨h.1, fun e => absurd e h2⟩
end Go.Ev
namespace Go.Proofs.Cx
open Go Go.Ev
section
variable {H : AH} {b : Nat} {s : List UInt8} {q : RSt}
end
end Go.Proofs.Cx

namespace Go.Ev
open Go
/-- a number that is a count -/
def Cn (x : Int) : Prop := 0 ≤ x ∧ x ≤ 2147483647
end Go.Ev
namespace Go.Proofs.Cx
open Go Go.Ev
section
variable {H : AH} {b n0 : Nat} {bs : List UInt8}
/-- what is told of a command's reading -/
structure CmdT (s : List UInt8) (n : Nat) (H' : AH) (kd se sq : Int) (t : List UInt8) (jd wk li : Int) (f : Nat → Int) (h : Nat → Bool) (v : Nat → Int) (a : Option Addr) (l : Nat) (vs : List (Int × Int)) : Prop where
  kind : 1 ≤ kd ∧ kd ≤ 5
  sess : I64 se
  cnts : Cn sq ∧ Cn jd ∧ Cn wk ∧ Cn li ∧ ∀ i, Cn (f i)
  text : t.length ≤ s.length
  vals : ∀ i, I64 (v i)
  sl : SlE (fun x => n ≤ x ∧ x < H'.next) H' a l vs
  pairs : ∀ e ∈ vs, PairI e
  few : vs.length ≤ 256
theorem st_cell {H : AH} {b o : Nat} {cs cs' w : List Value} (ok : Ok H) (hg : H.get b = some (.cells cs 0)) (ho : o + w.length ≤ cs.length) (hw : w.all oneCell = true) (e : lset cs o w = cs') :
    ∃ H', storeCellsv H b o w = some H' ∧ H'.get b = some (.cells cs' 0) ∧ Mod (· = b) H H' ∧ H'.next = H.next :=
  ⟨_, store_of (o := o) hg ho hw, by rw [get_set_self, e], Mod.set ok hg _, rfl⟩
end
end Go.Proofs.Cx

namespace Go.Ev
open Go
theorem lset_out {cs w : List Value} {o i : Nat} (h : o + w.length ≤ cs.length) (hi : i < o ∨ o + w.length ≤ i) : (lset cs o w)[i]? = cs[i]? := by
  unfold lset
  rcases hi with h1 | h1
  · rw [List.append_assoc, List.getElem?_append_left (by rw [List.length_take]; omega), List.getElem?_take, if_pos h1]
  · rw [List.getElem?_append_right (by rw [List.length_append, List.length_take]; omega), List.getElem?_drop, List.length_append, List.length_take]
    congr 1; omega
theorem lset_len {cs w : List Value} {o : Nat} (h : o + w.length ≤ cs.length) : (lset cs o w).length = cs.length := by
  unfold lset
  simp only [List.length_append, List.length_take, List.length_drop]; omega
/-- a job's cells, as far as they are read again -/
structure JC (cs : List Value) (x st : Int) (m : Option Nat) : Prop where
  len : cs.length = 50
  c0 : cs[0]? = some (.int .i64 x)
  c7 : cs[7]? = some (.int .i64 st)
  c16 : cs[16]? = some (.map m)
theorem JC.set {cs w : List Value} {x st : Int} {m : Option Nat} {o : Nat} (h : JC cs x st m) (h1 : 8 ≤ o) (h2 : o + w.length ≤ 50) (h3 : o + w.length ≤ 16 ∨ 17 ≤ o) : JC (lset cs o w) x st m := by
  have hl := h.len
  refine ⟨by rw [lset_len (by omega), hl], ?_, ?_, ?_⟩
  · rw [lset_out (by omega) (by omega)]; exact h.c0
  · rw [lset_out (by omega) (by omega)]; exact h.c7
  · rw [lset_out (by omega) (by omega)]; exact h.c16
end Go.Ev
namespace Go.Proofs.Cx
open Go Go.Ev
section
variable {H : AH} {b : Nat} {s : List UInt8} {q : RSt}
end
end Go.Proofs.Cx
