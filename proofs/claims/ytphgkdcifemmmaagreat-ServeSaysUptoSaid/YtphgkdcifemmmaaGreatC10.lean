/- ServeSays: the law, as formulas have it. ServeSays: what comes in. -/
import Derived.Test.YtphgkdcifemmmaaGreatC9
import Derived.Test.YtphgkdcifemmmaaGreatVc2
import Derived.Test.YtphgkdcifemmmaaGreatC6
import Derived.Test.YtphgkdcifemmmaaGreatB3
namespace Go.Proofs.Cx
open Go Go.Ev
theorem awake18_ok {H : AH} : FW Ee F_cohortlaw18_awake [] H fun v H' => v = .bool true ∧ H = H' := by
  have e : (evalN Ee 1).call F_cohortlaw18_awake [] H = some (.bool true, H) := by kernel_rfl
  exact ⟨1, _, _, e, rfl, rfl⟩
section
variable {H : AH}
set_option maxHeartbeats 8000000 in
set_option maxRecDepth 100000 in
theorem law_says {F : Nat → Prop} {x : SayW} {s : List UInt8} (ok : Ok H) (hI : SayI x) (hS : SayS F H x) (hF : ∀ y, F y → y < H.next) (hB : (sayB x).length ≤ 140737270000000) (hs : s.length ≤ 140737270000000) :
    FW Ee F_cohortlaw18_ServeSays [.agg ⟨sayC x⟩, .string ⟨⟨s⟩⟩] H fun r H' => r = .bool true ∧ Grow H H' := by
  refine fw_cohortlaw18_ServeSays ?_
  intro H1 e1
  have e1 : H1 = H.new (.cells (sayC x) 0) := e1
  obtain ⟨g1, b1, n1⟩ := new_job ok e1
  refine ⟨_, _, _, _, _, _, _, _, _, _, _, _, _, _, _, _, _, _, _, _, _, _, _, _, _, _, _, _, _, _, _, _, _, _, _, _, _, _, _, _, _, _, _, _, _, _, _, _, _, _, _, _, _, _, _, _, _, _, _, _, _, _, _, _, _, _, _, _, _, _, _, _, _, _, _, _, _, _, _, _, _, _, _, _, _, _, _, _, _, _, _, _, _, _, _, _, _, _, _, _, _, _, _, _, cell_of b1 rfl, cell_of b1 rfl, cell_of b1 rfl, cell_of b1 rfl, cell_of b1 rfl, cell_of b1 rfl, cell_of b1 rfl, cell_of b1 rfl, cell_of b1 rfl, cell_of b1 rfl, cell_of b1 rfl, cell_of b1 rfl, cell_of b1 rfl, cell_of b1 rfl, cell_of b1 rfl, cell_of b1 rfl, cell_of b1 rfl, cell_of b1 rfl, cell_of b1 rfl, cell_of b1 rfl, cell_of b1 rfl, cell_of b1 rfl, cell_of b1 rfl, cell_of b1 rfl, cell_of b1 rfl, cell_of b1 rfl, cell_of b1 rfl, cell_of b1 rfl, cell_of b1 rfl, cell_of b1 rfl, cell_of b1 rfl, cell_of b1 rfl, cell_of b1 rfl, cell_of b1 rfl, cell_of b1 rfl, cell_of b1 rfl, cell_of b1 rfl, cell_of b1 rfl, cell_of b1 rfl, cell_of b1 rfl, cell_of b1 rfl, cell_of b1 rfl, cell_of b1 rfl, cell_of b1 rfl, cell_of b1 rfl, cell_of b1 rfl, cell_of b1 rfl, cell_of b1 rfl, cell_of b1 rfl, cell_of b1 rfl, cell_of b1 rfl, cell_of b1 rfl, cell_of b1 rfl, cell_of b1 rfl, cell_of b1 rfl, cell_of b1 rfl, cell_of b1 rfl, cell_of b1 rfl, cell_of b1 rfl, cell_of b1 rfl, cell_of b1 rfl, cell_of b1 rfl, cell_of b1 rfl, cell_of b1 rfl, cell_of b1 rfl, cell_of b1 rfl, cell_of b1 rfl, cell_of b1 rfl, cell_of b1 rfl, cell_of b1 rfl, cell_of b1 rfl, cell_of b1 rfl, cell_of b1 rfl, cell_of b1 rfl, cell_of b1 rfl, cell_of b1 rfl, cell_of b1 rfl, cell_of b1 rfl, cell_of b1 rfl, cell_of b1 rfl, cell_of b1 rfl, cell_of b1 rfl, cell_of b1 rfl, cell_of b1 rfl, cell_of b1 rfl, cell_of b1 rfl, (encsay_ok (x := x) g1.ok hI (hS.mod g1 fun _ _ => id) (fun y hy => by have := hF y hy; omega)).mono ?_⟩
  rintro _ H2 ⟨rfl, g2⟩
  refine ⟨_, rfl, (decsay_ok (s := sayB x) g2.ok hB).mono ?_⟩
  rintro _ H3 ⟨y, e, rfl, g3, S3, hor⟩
  refine ⟨_, _, _, _, _, _, _, _, _, _, _, _, _, _, _, _, _, _, _, _, _, _, _, _, _, _, _, _, _, _, _, _, _, _, _, _, _, _, _, _, _, _, _, _, _, _, _, _, _, _, _, _, _, _, _, _, _, _, _, _, _, _, _, _, _, _, _, _, _, _, _, _, _, _, _, _, _, _, _, _, _, _, _, _, _, _, _, _, _, _, _, _, _, _, _, _, _, _, _, _, _, _, _, _, _, rfl, ?_⟩
  intro H4 e4
  obtain ⟨H5, e5, b5, g5, n5⟩ := fresh_store (vs := sayC y) e4 rfl rfl g3.ok
  refine ⟨H5, e5, awake18_ok.mono ?_⟩
  rintro _ _ ⟨rfl, rfl⟩
  have g05 := ((g1.trans g2).trans g3).trans g5
  refine ⟨_, rfl, cond_neg rfl (cond_intro (fun he => ?_) (fun he => ?_))⟩
  · have he : e = 0 := by simpa using he
    rcases hor with ⟨h, _⟩ | ⟨_, hyI, hyB, _, _⟩
    · exact absurd he h
    refine ⟨_, _, _, _, _, _, _, _, _, _, _, _, _, _, _, _, _, _, _, _, _, _, _, _, _, _, _, _, _, _, _, _, _, _, _, _, _, _, _, _, _, _, _, _, _, _, _, _, _, _, _, _, _, _, _, _, _, _, _, _, _, _, _, _, _, _, _, _, _, _, _, _, _, _, _, _, _, _, _, _, _, _, _, _, _, _, _, _, _, _, _, _, _, _, _, _, _, _, _, _, _, _, _, _, cell_of b5 rfl, cell_of b5 rfl, cell_of b5 rfl, cell_of b5 rfl, cell_of b5 rfl, cell_of b5 rfl, cell_of b5 rfl, cell_of b5 rfl, cell_of b5 rfl, cell_of b5 rfl, cell_of b5 rfl, cell_of b5 rfl, cell_of b5 rfl, cell_of b5 rfl, cell_of b5 rfl, cell_of b5 rfl, cell_of b5 rfl, cell_of b5 rfl, cell_of b5 rfl, cell_of b5 rfl, cell_of b5 rfl, cell_of b5 rfl, cell_of b5 rfl, cell_of b5 rfl, cell_of b5 rfl, cell_of b5 rfl, cell_of b5 rfl, cell_of b5 rfl, cell_of b5 rfl, cell_of b5 rfl, cell_of b5 rfl, cell_of b5 rfl, cell_of b5 rfl, cell_of b5 rfl, cell_of b5 rfl, cell_of b5 rfl, cell_of b5 rfl, cell_of b5 rfl, cell_of b5 rfl, cell_of b5 rfl, cell_of b5 rfl, cell_of b5 rfl, cell_of b5 rfl, cell_of b5 rfl, cell_of b5 rfl, cell_of b5 rfl, cell_of b5 rfl, cell_of b5 rfl, cell_of b5 rfl, cell_of b5 rfl, cell_of b5 rfl, cell_of b5 rfl, cell_of b5 rfl, cell_of b5 rfl, cell_of b5 rfl, cell_of b5 rfl, cell_of b5 rfl, cell_of b5 rfl, cell_of b5 rfl, cell_of b5 rfl, cell_of b5 rfl, cell_of b5 rfl, cell_of b5 rfl, cell_of b5 rfl, cell_of b5 rfl, cell_of b5 rfl, cell_of b5 rfl, cell_of b5 rfl, cell_of b5 rfl, cell_of b5 rfl, cell_of b5 rfl, cell_of b5 rfl, cell_of b5 rfl, cell_of b5 rfl, cell_of b5 rfl, cell_of b5 rfl, cell_of b5 rfl, cell_of b5 rfl, cell_of b5 rfl, cell_of b5 rfl, cell_of b5 rfl, cell_of b5 rfl, cell_of b5 rfl, cell_of b5 rfl, cell_of b5 rfl, cell_of b5 rfl, (encsay_ok (x := y) g5.ok hyI (S3.mod g5 fun _ _ => id) (fun z hz => by have := hz.2; have := g5.next; omega)).mono ?_⟩
    rintro _ H7 ⟨rfl, g7⟩
    refine ⟨_, rfl, cond_neg (by rw [hyB]; simp) ?_⟩
    have g07 := g05.trans g7
    refine (decsay_ok (s := s) g07.ok hs).mono ?_
    rintro _ H8 ⟨z, e', rfl, g8, S8, hor'⟩
    refine ⟨_, _, _, _, _, _, _, _, _, _, _, _, _, _, _, _, _, _, _, _, _, _, _, _, _, _, _, _, _, _, _, _, _, _, _, _, _, _, _, _, _, _, _, _, _, _, _, _, _, _, _, _, _, _, _, _, _, _, _, _, _, _, _, _, _, _, _, _, _, _, _, _, _, _, _, _, _, _, _, _, _, _, _, _, _, _, _, _, _, _, _, _, _, _, _, _, _, _, _, _, _, _, _, _, _, rfl, ?_⟩
    intro H9 e9
    obtain ⟨H10, e10, b10, g10, n10⟩ := fresh_store (vs := sayC z) e9 rfl rfl g8.ok
    have g010 := (g07.trans g8).trans g10
    refine ⟨H10, e10, cond_intro (fun hz => ?_) (fun hz => ?_)⟩
    · have hz : e' ≠ 0 := by simpa using hz
      rcases hor' with ⟨_, h⟩ | ⟨h, _⟩
      · exact ⟨_, cell_of b10 rfl, by rw [h]; rfl, g010⟩
      · exact absurd h hz
    · have hz : e' = 0 := by simpa using hz
      rcases hor' with ⟨h, _⟩ | ⟨_, hzI, hzB, k1, k2⟩
      · exact absurd hz h
      refine ⟨_, _, _, _, _, _, _, _, _, _, _, _, _, _, _, _, _, _, _, _, _, _, _, _, _, _, _, _, _, _, _, _, _, _, _, _, _, _, _, _, _, _, _, _, _, _, _, _, _, _, _, _, _, _, _, _, _, _, _, _, _, _, _, _, _, _, _, _, _, _, _, _, _, _, _, _, _, _, _, _, _, _, _, _, _, _, _, _, _, _, _, _, _, _, _, _, _, _, _, _, _, _, _, _, cell_of b10 rfl, cell_of b10 rfl, cell_of b10 rfl, cell_of b10 rfl, cell_of b10 rfl, cell_of b10 rfl, cell_of b10 rfl, cell_of b10 rfl, cell_of b10 rfl, cell_of b10 rfl, cell_of b10 rfl, cell_of b10 rfl, cell_of b10 rfl, cell_of b10 rfl, cell_of b10 rfl, cell_of b10 rfl, cell_of b10 rfl, cell_of b10 rfl, cell_of b10 rfl, cell_of b10 rfl, cell_of b10 rfl, cell_of b10 rfl, cell_of b10 rfl, cell_of b10 rfl, cell_of b10 rfl, cell_of b10 rfl, cell_of b10 rfl, cell_of b10 rfl, cell_of b10 rfl, cell_of b10 rfl, cell_of b10 rfl, cell_of b10 rfl, cell_of b10 rfl, cell_of b10 rfl, cell_of b10 rfl, cell_of b10 rfl, cell_of b10 rfl, cell_of b10 rfl, cell_of b10 rfl, cell_of b10 rfl, cell_of b10 rfl, cell_of b10 rfl, cell_of b10 rfl, cell_of b10 rfl, cell_of b10 rfl, cell_of b10 rfl, cell_of b10 rfl, cell_of b10 rfl, cell_of b10 rfl, cell_of b10 rfl, cell_of b10 rfl, cell_of b10 rfl, cell_of b10 rfl, cell_of b10 rfl, cell_of b10 rfl, cell_of b10 rfl, cell_of b10 rfl, cell_of b10 rfl, cell_of b10 rfl, cell_of b10 rfl, cell_of b10 rfl, cell_of b10 rfl, cell_of b10 rfl, cell_of b10 rfl, cell_of b10 rfl, cell_of b10 rfl, cell_of b10 rfl, cell_of b10 rfl, cell_of b10 rfl, cell_of b10 rfl, cell_of b10 rfl, cell_of b10 rfl, cell_of b10 rfl, cell_of b10 rfl, cell_of b10 rfl, cell_of b10 rfl, cell_of b10 rfl, cell_of b10 rfl, cell_of b10 rfl, cell_of b10 rfl, cell_of b10 rfl, cell_of b10 rfl, cell_of b10 rfl, cell_of b10 rfl, cell_of b10 rfl, cell_of b10 rfl, (encsay_ok (x := z) g10.ok hzI (S8.mod g10 fun _ _ => id) (fun w hw => by have := hw.2; have := g10.next; omega)).mono ?_⟩
      rintro _ H11 ⟨rfl, g11⟩
      have b11 := g11.get _ _ not_false b10
      exact ⟨_, rfl, cond_pos (by rw [← hzB]; simp) ⟨_, cell_of b11 rfl, cond_pos (by simpa using k1) ⟨_, cell_of b11 rfl, by simp [k2], g010.trans g11⟩⟩⟩
  · refine (decsay_ok (s := s) g05.ok hs).mono ?_
    rintro _ H8 ⟨z, e', rfl, g8, S8, hor'⟩
    refine ⟨_, _, _, _, _, _, _, _, _, _, _, _, _, _, _, _, _, _, _, _, _, _, _, _, _, _, _, _, _, _, _, _, _, _, _, _, _, _, _, _, _, _, _, _, _, _, _, _, _, _, _, _, _, _, _, _, _, _, _, _, _, _, _, _, _, _, _, _, _, _, _, _, _, _, _, _, _, _, _, _, _, _, _, _, _, _, _, _, _, _, _, _, _, _, _, _, _, _, _, _, _, _, _, _, _, rfl, ?_⟩
    intro H9 e9
    obtain ⟨H10, e10, b10, g10, n10⟩ := fresh_store (vs := sayC z) e9 rfl rfl g8.ok
    have g010 := (g05.trans g8).trans g10
    refine ⟨H10, e10, cond_intro (fun hz => ?_) (fun hz => ?_)⟩
    · have hz : e' ≠ 0 := by simpa using hz
      rcases hor' with ⟨_, h⟩ | ⟨h, _⟩
      · exact ⟨_, cell_of b10 rfl, by rw [h]; rfl, g010⟩
      · exact absurd h hz
    · have hz : e' = 0 := by simpa using hz
      rcases hor' with ⟨h, _⟩ | ⟨_, hzI, hzB, k1, k2⟩
      · exact absurd hz h
      refine ⟨_, _, _, _, _, _, _, _, _, _, _, _, _, _, _, _, _, _, _, _, _, _, _, _, _, _, _, _, _, _, _, _, _, _, _, _, _, _, _, _, _, _, _, _, _, _, _, _, _, _, _, _, _, _, _, _, _, _, _, _, _, _, _, _, _, _, _, _, _, _, _, _, _, _, _, _, _, _, _, _, _, _, _, _, _, _, _, _, _, _, _, _, _, _, _, _, _, _, _, _, _, _, _, _, cell_of b10 rfl, cell_of b10 rfl, cell_of b10 rfl, cell_of b10 rfl, cell_of b10 rfl, cell_of b10 rfl, cell_of b10 rfl, cell_of b10 rfl, cell_of b10 rfl, cell_of b10 rfl, cell_of b10 rfl, cell_of b10 rfl, cell_of b10 rfl, cell_of b10 rfl, cell_of b10 rfl, cell_of b10 rfl, cell_of b10 rfl, cell_of b10 rfl, cell_of b10 rfl, cell_of b10 rfl, cell_of b10 rfl, cell_of b10 rfl, cell_of b10 rfl, cell_of b10 rfl, cell_of b10 rfl, cell_of b10 rfl, cell_of b10 rfl, cell_of b10 rfl, cell_of b10 rfl, cell_of b10 rfl, cell_of b10 rfl, cell_of b10 rfl, cell_of b10 rfl, cell_of b10 rfl, cell_of b10 rfl, cell_of b10 rfl, cell_of b10 rfl, cell_of b10 rfl, cell_of b10 rfl, cell_of b10 rfl, cell_of b10 rfl, cell_of b10 rfl, cell_of b10 rfl, cell_of b10 rfl, cell_of b10 rfl, cell_of b10 rfl, cell_of b10 rfl, cell_of b10 rfl, cell_of b10 rfl, cell_of b10 rfl, cell_of b10 rfl, cell_of b10 rfl, cell_of b10 rfl, cell_of b10 rfl, cell_of b10 rfl, cell_of b10 rfl, cell_of b10 rfl, cell_of b10 rfl, cell_of b10 rfl, cell_of b10 rfl, cell_of b10 rfl, cell_of b10 rfl, cell_of b10 rfl, cell_of b10 rfl, cell_of b10 rfl, cell_of b10 rfl, cell_of b10 rfl, cell_of b10 rfl, cell_of b10 rfl, cell_of b10 rfl, cell_of b10 rfl, cell_of b10 rfl, cell_of b10 rfl, cell_of b10 rfl, cell_of b10 rfl, cell_of b10 rfl, cell_of b10 rfl, cell_of b10 rfl, cell_of b10 rfl, cell_of b10 rfl, cell_of b10 rfl, cell_of b10 rfl, cell_of b10 rfl, cell_of b10 rfl, cell_of b10 rfl, cell_of b10 rfl, (encsay_ok (x := z) g10.ok hzI (S8.mod g10 fun _ _ => id) (fun w hw => by have := hw.2; have := g10.next; omega)).mono ?_⟩
      rintro _ H11 ⟨rfl, g11⟩
      have b11 := g11.get _ _ not_false b10
      exact ⟨_, rfl, cond_pos (by rw [← hzB]; simp) ⟨_, cell_of b11 rfl, cond_pos (by simpa using k1) ⟨_, cell_of b11 rfl, by simp [k2], g010.trans g11⟩⟩⟩
end
end Go.Proofs.Cx
namespace Go.Ev
open Go Go.RowKit
def LenR {α : Type} (R : AH → List Value → α → Prop) (n : Nat) : Prop := ∀ H cs x, R H cs x → cs.length = n
theorem len_int {k : IntKind} : LenR (RInt k) 1 := by rintro H cs x ⟨rfl, _⟩; rfl
theorem len_strB {M : Nat} : LenR (RStrB M) 1 := by rintro H cs x ⟨rfl, _⟩; rfl
theorem len_slB {M : Nat} {α : Type} {n : Nat} {R : AH → List Value → α → Prop} : LenR (RSlB M n R) 1 := by rintro H cs x ⟨a, l, c, rfl, _⟩; rfl
theorem len_nil : LenR RNil 0 := by rintro H cs x rfl; rfl
theorem len_cons {α β : Type} {R1 : AH → List Value → α → Prop} {R2 : AH → List Value → β → Prop} {m n : Nat} (h1 : LenR R1 m) (h2 : LenR R2 n) : LenR (RCons R1 R2) (m + n) := by
  rintro H cs x ⟨c1, c2, rfl, k1, k2⟩
  rw [List.length_append, h1 _ _ _ k1, h2 _ _ _ k2]
end Go.Ev
namespace Go.Proofs.Cx
open Go Go.Ev Go.RowKit
abbrev RB_api_LogEntry := (RCons (RInt .i64) (RCons (RStrB 1048576) RNil))
theorem stB_api_LogEntry : Stable RB_api_LogEntry := (stable_cons stable_int (stable_cons stable_strB stable_nil))
theorem lnB_api_LogEntry : LenR RB_api_LogEntry 2 := (len_cons len_int (len_cons len_strB len_nil))
theorem lyB_api_LogEntry {Hh : Type} {enc : TypeId × Value → Hh} {W : World} [Sy] : LayB 1048576 enc Tryz.prog W T_api_LogEntry RB_api_LogEntry :=
  lay_structB (ds := [(T_int, 0), (T_string, 1)]) (by kernel_rfl) (total := 2) (by kernel_rfl)
    (lay_fconsB (off := 0) (n := 1) rfl (by kernel_rfl) (lay_intB (by kernel_rfl)) stable_int (lay_fconsB (off := 1) (n := 1) rfl (by kernel_rfl) (lay_strB (by kernel_rfl)) stable_strB lay_fnilB))
abbrev RB_api_ViewMsg := (RCons (RInt .i64) (RCons (RInt .i64) (RCons (RInt .i64) (RCons (RInt .i64) (RCons (RInt .i64) (RCons (RInt .i64) (RCons (RInt .i64) (RCons (RInt .i64) (RCons (RInt .i64) (RCons (RStrB 1048576) (RCons (RSlB 1048576 2 RB_api_LogEntry) RNil)))))))))))
theorem stB_api_ViewMsg : Stable RB_api_ViewMsg := (stable_cons stable_int (stable_cons stable_int (stable_cons stable_int (stable_cons stable_int (stable_cons stable_int (stable_cons stable_int (stable_cons stable_int (stable_cons stable_int (stable_cons stable_int (stable_cons stable_strB (stable_cons (stable_sliceB stB_api_LogEntry) stable_nil)))))))))))
theorem lyB_api_ViewMsg {Hh : Type} {enc : TypeId × Value → Hh} {W : World} [Sy] : LayB 1048576 enc Tryz.prog W T_api_ViewMsg RB_api_ViewMsg :=
  lay_structB (ds := [(T_int, 0), (T_int, 1), (T_int, 2), (T_int, 3), (T_int, 4), (T_int, 5), (T_int, 6), (T_int, 7), (T_int, 8), (T_string, 9), (T_L_api_LogEntry, 10)]) (by kernel_rfl) (total := 11) (by kernel_rfl)
    (lay_fconsB (off := 0) (n := 1) rfl (by kernel_rfl) (lay_intB (by kernel_rfl)) stable_int (lay_fconsB (off := 1) (n := 1) rfl (by kernel_rfl) (lay_intB (by kernel_rfl)) stable_int (lay_fconsB (off := 2) (n := 1) rfl (by kernel_rfl) (lay_intB (by kernel_rfl)) stable_int (lay_fconsB (off := 3) (n := 1) rfl (by kernel_rfl) (lay_intB (by kernel_rfl)) stable_int (lay_fconsB (off := 4) (n := 1) rfl (by kernel_rfl) (lay_intB (by kernel_rfl)) stable_int (lay_fconsB (off := 5) (n := 1) rfl (by kernel_rfl) (lay_intB (by kernel_rfl)) stable_int (lay_fconsB (off := 6) (n := 1) rfl (by kernel_rfl) (lay_intB (by kernel_rfl)) stable_int (lay_fconsB (off := 7) (n := 1) rfl (by kernel_rfl) (lay_intB (by kernel_rfl)) stable_int (lay_fconsB (off := 8) (n := 1) rfl (by kernel_rfl) (lay_intB (by kernel_rfl)) stable_int (lay_fconsB (off := 9) (n := 1) rfl (by kernel_rfl) (lay_strB (by kernel_rfl)) stable_strB (lay_fconsB (off := 10) (n := 1) rfl (by kernel_rfl) (lay_sliceB (e := T_api_LogEntry) (n := 2) (by kernel_rfl) (by kernel_rfl) (by omega) lyB_api_LogEntry stB_api_LogEntry lnB_api_LogEntry) (stable_sliceB stB_api_LogEntry) lay_fnilB)))))))))))
abbrev RB_5_bool := (RCons RBool (RCons RBool (RCons RBool (RCons RBool (RCons RBool RNil)))))
theorem stB_5_bool : Stable RB_5_bool := (stable_cons stable_bool (stable_cons stable_bool (stable_cons stable_bool (stable_cons stable_bool (stable_cons stable_bool stable_nil)))))
theorem lyB_5_bool {Hh : Type} {enc : TypeId × Value → Hh} {W : World} [Sy] : LayB 1048576 enc Tryz.prog W T_5_bool RB_5_bool :=
  lay_arrayB (ds := [(T_bool, 0), (T_bool, 1), (T_bool, 2), (T_bool, 3), (T_bool, 4)]) (n := 5) (e := T_bool) (total := 5) (by kernel_rfl) (by kernel_rfl) (by kernel_rfl)
    (lay_fconsB (off := 0) (n := 1) rfl (by kernel_rfl) (lay_boolB (by kernel_rfl)) stable_bool (lay_fconsB (off := 1) (n := 1) rfl (by kernel_rfl) (lay_boolB (by kernel_rfl)) stable_bool (lay_fconsB (off := 2) (n := 1) rfl (by kernel_rfl) (lay_boolB (by kernel_rfl)) stable_bool (lay_fconsB (off := 3) (n := 1) rfl (by kernel_rfl) (lay_boolB (by kernel_rfl)) stable_bool (lay_fconsB (off := 4) (n := 1) rfl (by kernel_rfl) (lay_boolB (by kernel_rfl)) stable_bool lay_fnilB)))))
abbrev RB_5_int64 := (RCons (RInt .i64) (RCons (RInt .i64) (RCons (RInt .i64) (RCons (RInt .i64) (RCons (RInt .i64) RNil)))))
theorem stB_5_int64 : Stable RB_5_int64 := (stable_cons stable_int (stable_cons stable_int (stable_cons stable_int (stable_cons stable_int (stable_cons stable_int stable_nil)))))
theorem lyB_5_int64 {Hh : Type} {enc : TypeId × Value → Hh} {W : World} [Sy] : LayB 1048576 enc Tryz.prog W T_5_int64 RB_5_int64 :=
  lay_arrayB (ds := [(T_int64, 0), (T_int64, 1), (T_int64, 2), (T_int64, 3), (T_int64, 4)]) (n := 5) (e := T_int64) (total := 5) (by kernel_rfl) (by kernel_rfl) (by kernel_rfl)
    (lay_fconsB (off := 0) (n := 1) rfl (by kernel_rfl) (lay_intB (by kernel_rfl)) stable_int (lay_fconsB (off := 1) (n := 1) rfl (by kernel_rfl) (lay_intB (by kernel_rfl)) stable_int (lay_fconsB (off := 2) (n := 1) rfl (by kernel_rfl) (lay_intB (by kernel_rfl)) stable_int (lay_fconsB (off := 3) (n := 1) rfl (by kernel_rfl) (lay_intB (by kernel_rfl)) stable_int (lay_fconsB (off := 4) (n := 1) rfl (by kernel_rfl) (lay_intB (by kernel_rfl)) stable_int lay_fnilB)))))
abbrev RB_api_Aggregate := (RCons RB_5_bool (RCons RB_5_int64 RNil))
theorem stB_api_Aggregate : Stable RB_api_Aggregate := (stable_cons stB_5_bool (stable_cons stB_5_int64 stable_nil))
theorem lyB_api_Aggregate {Hh : Type} {enc : TypeId × Value → Hh} {W : World} [Sy] : LayB 1048576 enc Tryz.prog W T_api_Aggregate RB_api_Aggregate :=
  lay_structB (ds := [(T_5_bool, 0), (T_5_int64, 5)]) (by kernel_rfl) (total := 10) (by kernel_rfl)
    (lay_fconsB (off := 0) (n := 5) rfl (by kernel_rfl) lyB_5_bool stB_5_bool (lay_fconsB (off := 5) (n := 5) rfl (by kernel_rfl) lyB_5_int64 stB_5_int64 lay_fnilB))
abbrev RB_api_Value := (RCons (RInt .i64) (RCons (RInt .i64) RNil))
theorem stB_api_Value : Stable RB_api_Value := (stable_cons stable_int (stable_cons stable_int stable_nil))
theorem lnB_api_Value : LenR RB_api_Value 2 := (len_cons len_int (len_cons len_int len_nil))
theorem lyB_api_Value {Hh : Type} {enc : TypeId × Value → Hh} {W : World} [Sy] : LayB 1048576 enc Tryz.prog W T_api_Value RB_api_Value :=
  lay_structB (ds := [(T_int64, 0), (T_int64, 1)]) (by kernel_rfl) (total := 2) (by kernel_rfl)
    (lay_fconsB (off := 0) (n := 1) rfl (by kernel_rfl) (lay_intB (by kernel_rfl)) stable_int (lay_fconsB (off := 1) (n := 1) rfl (by kernel_rfl) (lay_intB (by kernel_rfl)) stable_int lay_fnilB))
abbrev RB_api_Report := (RCons (RInt .i64) (RCons (RInt .i64) (RCons (RInt .i64) (RCons (RInt .i64) (RCons (RInt .i64) (RCons (RInt .i64) (RCons (RInt .i64) (RCons (RInt .i64) (RCons (RInt .i64) (RCons RB_api_Aggregate (RCons (RSlB 1048576 2 RB_api_Value) RNil)))))))))))
theorem stB_api_Report : Stable RB_api_Report := (stable_cons stable_int (stable_cons stable_int (stable_cons stable_int (stable_cons stable_int (stable_cons stable_int (stable_cons stable_int (stable_cons stable_int (stable_cons stable_int (stable_cons stable_int (stable_cons stB_api_Aggregate (stable_cons (stable_sliceB stB_api_Value) stable_nil)))))))))))
theorem lyB_api_Report {Hh : Type} {enc : TypeId × Value → Hh} {W : World} [Sy] : LayB 1048576 enc Tryz.prog W T_api_Report RB_api_Report :=
  lay_structB (ds := [(T_int, 0), (T_int, 1), (T_int, 2), (T_int, 3), (T_int, 4), (T_api_Errno, 5), (T_int, 6), (T_int, 7), (T_int, 8), (T_api_Aggregate, 9), (T_L_api_Value, 19)]) (by kernel_rfl) (total := 20) (by kernel_rfl)
    (lay_fconsB (off := 0) (n := 1) rfl (by kernel_rfl) (lay_intB (by kernel_rfl)) stable_int (lay_fconsB (off := 1) (n := 1) rfl (by kernel_rfl) (lay_intB (by kernel_rfl)) stable_int (lay_fconsB (off := 2) (n := 1) rfl (by kernel_rfl) (lay_intB (by kernel_rfl)) stable_int (lay_fconsB (off := 3) (n := 1) rfl (by kernel_rfl) (lay_intB (by kernel_rfl)) stable_int (lay_fconsB (off := 4) (n := 1) rfl (by kernel_rfl) (lay_intB (by kernel_rfl)) stable_int (lay_fconsB (off := 5) (n := 1) rfl (by kernel_rfl) (lay_intB (by kernel_rfl)) stable_int (lay_fconsB (off := 6) (n := 1) rfl (by kernel_rfl) (lay_intB (by kernel_rfl)) stable_int (lay_fconsB (off := 7) (n := 1) rfl (by kernel_rfl) (lay_intB (by kernel_rfl)) stable_int (lay_fconsB (off := 8) (n := 1) rfl (by kernel_rfl) (lay_intB (by kernel_rfl)) stable_int (lay_fconsB (off := 9) (n := 10) rfl (by kernel_rfl) lyB_api_Aggregate stB_api_Aggregate (lay_fconsB (off := 19) (n := 1) rfl (by kernel_rfl) (lay_sliceB (e := T_api_Value) (n := 2) (by kernel_rfl) (by kernel_rfl) (by omega) lyB_api_Value stB_api_Value lnB_api_Value) (stable_sliceB stB_api_Value) lay_fnilB)))))))))))
abbrev RB_api_Edge := (RCons (RInt .i64) (RCons (RInt .i64) RNil))
theorem stB_api_Edge : Stable RB_api_Edge := (stable_cons stable_int (stable_cons stable_int stable_nil))
theorem lnB_api_Edge : LenR RB_api_Edge 2 := (len_cons len_int (len_cons len_int len_nil))
theorem lyB_api_Edge {Hh : Type} {enc : TypeId × Value → Hh} {W : World} [Sy] : LayB 1048576 enc Tryz.prog W T_api_Edge RB_api_Edge :=
  lay_structB (ds := [(T_int64, 0), (T_int64, 1)]) (by kernel_rfl) (total := 2) (by kernel_rfl)
    (lay_fconsB (off := 0) (n := 1) rfl (by kernel_rfl) (lay_intB (by kernel_rfl)) stable_int (lay_fconsB (off := 1) (n := 1) rfl (by kernel_rfl) (lay_intB (by kernel_rfl)) stable_int lay_fnilB))
abbrev RB_api_Vertex := (RCons (RInt .i64) (RCons (RInt .i64) (RCons (RSlB 1048576 2 RB_api_Edge) RNil)))
theorem stB_api_Vertex : Stable RB_api_Vertex := (stable_cons stable_int (stable_cons stable_int (stable_cons (stable_sliceB stB_api_Edge) stable_nil)))
theorem lnB_api_Vertex : LenR RB_api_Vertex 3 := (len_cons len_int (len_cons len_int (len_cons len_slB len_nil)))
theorem lyB_api_Vertex {Hh : Type} {enc : TypeId × Value → Hh} {W : World} [Sy] : LayB 1048576 enc Tryz.prog W T_api_Vertex RB_api_Vertex :=
  lay_structB (ds := [(T_int64, 0), (T_int64, 1), (T_L_api_Edge, 2)]) (by kernel_rfl) (total := 3) (by kernel_rfl)
    (lay_fconsB (off := 0) (n := 1) rfl (by kernel_rfl) (lay_intB (by kernel_rfl)) stable_int (lay_fconsB (off := 1) (n := 1) rfl (by kernel_rfl) (lay_intB (by kernel_rfl)) stable_int (lay_fconsB (off := 2) (n := 1) rfl (by kernel_rfl) (lay_sliceB (e := T_api_Edge) (n := 2) (by kernel_rfl) (by kernel_rfl) (by omega) lyB_api_Edge stB_api_Edge lnB_api_Edge) (stable_sliceB stB_api_Edge) lay_fnilB)))
abbrev RB_api_Graph := (RCons (RSlB 1048576 3 RB_api_Vertex) RNil)
theorem stB_api_Graph : Stable RB_api_Graph := (stable_cons (stable_sliceB stB_api_Vertex) stable_nil)
theorem lyB_api_Graph {Hh : Type} {enc : TypeId × Value → Hh} {W : World} [Sy] : LayB 1048576 enc Tryz.prog W T_api_Graph RB_api_Graph :=
  lay_structB (ds := [(T_L_api_Vertex, 0)]) (by kernel_rfl) (total := 1) (by kernel_rfl)
    (lay_fconsB (off := 0) (n := 1) rfl (by kernel_rfl) (lay_sliceB (e := T_api_Vertex) (n := 3) (by kernel_rfl) (by kernel_rfl) (by omega) lyB_api_Vertex stB_api_Vertex lnB_api_Vertex) (stable_sliceB stB_api_Vertex) lay_fnilB)
abbrev RB_api_Job := (RCons (RStrB 1048576) (RCons RB_api_Graph (RCons (RSlB 1048576 1 (RInt .i64)) (RCons (RInt .i64) (RCons (RInt .i64) (RCons (RInt .i64) RNil))))))
theorem stB_api_Job : Stable RB_api_Job := (stable_cons stable_strB (stable_cons stB_api_Graph (stable_cons (stable_sliceB stable_int) (stable_cons stable_int (stable_cons stable_int (stable_cons stable_int stable_nil))))))
theorem lyB_api_Job {Hh : Type} {enc : TypeId × Value → Hh} {W : World} [Sy] : LayB 1048576 enc Tryz.prog W T_api_Job RB_api_Job :=
  lay_structB (ds := [(T_string, 0), (T_api_Graph, 1), (T_L_int64, 2), (T_int, 3), (T_int, 4), (T_int, 5)]) (by kernel_rfl) (total := 6) (by kernel_rfl)
    (lay_fconsB (off := 0) (n := 1) rfl (by kernel_rfl) (lay_strB (by kernel_rfl)) stable_strB (lay_fconsB (off := 1) (n := 1) rfl (by kernel_rfl) lyB_api_Graph stB_api_Graph (lay_fconsB (off := 2) (n := 1) rfl (by kernel_rfl) (lay_sliceB (e := T_int64) (n := 1) (by kernel_rfl) (by kernel_rfl) (by omega) (lay_intB (by kernel_rfl)) stable_int len_int) (stable_sliceB stable_int) (lay_fconsB (off := 3) (n := 1) rfl (by kernel_rfl) (lay_intB (by kernel_rfl)) stable_int (lay_fconsB (off := 4) (n := 1) rfl (by kernel_rfl) (lay_intB (by kernel_rfl)) stable_int (lay_fconsB (off := 5) (n := 1) rfl (by kernel_rfl) (lay_intB (by kernel_rfl)) stable_int lay_fnilB))))))
abbrev RB_api_Task := (RCons (RInt .i64) (RCons (RInt .i64) (RCons (RInt .i64) (RCons (RInt .i64) (RCons (RSlB 1048576 1 (RInt .i64)) (RCons (RSlB 1048576 1 (RInt .i64)) (RCons RB_api_Job (RCons RB_api_Aggregate (RCons (RInt .i64) (RCons (RInt .i64) (RCons (RInt .i64) (RCons RBool RNil))))))))))))
theorem stB_api_Task : Stable RB_api_Task := (stable_cons stable_int (stable_cons stable_int (stable_cons stable_int (stable_cons stable_int (stable_cons (stable_sliceB stable_int) (stable_cons (stable_sliceB stable_int) (stable_cons stB_api_Job (stable_cons stB_api_Aggregate (stable_cons stable_int (stable_cons stable_int (stable_cons stable_int (stable_cons stable_bool stable_nil))))))))))))
theorem lyB_api_Task {Hh : Type} {enc : TypeId × Value → Hh} {W : World} [Sy] : LayB 1048576 enc Tryz.prog W T_api_Task RB_api_Task :=
  lay_structB (ds := [(T_int, 0), (T_int, 1), (T_int, 2), (T_int, 3), (T_L_int, 4), (T_L_int, 5), (T_api_Job, 6), (T_api_Aggregate, 12), (T_int, 22), (T_int, 23), (T_int, 24), (T_bool, 25)]) (by kernel_rfl) (total := 26) (by kernel_rfl)
    (lay_fconsB (off := 0) (n := 1) rfl (by kernel_rfl) (lay_intB (by kernel_rfl)) stable_int (lay_fconsB (off := 1) (n := 1) rfl (by kernel_rfl) (lay_intB (by kernel_rfl)) stable_int (lay_fconsB (off := 2) (n := 1) rfl (by kernel_rfl) (lay_intB (by kernel_rfl)) stable_int (lay_fconsB (off := 3) (n := 1) rfl (by kernel_rfl) (lay_intB (by kernel_rfl)) stable_int (lay_fconsB (off := 4) (n := 1) rfl (by kernel_rfl) (lay_sliceB (e := T_int) (n := 1) (by kernel_rfl) (by kernel_rfl) (by omega) (lay_intB (by kernel_rfl)) stable_int len_int) (stable_sliceB stable_int) (lay_fconsB (off := 5) (n := 1) rfl (by kernel_rfl) (lay_sliceB (e := T_int) (n := 1) (by kernel_rfl) (by kernel_rfl) (by omega) (lay_intB (by kernel_rfl)) stable_int len_int) (stable_sliceB stable_int) (lay_fconsB (off := 6) (n := 6) rfl (by kernel_rfl) lyB_api_Job stB_api_Job (lay_fconsB (off := 12) (n := 10) rfl (by kernel_rfl) lyB_api_Aggregate stB_api_Aggregate (lay_fconsB (off := 22) (n := 1) rfl (by kernel_rfl) (lay_intB (by kernel_rfl)) stable_int (lay_fconsB (off := 23) (n := 1) rfl (by kernel_rfl) (lay_intB (by kernel_rfl)) stable_int (lay_fconsB (off := 24) (n := 1) rfl (by kernel_rfl) (lay_intB (by kernel_rfl)) stable_int (lay_fconsB (off := 25) (n := 1) rfl (by kernel_rfl) (lay_boolB (by kernel_rfl)) stable_bool lay_fnilB))))))))))))
abbrev RB_api_Ask := (RCons (RInt .i64) (RCons (RInt .i64) (RCons (RInt .i64) (RCons (RStrB 1048576) (RCons (RInt .i64) RNil)))))
theorem stB_api_Ask : Stable RB_api_Ask := (stable_cons stable_int (stable_cons stable_int (stable_cons stable_int (stable_cons stable_strB (stable_cons stable_int stable_nil)))))
theorem lyB_api_Ask {Hh : Type} {enc : TypeId × Value → Hh} {W : World} [Sy] : LayB 1048576 enc Tryz.prog W T_api_Ask RB_api_Ask :=
  lay_structB (ds := [(T_int, 0), (T_int64, 1), (T_int, 2), (T_string, 3), (T_int, 4)]) (by kernel_rfl) (total := 5) (by kernel_rfl)
    (lay_fconsB (off := 0) (n := 1) rfl (by kernel_rfl) (lay_intB (by kernel_rfl)) stable_int (lay_fconsB (off := 1) (n := 1) rfl (by kernel_rfl) (lay_intB (by kernel_rfl)) stable_int (lay_fconsB (off := 2) (n := 1) rfl (by kernel_rfl) (lay_intB (by kernel_rfl)) stable_int (lay_fconsB (off := 3) (n := 1) rfl (by kernel_rfl) (lay_strB (by kernel_rfl)) stable_strB (lay_fconsB (off := 4) (n := 1) rfl (by kernel_rfl) (lay_intB (by kernel_rfl)) stable_int lay_fnilB)))))
abbrev RB_api_Reply := (RCons (RInt .i64) (RCons (RInt .i64) RNil))
theorem stB_api_Reply : Stable RB_api_Reply := (stable_cons stable_int (stable_cons stable_int stable_nil))
theorem lyB_api_Reply {Hh : Type} {enc : TypeId × Value → Hh} {W : World} [Sy] : LayB 1048576 enc Tryz.prog W T_api_Reply RB_api_Reply :=
  lay_structB (ds := [(T_api_Errno, 0), (T_int, 1)]) (by kernel_rfl) (total := 2) (by kernel_rfl)
    (lay_fconsB (off := 0) (n := 1) rfl (by kernel_rfl) (lay_intB (by kernel_rfl)) stable_int (lay_fconsB (off := 1) (n := 1) rfl (by kernel_rfl) (lay_intB (by kernel_rfl)) stable_int lay_fnilB))
abbrev RB_api_Outcome := (RCons (RInt .i64) (RCons (RInt .i64) (RCons (RInt .i64) (RCons (RSlB 1048576 2 RB_api_Value) RNil))))
theorem stB_api_Outcome : Stable RB_api_Outcome := (stable_cons stable_int (stable_cons stable_int (stable_cons stable_int (stable_cons (stable_sliceB stB_api_Value) stable_nil))))
theorem lyB_api_Outcome {Hh : Type} {enc : TypeId × Value → Hh} {W : World} [Sy] : LayB 1048576 enc Tryz.prog W T_api_Outcome RB_api_Outcome :=
  lay_structB (ds := [(T_int, 0), (T_api_Errno, 1), (T_int, 2), (T_L_api_Value, 3)]) (by kernel_rfl) (total := 4) (by kernel_rfl)
    (lay_fconsB (off := 0) (n := 1) rfl (by kernel_rfl) (lay_intB (by kernel_rfl)) stable_int (lay_fconsB (off := 1) (n := 1) rfl (by kernel_rfl) (lay_intB (by kernel_rfl)) stable_int (lay_fconsB (off := 2) (n := 1) rfl (by kernel_rfl) (lay_intB (by kernel_rfl)) stable_int (lay_fconsB (off := 3) (n := 1) rfl (by kernel_rfl) (lay_sliceB (e := T_api_Value) (n := 2) (by kernel_rfl) (by kernel_rfl) (by omega) lyB_api_Value stB_api_Value lnB_api_Value) (stable_sliceB stB_api_Value) lay_fnilB))))
abbrev RB_api_Status := (RCons (RInt .i64) (RCons (RInt .i64) (RCons (RInt .i64) (RCons (RInt .i64) (RCons RB_api_Outcome RNil)))))
theorem stB_api_Status : Stable RB_api_Status := (stable_cons stable_int (stable_cons stable_int (stable_cons stable_int (stable_cons stable_int (stable_cons stB_api_Outcome stable_nil)))))
theorem lyB_api_Status {Hh : Type} {enc : TypeId × Value → Hh} {W : World} [Sy] : LayB 1048576 enc Tryz.prog W T_api_Status RB_api_Status :=
  lay_structB (ds := [(T_int, 0), (T_int, 1), (T_int, 2), (T_int, 3), (T_api_Outcome, 4)]) (by kernel_rfl) (total := 8) (by kernel_rfl)
    (lay_fconsB (off := 0) (n := 1) rfl (by kernel_rfl) (lay_intB (by kernel_rfl)) stable_int (lay_fconsB (off := 1) (n := 1) rfl (by kernel_rfl) (lay_intB (by kernel_rfl)) stable_int (lay_fconsB (off := 2) (n := 1) rfl (by kernel_rfl) (lay_intB (by kernel_rfl)) stable_int (lay_fconsB (off := 3) (n := 1) rfl (by kernel_rfl) (lay_intB (by kernel_rfl)) stable_int (lay_fconsB (off := 4) (n := 4) rfl (by kernel_rfl) lyB_api_Outcome stB_api_Outcome lay_fnilB)))))
abbrev RB_api_Told := (RCons (RInt .i64) (RCons (RInt .i64) (RCons (RInt .i64) (RCons RB_api_Reply (RCons RB_api_Status RNil)))))
theorem stB_api_Told : Stable RB_api_Told := (stable_cons stable_int (stable_cons stable_int (stable_cons stable_int (stable_cons stB_api_Reply (stable_cons stB_api_Status stable_nil)))))
theorem lyB_api_Told {Hh : Type} {enc : TypeId × Value → Hh} {W : World} [Sy] : LayB 1048576 enc Tryz.prog W T_api_Told RB_api_Told :=
  lay_structB (ds := [(T_int, 0), (T_int64, 1), (T_int, 2), (T_api_Reply, 3), (T_api_Status, 5)]) (by kernel_rfl) (total := 13) (by kernel_rfl)
    (lay_fconsB (off := 0) (n := 1) rfl (by kernel_rfl) (lay_intB (by kernel_rfl)) stable_int (lay_fconsB (off := 1) (n := 1) rfl (by kernel_rfl) (lay_intB (by kernel_rfl)) stable_int (lay_fconsB (off := 2) (n := 1) rfl (by kernel_rfl) (lay_intB (by kernel_rfl)) stable_int (lay_fconsB (off := 3) (n := 2) rfl (by kernel_rfl) lyB_api_Reply stB_api_Reply (lay_fconsB (off := 5) (n := 8) rfl (by kernel_rfl) lyB_api_Status stB_api_Status lay_fnilB)))))
abbrev RB_api_Message := (RCons (RInt .i64) (RCons (RInt .i64) (RCons (RInt .i64) (RCons (RInt .i64) RNil))))
theorem stB_api_Message : Stable RB_api_Message := (stable_cons stable_int (stable_cons stable_int (stable_cons stable_int (stable_cons stable_int stable_nil))))
theorem lnB_api_Message : LenR RB_api_Message 4 := (len_cons len_int (len_cons len_int (len_cons len_int (len_cons len_int len_nil))))
theorem lyB_api_Message {Hh : Type} {enc : TypeId × Value → Hh} {W : World} [Sy] : LayB 1048576 enc Tryz.prog W T_api_Message RB_api_Message :=
  lay_structB (ds := [(T_int64, 0), (T_int64, 1), (T_int, 2), (T_int64, 3)]) (by kernel_rfl) (total := 4) (by kernel_rfl)
    (lay_fconsB (off := 0) (n := 1) rfl (by kernel_rfl) (lay_intB (by kernel_rfl)) stable_int (lay_fconsB (off := 1) (n := 1) rfl (by kernel_rfl) (lay_intB (by kernel_rfl)) stable_int (lay_fconsB (off := 2) (n := 1) rfl (by kernel_rfl) (lay_intB (by kernel_rfl)) stable_int (lay_fconsB (off := 3) (n := 1) rfl (by kernel_rfl) (lay_intB (by kernel_rfl)) stable_int lay_fnilB))))
abbrev RB_api_Mutation := (RCons (RInt .i64) (RCons (RInt .i64) (RCons (RInt .i64) (RCons (RInt .i64) RNil))))
theorem stB_api_Mutation : Stable RB_api_Mutation := (stable_cons stable_int (stable_cons stable_int (stable_cons stable_int (stable_cons stable_int stable_nil))))
theorem lnB_api_Mutation : LenR RB_api_Mutation 4 := (len_cons len_int (len_cons len_int (len_cons len_int (len_cons len_int len_nil))))
theorem lyB_api_Mutation {Hh : Type} {enc : TypeId × Value → Hh} {W : World} [Sy] : LayB 1048576 enc Tryz.prog W T_api_Mutation RB_api_Mutation :=
  lay_structB (ds := [(T_int, 0), (T_int64, 1), (T_int64, 2), (T_int64, 3)]) (by kernel_rfl) (total := 4) (by kernel_rfl)
    (lay_fconsB (off := 0) (n := 1) rfl (by kernel_rfl) (lay_intB (by kernel_rfl)) stable_int (lay_fconsB (off := 1) (n := 1) rfl (by kernel_rfl) (lay_intB (by kernel_rfl)) stable_int (lay_fconsB (off := 2) (n := 1) rfl (by kernel_rfl) (lay_intB (by kernel_rfl)) stable_int (lay_fconsB (off := 3) (n := 1) rfl (by kernel_rfl) (lay_intB (by kernel_rfl)) stable_int lay_fnilB))))
abbrev RB_api_Batch := (RCons (RInt .i64) (RCons (RInt .i64) (RCons (RInt .i64) (RCons (RInt .i64) (RCons (RSlB 1048576 4 RB_api_Message) (RCons (RSlB 1048576 4 RB_api_Mutation) RNil))))))
theorem stB_api_Batch : Stable RB_api_Batch := (stable_cons stable_int (stable_cons stable_int (stable_cons stable_int (stable_cons stable_int (stable_cons (stable_sliceB stB_api_Message) (stable_cons (stable_sliceB stB_api_Mutation) stable_nil))))))
theorem lyB_api_Batch {Hh : Type} {enc : TypeId × Value → Hh} {W : World} [Sy] : LayB 1048576 enc Tryz.prog W T_api_Batch RB_api_Batch :=
  lay_structB (ds := [(T_int, 0), (T_int, 1), (T_int, 2), (T_int, 3), (T_L_api_Message, 4), (T_L_api_Mutation, 5)]) (by kernel_rfl) (total := 6) (by kernel_rfl)
    (lay_fconsB (off := 0) (n := 1) rfl (by kernel_rfl) (lay_intB (by kernel_rfl)) stable_int (lay_fconsB (off := 1) (n := 1) rfl (by kernel_rfl) (lay_intB (by kernel_rfl)) stable_int (lay_fconsB (off := 2) (n := 1) rfl (by kernel_rfl) (lay_intB (by kernel_rfl)) stable_int (lay_fconsB (off := 3) (n := 1) rfl (by kernel_rfl) (lay_intB (by kernel_rfl)) stable_int (lay_fconsB (off := 4) (n := 1) rfl (by kernel_rfl) (lay_sliceB (e := T_api_Message) (n := 4) (by kernel_rfl) (by kernel_rfl) (by omega) lyB_api_Message stB_api_Message lnB_api_Message) (stable_sliceB stB_api_Message) (lay_fconsB (off := 5) (n := 1) rfl (by kernel_rfl) (lay_sliceB (e := T_api_Mutation) (n := 4) (by kernel_rfl) (by kernel_rfl) (by omega) lyB_api_Mutation stB_api_Mutation lnB_api_Mutation) (stable_sliceB stB_api_Mutation) lay_fnilB))))))
abbrev RB_api_Say := (RCons (RInt .i64) (RCons RB_api_ViewMsg (RCons (RInt .i64) (RCons (RInt .i64) (RCons RBool (RCons RB_api_Report (RCons RB_api_Task (RCons (RInt .i64) (RCons RB_api_Ask (RCons RB_api_Told (RCons RB_api_Batch RNil)))))))))))
theorem stB_api_Say : Stable RB_api_Say := (stable_cons stable_int (stable_cons stB_api_ViewMsg (stable_cons stable_int (stable_cons stable_int (stable_cons stable_bool (stable_cons stB_api_Report (stable_cons stB_api_Task (stable_cons stable_int (stable_cons stB_api_Ask (stable_cons stB_api_Told (stable_cons stB_api_Batch stable_nil)))))))))))
theorem lyB_api_Say {Hh : Type} {enc : TypeId × Value → Hh} {W : World} [Sy] : LayB 1048576 enc Tryz.prog W T_api_Say RB_api_Say :=
  lay_structB (ds := [(T_int, 0), (T_api_ViewMsg, 1), (T_int, 12), (T_int, 13), (T_bool, 14), (T_api_Report, 15), (T_api_Task, 35), (T_int, 61), (T_api_Ask, 62), (T_api_Told, 67), (T_api_Batch, 80)]) (by kernel_rfl) (total := 86) (by kernel_rfl)
    (lay_fconsB (off := 0) (n := 1) rfl (by kernel_rfl) (lay_intB (by kernel_rfl)) stable_int (lay_fconsB (off := 1) (n := 11) rfl (by kernel_rfl) lyB_api_ViewMsg stB_api_ViewMsg (lay_fconsB (off := 12) (n := 1) rfl (by kernel_rfl) (lay_intB (by kernel_rfl)) stable_int (lay_fconsB (off := 13) (n := 1) rfl (by kernel_rfl) (lay_intB (by kernel_rfl)) stable_int (lay_fconsB (off := 14) (n := 1) rfl (by kernel_rfl) (lay_boolB (by kernel_rfl)) stable_bool (lay_fconsB (off := 15) (n := 20) rfl (by kernel_rfl) lyB_api_Report stB_api_Report (lay_fconsB (off := 35) (n := 26) rfl (by kernel_rfl) lyB_api_Task stB_api_Task (lay_fconsB (off := 61) (n := 1) rfl (by kernel_rfl) (lay_intB (by kernel_rfl)) stable_int (lay_fconsB (off := 62) (n := 5) rfl (by kernel_rfl) lyB_api_Ask stB_api_Ask (lay_fconsB (off := 67) (n := 13) rfl (by kernel_rfl) lyB_api_Told stB_api_Told (lay_fconsB (off := 80) (n := 6) rfl (by kernel_rfl) lyB_api_Batch stB_api_Batch lay_fnilB)))))))))))
def toN (x : Int × List UInt8 × Unit) : Int × List UInt8 := (x.1, x.2.1)
def toVB (x : Int × Int × List (Int × Int × Unit) × Unit) : Vtx := ⟨x.1, x.2.1, x.2.2.1.map toE⟩
def to4 (x : Int × Int × Int × Int × Unit) : Four := (x.1, x.2.1, x.2.2.1, x.2.2.2.1)
theorem graphB_in {H : AH} (ok : Ok H) {a : Option Addr} {l : Nat} {xs : List (Int × Int × List (Int × Int × Unit) × Unit)} (h : Sl (fun _ => True) H 3 (PCs RB_api_Vertex) a l xs) (hb : xs.length ≤ 1048576) :
    SlV (fun b => b < H.next) H a l (xs.map toVB) ∧ GraphA (xs.map toVB) := by
  have edge : ∀ b o x, PCs RB_api_Edge H b o x → PEdge H b o (toE x) ∧ PairI (toE x) := by
    rintro b o x ⟨cs, hc, c1, c2, rfl, ⟨rfl, w1⟩, c3, c4, rfl, ⟨rfl, w2⟩, rfl⟩
    exact ⟨⟨by simpa [toE] using hc 0 _ rfl, by simpa [toE] using hc 1 _ rfl⟩, i64_wf w1, i64_wf w2⟩
  have vtx : ∀ b o x, PCs RB_api_Vertex H b o x → PVtx (fun b => b < H.next) H b o (toVB x) ∧ VtxA (toVB x) := by
    rintro b o x ⟨cs, hc, c1, c2, rfl, ⟨rfl, w1⟩, c3, c4, rfl, ⟨rfl, w2⟩, c5, c6, rfl, ⟨ea, el, ec, rfl, he, hn⟩, rfl⟩
    refine ⟨⟨by simpa [toE, toVB] using hc 0 _ rfl, by simpa [toE, toVB] using hc 1 _ rfl, ea, el, ec, by simpa using hc 2 _ rfl, ?_⟩, i64_wf w1, i64_wf w2, by simpa [toVB] using hn, ?_⟩
    · exact Sl.into he (fun b o x hx => lt_of_cell ok (edge b o x hx).1.1) (fun b o x _ hx => (edge b o x hx).1)
    · intro e he2
      simp only [toVB] at he2
      obtain ⟨y, hy, rfl⟩ := List.mem_map.1 he2
      obtain ⟨i, hi, rfl⟩ := List.getElem_of_mem hy
      exact (edge _ _ _ (he.cells i hi)).2
  refine ⟨Sl.into h (fun b o x hx => lt_of_cell ok (vtx b o x hx).1.1) (fun b o x _ hx => (vtx b o x hx).1), by simpa using hb, ?_⟩
  intro v hv
  obtain ⟨x, hx, rfl⟩ := List.mem_map.1 hv
  obtain ⟨i, hi, rfl⟩ := List.getElem_of_mem hx
  exact (vtx _ _ _ (h.cells i hi)).2
theorem ents_in {H : AH} (ok : Ok H) {a : Option Addr} {l : Nat} {xs : List (Int × List UInt8 × Unit)} (h : Sl (fun _ => True) H 2 (PCs RB_api_LogEntry) a l xs) : SlN (fun b => b < H.next) H a l (xs.map toN) ∧ ∀ e ∈ xs.map toN, I64 e.1 ∧ e.2.length ≤ 1048576 := by
  have one : ∀ b o x, PCs RB_api_LogEntry H b o x → PEnt H b o (toN x) ∧ I64 (toN x).1 ∧ (toN x).2.length ≤ 1048576 := by
    rintro b o x ⟨cs, hc, c1, c2, rfl, ⟨rfl, w1⟩, c3, c4, rfl, ⟨rfl, w2⟩, rfl⟩
    exact ⟨⟨by simpa [toN] using hc 0 _ rfl, by simpa [toN] using hc 1 _ rfl⟩, i64_wf w1, w2⟩
  refine ⟨Sl.into h (fun b o x hx => lt_of_cell ok (one b o x hx).1.1) (fun b o x _ hx => (one b o x hx).1), fun e he => ?_⟩
  obtain ⟨y, hy, rfl⟩ := List.mem_map.1 he
  obtain ⟨i, hi, rfl⟩ := List.getElem_of_mem hy
  exact (one _ _ _ (h.cells i hi)).2
theorem fours_in {H : AH} (ok : Ok H) {a : Option Addr} {l : Nat} {xs : List (Int × Int × Int × Int × Unit)} (h : Sl (fun _ => True) H 4 (PCs RB_api_Message) a l xs) : SlF (fun b => b < H.next) H a l (xs.map to4) ∧ ∀ e ∈ xs.map to4, FourI e := by
  have one : ∀ b o x, PCs RB_api_Message H b o x → P4 H b o (to4 x) ∧ FourI (to4 x) := by
    rintro b o x ⟨cs, hc, c1, c2, rfl, ⟨rfl, w1⟩, c3, c4, rfl, ⟨rfl, w2⟩, c5, c6, rfl, ⟨rfl, w3⟩, c7, c8, rfl, ⟨rfl, w4⟩, rfl⟩
    exact ⟨⟨by simpa [to4] using hc 0 _ rfl, by simpa [to4] using hc 1 _ rfl, by simpa [to4] using hc 2 _ rfl, by simpa [to4] using hc 3 _ rfl⟩, i64_wf w1, i64_wf w2, i64_wf w3, i64_wf w4⟩
  refine ⟨Sl.into h (fun b o x hx => lt_of_cell ok (one b o x hx).1.1) (fun b o x _ hx => (one b o x hx).1), fun e he => ?_⟩
  obtain ⟨y, hy, rfl⟩ := List.mem_map.1 he
  obtain ⟨i, hi, rfl⟩ := List.getElem_of_mem hy
  exact (one _ _ _ (h.cells i hi)).2
theorem valsB_in {H : AH} (ok : Ok H) {a : Option Addr} {l : Nat} {xs : List (Int × Int × Unit)} (h : Sl (fun _ => True) H 2 (PCs RB_api_Value) a l xs) : SlE (fun b => b < H.next) H a l (xs.map toE) ∧ SlP (fun b => b < H.next) H a l (xs.map toE) ∧ ∀ e ∈ xs.map toE, I64 e.1 ∧ I64 e.2 := by
  have one : ∀ b o x, PCs RB_api_Value H b o x → (PEdge H b o (toE x) ∧ PPair H b o (toE x)) ∧ I64 (toE x).1 ∧ I64 (toE x).2 := by
    rintro b o x ⟨cs, hc, c1, c2, rfl, ⟨rfl, w1⟩, c3, c4, rfl, ⟨rfl, w2⟩, rfl⟩
    exact ⟨⟨⟨by simpa [toE] using hc 0 _ rfl, by simpa [toE] using hc 1 _ rfl⟩, by simpa [toE] using hc 0 _ rfl, by simpa [toE] using hc 1 _ rfl⟩, i64_wf w1, i64_wf w2⟩
  refine ⟨Sl.into h (fun b o x hx => lt_of_cell ok (one b o x hx).1.1.1) (fun b o x _ hx => (one b o x hx).1.1), Sl.into h (fun b o x hx => lt_of_cell ok (one b o x hx).1.1.1) (fun b o x _ hx => (one b o x hx).1.2), fun e he => ?_⟩
  obtain ⟨y, hy, rfl⟩ := List.mem_map.1 he
  obtain ⟨i, hi, rfl⟩ := List.getElem_of_mem hy
  exact (one _ _ _ (h.cells i hi)).2
theorem jobA_len {j : JobW} (h : JobA j) : (jobB j).length ≤ 22000000000000 := by
  have h1 := graphA_len h.graph
  have h2 := txtB_len' (s := j.prog) (by have := h.prog; omega)
  have h3 := flat_len (B := sgB) (m := 10) (xs := j.params) fun x hx => sgB_len (h.each x hx)
  have h4 := enc_len64 (n := j.params.length) (by have := h.params; omega)
  have h5 := encI_len h.steps
  have h6 := encI_len h.sent
  have h7 := encI_len h.parts
  have h8 := h.prog
  have h9 := h.params
  unfold jobB; simp only [List.length_append]; omega
theorem sayB_len {x : SayW} (h : SayI x) (h1 : (vwB x.vf x.vt x.ve).length ≤ 2000000000000) (h2 : x.at'.length ≤ 1048576) : (sayB x).length ≤ 140737270000000 := by
  have k0 := encI_len h.kd
  have kb := enc_len64 (n := cond x.has 1 0) (by cases x.has <;> simp)
  have ht : (sayT x).length ≤ 100000000000000 := by
    unfold sayT
    split
    · omega
    split
    · have a1 := cntsB_len (xs := [x.wk, x.li]) (by simp [h.wk, h.li])
      have a2 := cntL_len (f := fun i => (x.rf i).toNat) (fun i => by have := h.rf i; unfold I64 at this; omega) 9 0
      have a3 := aggL_len (h := x.rh) h.rv 5 0
      have a4 := pairs_len h.rs
      have a5 := enc_len64 (n := x.rs.length) (by have := h.rl; omega)
      have a6 := h.rl
      simp only [List.length_cons, List.length_nil] at a1
      cases hh : x.has with
      | false => rw [hh] at kb; simp only [cond_false, List.length_append, List.length_nil] at kb ⊢; omega
      | true => rw [hh] at kb; simp only [cond_true, List.length_append] at kb ⊢; unfold repB aggB valsB; simp only [List.length_append]; omega
    split
    · have a1 := cntL_len (f := fun i => (x.tk.f i).toNat) (fun i => by have := h.tf i; unfold I64 at this; omega) 7 0
      have a2 := natsA_len (h.tL 0 (by omega)).2 (h.tL 0 (by omega)).1
      have a3 := natsA_len (h.tL 1 (by omega)).2 (h.tL 1 (by omega)).1
      have a4 := aggL_len (h := x.tk.h) h.tv 5 0
      have a5 := jobA_len h.tj
      have a6 := enc_len64 (n := cond x.tk.k 1 0) (by cases x.tk.k <;> simp)
      cases hh : x.has with
      | false => rw [hh] at kb; simp only [cond_false, List.length_append, List.length_nil] at kb ⊢; omega
      | true => rw [hh] at kb; simp only [cond_true, List.length_append] at kb ⊢; unfold taskB aggB; simp only [List.length_append]; omega
    split
    · have := sgB_len h.ld; omega
    split
    · have a1 := encI_len h.ak
      have a2 := sgB_len h.ase
      have a3 := cntsB_len (xs := [x.af 0, x.af 1]) (by simp [h.af])
      have a4 := txtB_len' (s := x.at') (by omega)
      simp only [List.length_cons, List.length_nil] at a3
      unfold askB; simp only [List.length_append]; omega
    split
    · have a1 := encI_len h.tkd
      have a2 := sgB_len h.tse
      have a3 := rangeB_len (g := fun i => enc (tolF x i).toNat) (m := 10) (fun i => encI_len (by unfold tolF; split; exact h.te; exact h.tof i)) 7
      have a4 := outA_len h.ok h.oer h.ost h.os h.ol
      have a5 := txtB_len' (s := outA x.ok x.oer x.ost x.os) (by omega)
      unfold toldB cntF; simp only [List.length_append]; omega
    split
    · have a1 := cntsB_len (xs := [x.bf 0, x.bf 1, x.bf 2, x.bf 3]) (by simp [h.bf])
      have a2 := flat_len (B := msgB) (m := 40) (xs := x.ms) fun y hy => msgB_len (h.ms y hy)
      have a3 := flat_len (B := mutB) (m := 40) (xs := x.us) fun y hy => mutB_len (h.us y hy)
      have a4 := enc_len64 (n := x.ms.length) (by have := h.ml; omega)
      have a5 := enc_len64 (n := x.us.length) (by have := h.ul; omega)
      have a6 := h.ml
      have a7 := h.ul
      simp only [List.length_cons, List.length_nil] at a1
      unfold msgsB mutsB; simp only [List.length_append]; omega
    · simp
  unfold sayB
  rw [List.length_append]; omega
theorem view_inB {H : AH} (ok : Ok H) {cs : List Value} {x} (h : RB_api_ViewMsg H cs x) : ∃ f t a l c es, cs = vwC f t a l c ∧ (∀ i, I64 (f i)) ∧ t.length ≤ 1048576 ∧ SlN (fun b => b < H.next) H a l es ∧ es.length ≤ 1048576 ∧ ∀ e ∈ es, I64 e.1 ∧ e.2.length ≤ 1048576 := by
  obtain ⟨_, _, rfl, ⟨rfl, w1⟩, _, _, rfl, ⟨rfl, w2⟩, _, _, rfl, ⟨rfl, w3⟩, _, _, rfl, ⟨rfl, w4⟩, _, _, rfl, ⟨rfl, w5⟩, _, _, rfl, ⟨rfl, w6⟩, _, _, rfl, ⟨rfl, w7⟩, _, _, rfl, ⟨rfl, w8⟩, _, _, rfl, ⟨rfl, w9⟩, _, _, rfl, ⟨rfl, w10⟩, _, _, rfl, ⟨a11, l11, c11, rfl, s11, n11⟩, rfl⟩ := h
  obtain ⟨v1, v2⟩ := ents_in ok s11
  exact ⟨fi [x.1, x.2.1, x.2.2.1, x.2.2.2.1, x.2.2.2.2.1, x.2.2.2.2.2.1, x.2.2.2.2.2.2.1, x.2.2.2.2.2.2.2.1, x.2.2.2.2.2.2.2.2.1], _, _, _, _, _, rfl, fi_i64 (List.forall_mem_cons.2 ⟨i64_wf w1, List.forall_mem_cons.2 ⟨i64_wf w2, List.forall_mem_cons.2 ⟨i64_wf w3, List.forall_mem_cons.2 ⟨i64_wf w4, List.forall_mem_cons.2 ⟨i64_wf w5, List.forall_mem_cons.2 ⟨i64_wf w6, List.forall_mem_cons.2 ⟨i64_wf w7, List.forall_mem_cons.2 ⟨i64_wf w8, List.forall_mem_cons.2 ⟨i64_wf w9, fun _ h => (by cases h)⟩⟩⟩⟩⟩⟩⟩⟩⟩), w10, v1, by rw [List.length_map]; exact n11, v2⟩
theorem agg_inB {H : AH} {cs : List Value} {x} (h : RB_api_Aggregate H cs x) : ∃ f v, cs = aC f v ∧ ∀ i, I64 (v i) := by
  obtain ⟨_, _, rfl, ⟨_, _, rfl, rfl, _, _, rfl, rfl, _, _, rfl, rfl, _, _, rfl, rfl, _, _, rfl, rfl, rfl⟩, _, _, rfl, ⟨_, _, rfl, ⟨rfl, w1⟩, _, _, rfl, ⟨rfl, w2⟩, _, _, rfl, ⟨rfl, w3⟩, _, _, rfl, ⟨rfl, w4⟩, _, _, rfl, ⟨rfl, w5⟩, rfl⟩, rfl⟩ := h
  exact ⟨fb [x.1.1, x.1.2.1, x.1.2.2.1, x.1.2.2.2.1, x.1.2.2.2.2.1], fi [x.2.1.1, x.2.1.2.1, x.2.1.2.2.1, x.2.1.2.2.2.1, x.2.1.2.2.2.2.1], rfl, fi_i64 (List.forall_mem_cons.2 ⟨i64_wf w1, List.forall_mem_cons.2 ⟨i64_wf w2, List.forall_mem_cons.2 ⟨i64_wf w3, List.forall_mem_cons.2 ⟨i64_wf w4, List.forall_mem_cons.2 ⟨i64_wf w5, fun _ h => (by cases h)⟩⟩⟩⟩⟩)⟩
theorem rep_inB {H : AH} (ok : Ok H) {cs : List Value} {x} (h : RB_api_Report H cs x) : ∃ f ha v a l c vs, cs = repC f ha v a l c ∧ (∀ i, I64 (f i)) ∧ (∀ i, I64 (v i)) ∧ SlE (fun b => b < H.next) H a l vs ∧ (∀ e ∈ vs, PairI e) ∧ vs.length ≤ 1048576 := by
  obtain ⟨_, _, rfl, ⟨rfl, w1⟩, _, _, rfl, ⟨rfl, w2⟩, _, _, rfl, ⟨rfl, w3⟩, _, _, rfl, ⟨rfl, w4⟩, _, _, rfl, ⟨rfl, w5⟩, _, _, rfl, ⟨rfl, w6⟩, _, _, rfl, ⟨rfl, w7⟩, _, _, rfl, ⟨rfl, w8⟩, _, _, rfl, ⟨rfl, w9⟩, cg, _, rfl, hg, _, _, rfl, ⟨a, l, c, rfl, s, n⟩, rfl⟩ := h
  obtain ⟨ha, v, rfl, hv⟩ := agg_inB hg
  obtain ⟨r1, _, r2⟩ := valsB_in ok s
  exact ⟨fi [x.1, x.2.1, x.2.2.1, x.2.2.2.1, x.2.2.2.2.1, x.2.2.2.2.2.1, x.2.2.2.2.2.2.1, x.2.2.2.2.2.2.2.1, x.2.2.2.2.2.2.2.2.1], ha, v, a, l, c, _, rfl, fi_i64 (List.forall_mem_cons.2 ⟨i64_wf w1, List.forall_mem_cons.2 ⟨i64_wf w2, List.forall_mem_cons.2 ⟨i64_wf w3, List.forall_mem_cons.2 ⟨i64_wf w4, List.forall_mem_cons.2 ⟨i64_wf w5, List.forall_mem_cons.2 ⟨i64_wf w6, List.forall_mem_cons.2 ⟨i64_wf w7, List.forall_mem_cons.2 ⟨i64_wf w8, List.forall_mem_cons.2 ⟨i64_wf w9, fun _ h => (by cases h)⟩⟩⟩⟩⟩⟩⟩⟩⟩), hv, r1, r2, by rw [List.length_map]; exact n⟩
theorem job_inB {H : AH} (ok : Ok H) {cs : List Value} {x} (h : RB_api_Job H cs x) : ∃ j a l c pa pl pc, cs = jC j a l c pa pl pc ∧ JobA j ∧ SlV (fun b => b < H.next) H a l j.graph ∧ SlI (fun b => b < H.next) H pa pl j.params := by
  obtain ⟨_, _, rfl, ⟨rfl, w1⟩, _, _, rfl, ⟨_, _, rfl, ⟨ga, gl, gc, rfl, sg, ng⟩, rfl⟩, _, _, rfl, ⟨pa, pl, pc, rfl, sp, np⟩, _, _, rfl, ⟨rfl, w2⟩, _, _, rfl, ⟨rfl, w3⟩, _, _, rfl, ⟨rfl, w4⟩, rfl⟩ := h
  obtain ⟨g1, g2⟩ := graphB_in ok sg ng
  obtain ⟨m1, m2⟩ := ints_in ok sp
  exact ⟨⟨x.1, x.2.1.1.map toVB, x.2.2.1, x.2.2.2.1, x.2.2.2.2.1, x.2.2.2.2.2.1⟩, ga, gl, gc, pa, pl, pc, rfl, ⟨w1, g2, np, m2, i64_wf w2, i64_wf w3, i64_wf w4⟩, g1, m1⟩
theorem task_inB {H : AH} (ok : Ok H) {cs : List Value} {x} (h : RB_api_Task H cs x) : ∃ (y : TaskW) (s2 : Nat → Sl3) (a : Option Addr) (l c : Nat) (pa : Option Addr) (pl pc : Nat), cs = tskC y.f s2 y.j a l c pa pl pc y.h y.v y.k ∧ (∀ i, I64 (y.f i)) ∧ (∀ i, I64 (y.v i)) ∧ (∀ i, i < 2 → (y.L i).length ≤ 1048576 ∧ ∀ e ∈ y.L i, I64 e) ∧ (∀ i, i < 2 → SlI (fun b => b < H.next) H (s2 i).1 (s2 i).2.1 (y.L i)) ∧ JobA y.j ∧ SlV (fun b => b < H.next) H a l y.j.graph ∧ SlI (fun b => b < H.next) H pa pl y.j.params := by
  obtain ⟨_, _, rfl, ⟨rfl, w1⟩, _, _, rfl, ⟨rfl, w2⟩, _, _, rfl, ⟨rfl, w3⟩, _, _, rfl, ⟨rfl, w4⟩, _, _, rfl, ⟨a0, l0, c0, rfl, s0, n0⟩, _, _, rfl, ⟨a1, l1, c1, rfl, s1, n1⟩, _, _, rfl, hj, _, _, rfl, hg, _, _, rfl, ⟨rfl, w5⟩, _, _, rfl, ⟨rfl, w6⟩, _, _, rfl, ⟨rfl, w7⟩, _, _, rfl, rfl, rfl⟩ := h
  obtain ⟨j, a, l, c, pa, pl, pc, rfl, k1, k2, k3⟩ := job_inB ok hj
  obtain ⟨hh, v, rfl, hv⟩ := agg_inB hg
  obtain ⟨p1, p2⟩ := ints_in ok s0
  obtain ⟨q1, q2⟩ := ints_in ok s1
  exact ⟨⟨fi [x.1, x.2.1, x.2.2.1, x.2.2.2.1, x.2.2.2.2.2.2.2.2.1, x.2.2.2.2.2.2.2.2.2.1, x.2.2.2.2.2.2.2.2.2.2.1], fun i => (match i with | 0 => x.2.2.2.2.1 | _ => x.2.2.2.2.2.1), hh, v, j, x.2.2.2.2.2.2.2.2.2.2.2.1⟩, fun i => (match i with | 0 => (a0, l0, c0) | _ => (a1, l1, c1)), a, l, c, pa, pl, pc, rfl, fi_i64 (List.forall_mem_cons.2 ⟨i64_wf w1, List.forall_mem_cons.2 ⟨i64_wf w2, List.forall_mem_cons.2 ⟨i64_wf w3, List.forall_mem_cons.2 ⟨i64_wf w4, List.forall_mem_cons.2 ⟨i64_wf w5, List.forall_mem_cons.2 ⟨i64_wf w6, List.forall_mem_cons.2 ⟨i64_wf w7, fun _ h => (by cases h)⟩⟩⟩⟩⟩⟩⟩), hv,
    fun i hi => (match i, hi with | 0, _ => ⟨n0, p2⟩ | 1, _ => ⟨n1, q2⟩), fun i hi => (match i, hi with | 0, _ => p1 | 1, _ => q1), k1, k2, k3⟩
theorem ask_inB {H : AH} {cs : List Value} {x} (h : RB_api_Ask H cs x) : ∃ kd se f t, cs = askC kd se f t ∧ I64 kd ∧ I64 se ∧ (∀ i, I64 (f i)) ∧ t.length ≤ 1048576 := by
  obtain ⟨_, _, rfl, ⟨rfl, w1⟩, _, _, rfl, ⟨rfl, w2⟩, _, _, rfl, ⟨rfl, w3⟩, _, _, rfl, ⟨rfl, w4⟩, _, _, rfl, ⟨rfl, w5⟩, rfl⟩ := h
  exact ⟨_, _, fi [x.2.2.1, x.2.2.2.2.1], _, rfl, i64_wf w1, i64_wf w2, fi_i64 (List.forall_mem_cons.2 ⟨i64_wf w3, List.forall_mem_cons.2 ⟨i64_wf w5, fun _ h => (by cases h)⟩⟩), w4⟩
theorem told_inB {H : AH} (ok : Ok H) {cs : List Value} {x} (h : RB_api_Told H cs x) : ∃ kd se f e k er st a l c vs, cs = tldC kd se f e k er st a l c ∧ I64 kd ∧ I64 se ∧ (∀ i, I64 (f i)) ∧ I64 e ∧ I64 k ∧ I64 er ∧ I64 st ∧ SlP (fun b => b < H.next) H a l vs ∧ (∀ e ∈ vs, I64 e.1 ∧ I64 e.2) ∧ vs.length ≤ 1048576 := by
  obtain ⟨_, _, rfl, ⟨rfl, w1⟩, _, _, rfl, ⟨rfl, w2⟩, _, _, rfl, ⟨rfl, w3⟩, _, _, rfl, ⟨_, _, rfl, ⟨rfl, w4⟩, _, _, rfl, ⟨rfl, w5⟩, rfl⟩, _, _, rfl, ⟨_, _, rfl, ⟨rfl, w6⟩, _, _, rfl, ⟨rfl, w7⟩, _, _, rfl, ⟨rfl, w8⟩, _, _, rfl, ⟨rfl, w9⟩, _, _, rfl, ⟨_, _, rfl, ⟨rfl, w10⟩, _, _, rfl, ⟨rfl, w11⟩, _, _, rfl, ⟨rfl, w12⟩, _, _, rfl, ⟨a13, l13, c13, rfl, s13, n13⟩, rfl⟩, rfl⟩, rfl⟩ := h
  obtain ⟨_, o1, o2⟩ := valsB_in ok s13
  exact ⟨_, _, fi [x.2.2.1, 0, x.2.2.2.1.2.1, x.2.2.2.2.1.1, x.2.2.2.2.1.2.1, x.2.2.2.2.1.2.2.1, x.2.2.2.2.1.2.2.2.1], _, _, _, _, _, _, _, _, rfl, i64_wf w1, i64_wf w2, fi_i64 (List.forall_mem_cons.2 ⟨i64_wf w3, List.forall_mem_cons.2 ⟨i64_0, List.forall_mem_cons.2 ⟨i64_wf w5, List.forall_mem_cons.2 ⟨i64_wf w6, List.forall_mem_cons.2 ⟨i64_wf w7, List.forall_mem_cons.2 ⟨i64_wf w8, List.forall_mem_cons.2 ⟨i64_wf w9, fun _ h => (by cases h)⟩⟩⟩⟩⟩⟩⟩), i64_wf w4, i64_wf w10, i64_wf w11, i64_wf w12, o1, o2, by rw [List.length_map]; exact n13⟩
theorem batch_inB {H : AH} (ok : Ok H) {cs : List Value} {x} (h : RB_api_Batch H cs x) : ∃ (f : Nat → Int) (ma : Option Addr) (ml mc : Nat) (ua : Option Addr) (ul uc : Nat) (ms us : List Four), cs = [.int .i64 (f 0), .int .i64 (f 1), .int .i64 (f 2), .int .i64 (f 3), .slice ma ml mc, .slice ua ul uc] ∧ (∀ i, I64 (f i)) ∧ SlF (fun b => b < H.next) H ma ml ms ∧ SlF (fun b => b < H.next) H ua ul us ∧ (∀ e ∈ ms, FourI e) ∧ (∀ e ∈ us, FourI e) ∧ ms.length ≤ 1048576 ∧ us.length ≤ 1048576 := by
  obtain ⟨_, _, rfl, ⟨rfl, w1⟩, _, _, rfl, ⟨rfl, w2⟩, _, _, rfl, ⟨rfl, w3⟩, _, _, rfl, ⟨rfl, w4⟩, _, _, rfl, ⟨a5, l5, c5, rfl, s5, n5⟩, _, _, rfl, ⟨a6, l6, c6, rfl, s6, n6⟩, rfl⟩ := h
  obtain ⟨f1, f2⟩ := fours_in ok s5
  obtain ⟨u1, u2⟩ := fours_in ok s6
  exact ⟨fi [x.1, x.2.1, x.2.2.1, x.2.2.2.1], _, _, _, _, _, _, _, _, rfl, fi_i64 (List.forall_mem_cons.2 ⟨i64_wf w1, List.forall_mem_cons.2 ⟨i64_wf w2, List.forall_mem_cons.2 ⟨i64_wf w3, List.forall_mem_cons.2 ⟨i64_wf w4, fun _ h => (by cases h)⟩⟩⟩⟩), f1, u1, f2, u2, by rw [List.length_map]; exact n5, by rw [List.length_map]; exact n6⟩
set_option maxRecDepth 100000 in
theorem say_in {H : AH} (ok : Ok H) {cs : List Value} {x} (h : RB_api_Say H cs x) : ∃ w : SayW, cs = sayC w ∧ SayS (fun b => b < H.next) H w ∧ SayI w ∧ (sayB w).length ≤ 140737270000000 := by
  obtain ⟨c1, d1, e1, ⟨k1, w1⟩, c2, d2, e2, h2, c3, d3, e3, ⟨k3, w3⟩, c4, d4, e4, ⟨k4, w4⟩, c5, d5, e5, k5, c6, d6, e6, h6, c7, d7, e7, h7, c8, d8, e8, ⟨k8, w8⟩, c9, d9, e9, h9, c10, d10, e10, h10, c11, d11, e11, h11, e12⟩ := h
  obtain ⟨vf, vt, va, vl, vc, ve, k2, v1, v2, v4', v4, v5⟩ := view_inB ok h2
  obtain ⟨rf, rh, rv, ra, rl, rc, rs, k6, r1, r2, r3, r4, r5⟩ := rep_inB ok h6
  obtain ⟨tk, ts, ga, gl, gc, pa, pl, pc, k7, t1, t2, t3, t4, t5, t6, t7⟩ := task_inB ok h7
  obtain ⟨ak, ase, af, at', k9, a1, a2, a3, a4⟩ := ask_inB h9
  obtain ⟨tkd, tse, tf, te, ok', oer, ost, oa, ol, oc, os, k10, o1, o2, o3, o4, o5, o6, o7, o8, o9, o10⟩ := told_inB ok h10
  obtain ⟨bf, ma, ml, mc, ua, ul, uc, ms, us, k11, b1, b2, b3, b4, b5, b6, b7⟩ := batch_inB ok h11
  have hvw : (vwB vf vt ve).length ≤ 2000000000000 := by
    have d1 := rangeB_len (g := fun i => enc (vf i).toNat) (m := 10) (fun i => encI_len (v1 i)) 9
    have d2 := txtB_len' (s := vt) (by omega)
    have d3 := enc_len64 (n := ve.length) (by omega)
    have d4 := flat_len (B := entB) (m := 1048606) (xs := ve) fun e he => by
      obtain ⟨e1, e2⟩ := v5 e he
      have h1 := encI_len e1
      have h2 := txtB_len' (s := e.2) (by omega)
      unfold entB; rw [List.length_append]; omega
    unfold vwB; simp only [List.length_append]; omega
  obtain ⟨w, hw⟩ : ∃ w : SayW, w = { kd := x.1, vf := vf, vt := vt, ve := ve, va := va, vl := vl, vc := vc, wk := x.2.2.1, li := x.2.2.2.1, has := x.2.2.2.2.1, rf := rf, rh := rh, rv := rv, rs := rs, ra := ra, rl := rl, rc := rc, tk := tk, ts := ts, ga := ga, gl := gl, gc := gc, pa := pa, pl := pl, pc := pc, ld := x.2.2.2.2.2.2.2.1, ak := ak, ase := ase, af := af, at' := at', tkd := tkd, tse := tse, tf := tf, te := te, ok := ok', oer := oer, ost := ost, os := os, oa := oa, ol := ol, oc := oc, bf := bf, ms := ms, ma := ma, ml := ml, mc := mc, us := us, ua := ua, ul := ul, uc := uc } := ⟨_, rfl⟩
  have hI : SayI w := by
    rw [hw]
    exact { kd := i64_wf w1, vf := v1, ve := fun e he => (v5 e he).1, vl := by show ve.length ≤ 4000000; omega, vb := by show (vwB vf vt ve).length ≤ 140737480000000; omega, wk := i64_wf w3, li := i64_wf w4, rf := r1, rv := r2, rs := r4, rl := by show rs.length ≤ 4000000; omega, tf := t1, tv := t2, tL := t3, tj := t5, ld := i64_wf w8, ak := a1, ase := a2, af := a3, at' := by show at'.length ≤ 140737280000000; omega,
            tkd := o1, tse := o2, tof := o3, te := o4, ok := o5, oer := o6, ost := o7, os := o9, ol := by show os.length ≤ 4000000; omega, bf := b1, ms := b4, ml := by show ms.length ≤ 4000000; omega, us := b5, ul := by show us.length ≤ 4000000; omega }
  refine ⟨w, ?_, ?_, hI, sayB_len hI (by rw [hw]; exact hvw) (by rw [hw]; exact a4)⟩
  · rw [e1, e2, e3, e4, e5, e6, e7, e8, e9, e10, e11, e12, k1, k2, k3, k4, k5, k6, k7, k8, k9, k10, k11, hw, List.append_nil]
    simp only [sayC, List.cons_append, List.nil_append]
  · rw [hw]; exact ⟨v4', r3, t4, t6, t7, o8, b2, b3⟩
theorem law_says_in {H : AH} {vs : List Value} {c1 c2 : List Value} {x y} (ok : Ok H) (hv : vs = [.agg ⟨c1⟩] ++ c2) (h1 : RB_api_Say H c1 x) (h2 : RStrB 1048576 H c2 y) :
    FW Ee F_cohortlaw18_ServeSays vs H fun r H' => r = .bool true ∧ Grow H H' := by
  subst hv
  obtain ⟨w, rfl, hS, hI, hB⟩ := say_in ok h1
  obtain ⟨rfl, hs⟩ := h2
  exact law_says ok hI hS (fun _ h => h) hB (by omega)
end Go.Proofs.Cx
