/- spec.of: a graph by places. spec.of, whole. Neighbours; slices.Index, Contains. spec.Matched; SpecMatched. -/
import Derived.Test.YtojohclbjcnhaaaC2
namespace Go.Ev
open Go

def rawOut (G : List Vtx) (done : List (Int × Int × Int)) (i : Nat) : List Int := (done.filter fun x => fnd G x.1 == i).map fun x => (fnd G x.2.1 : Int)
def contrib (p q i : Nat) : List Int := if p = q then [] else if i = p then [(q : Int)] else if i = q then [(p : Int)] else []
def rawBoth (G : List Vtx) (done : List (Int × Int × Int)) (i : Nat) : List Int := done.flatMap fun x => contrib (fnd G x.1) (fnd G x.2.1) i
def raws (G : List Vtx) (done : List (Int × Int × Int)) (i : Nat) : List Int := if i < G.length then rawOut G done i else rawBoth G done (i - G.length)
theorem rawOut_snoc (G : List Vtx) (done : List (Int × Int × Int)) (x : Int × Int × Int) (i : Nat) : rawOut G (done ++ [x]) i = rawOut G done i ++ (if fnd G x.1 = i then [(fnd G x.2.1 : Int)] else []) := by
  simp only [rawOut, List.filter_append, List.map_append]
  congr 1
  by_cases h : fnd G x.1 = i <;> simp [h]
theorem rawBoth_snoc (G : List Vtx) (done : List (Int × Int × Int)) (x : Int × Int × Int) (i : Nat) : rawBoth G (done ++ [x]) i = rawBoth G done i ++ contrib (fnd G x.1) (fnd G x.2.1) i := by simp [rawBoth]
theorem contrib_len (p q i : Nat) : (contrib p q i).length ≤ 1 := by
  unfold contrib; split
  · simp
  · split
    · simp
    · split <;> simp
theorem raws_len (G : List Vtx) (done : List (Int × Int × Int)) (i : Nat) : (raws G done i).length ≤ done.length := by
  unfold raws
  split
  · unfold rawOut; rw [List.length_map]; exact List.length_filter_le _ _
  · unfold rawBoth
    induction done with
    | nil => simp
    | cons x l ih => rw [List.flatMap_cons, List.length_append, List.length_cons]; have := contrib_len (fnd G x.1) (fnd G x.2.1) (i - G.length); omega

theorem not_off {a : Option Addr} {b : Nat} (h : ¬ Off a b) : ∃ x, a = some x ∧ x.block = b := by
  cases a with
  | none => exact (h fun x e => by cases e).elim
  | some x =>
    by_cases e : x.block = b
    · exact ⟨x, rfl, e⟩
    · exact (h fun y ey => by cases ey; exact e).elim
theorem Fam.congr {H : AH} {n0 N : Nat} {sl : Nat → SW} {raw raw' : Nat → List Int} (h : Fam H n0 N sl raw) (e : ∀ i, i < N → raw i = raw' i) : Fam H n0 N sl raw' :=
  ⟨fun i hi => by rw [← e i hi]; exact h.own i hi, h.far, h.apart⟩
theorem SW.one (s : SW) : oneCell s.v = true := rfl

theorem cell_tab {H : AH} {b n i : Nat} {f : Nat → Value} (h : H.get b = some (.cells (tab f n) 0)) (hi : i < n) : H.cell b (0 + (i : Int).toNat * 1) = some (f i) :=
  cell_of h (by rw [show 0 + (i : Int).toNat * 1 = i from by omega]; exact tab_get hi)
theorem store_tab {H : AH} {b n i : Nat} {f : Nat → Value} {v : Value} (h : H.get b = some (.cells (tab f n) 0)) (hi : i < n) (hv : oneCell v = true) : storeCellsv H b (0 + (i : Int).toNat * 1) [v] = some (H.set b (.cells (tab (upd f i v) n) 0)) := by
  rw [show 0 + (i : Int).toNat * 1 = i from by omega, store_of h (by rw [tab_len]; simp; omega) (by simp [hv]), lset_one (by rw [tab_len]; exact hi), tab_set hi]
/-- what the loop's state is -/
structure OfR (G : List Vtx) (a : Option Addr) (l c lp : Nat) (L : ALoop) (gb nb ob bb n0 : Nat) (σ : Nat → SW) (done : List (Int × Int × Int)) (H : AH) : Prop where
  lp : H.get lp = some (.loop L)
  g : H.get gb = some (.cells [.slice a l c] 0)
  n : H.get nb = some (.cells [.slice a l c, .slice (some ⟨ob, 0, none⟩) G.length (2 * G.length), .slice (some ⟨bb, 0, none⟩) G.length (2 * G.length)] 0)
  o : H.get ob = some (.cells (tab (fun i => (σ i).v) G.length) 0)
  b : H.get bb = some (.cells (tab (fun i => (σ (G.length + i)).v) G.length) 0)
  fam : Fam H n0 (2 * G.length) σ (raws G done)
def OfT (N lp ob bb : Nat) (σ : Nat → SW) (b : Nat) : Prop := b = lp ∨ b = ob ∨ b = bb ∨ ∃ i, i < N ∧ ¬ Off (σ i).a b
structure OfB (lp gb nb ob bb n0 : Nat) : Prop where
  lpg : lp ≠ gb
  lpn : lp ≠ nb
  lpo : lp ≠ ob
  lpb : lp ≠ bb
  og : ob ≠ gb
  on : ob ≠ nb
  ob_ : ob ≠ bb
  bg : bb ≠ gb
  bn : bb ≠ nb
  lp0 : lp < n0
  g0 : gb < n0
  n_0 : nb < n0
  o0 : ob < n0
  b0 : bb < n0
end Go.Ev
namespace Go.Proofs.Cx
open Go Go.Ev

theorem of_round {F : Nat → Prop} {G : List Vtx} {a : Option Addr} {l c lp gb nb ob bb n0 : Nat} {L : ALoop} {σ : Nat → SW} {done rest : List (Int × Int × Int)} {x : Int × Int × Int} {Hx : AH} (hM : May G) (ok : Ok Hx) (hG : SlV F Hx a l G)
    (hL : RdL 96 Ee.g [(1, .pointer (some ⟨gb, 0, none⟩)), (3, .pointer (some ⟨nb, 0, none⟩))] (rfOf Ee F_spec_of 0) L) (hst : L.st = .ready) (hpd : L.pend = none) (hsp : flatE G = done ++ x :: rest)
    (r : OfR G a l c lp L gb nb ob bb n0 σ done Hx) (hB : OfB lp gb nb ob bb n0) (hn0 : n0 ≤ Hx.next) (hF : ∀ b, F b → b ≠ lp) :
    RW Ee lp [.int .i64 x.1, .agg ⟨[.int .i64 x.2.1, .int .i64 x.2.2]⟩] Hx fun v H2 => v = .bool true ∧ ∃ σ', OfR G a l c lp L gb nb ob bb n0 σ' (done ++ [x]) H2 ∧ Mod (OfT (2 * G.length) lp ob bb σ) Hx H2 ∧
      ∀ b, OfT (2 * G.length) lp ob bb σ' b → OfT (2 * G.length) lp ob bb σ b ∨ Hx.next ≤ b := by
  have hlen := hG.len
  have hlM := hM.len
  have hr := hM.steps.rising
  obtain ⟨k, j, hk, hj, rfl⟩ := flatE_mem (x := x) (by rw [hsp]; simp)
  have hlenE := flatE_len G
  have hlt : done.length < nE G := by rw [← hlenE, hsp]; simp
  have hmany := hM.many
  obtain ⟨hf2, hfid⟩ := isIn_spec (hM.edges k j hk hj).1
  have hf1 := fnd_self hr hk
  obtain ⟨q, hq⟩ : ∃ q, q = fnd G G[k].edges[j].1 := ⟨_, rfl⟩
  rw [← hq] at hf2
  refine rw_spec_of_r0 r.lp hL ?_
  intro Hy ey
  obtain ⟨Hz, ez, bz, gz, nz⟩ := fresh_store (vs := [.int .i64 G[k].edges[j].1, .int .i64 G[k].edges[j].2]) ey rfl rfl ok
  have rz1 := gz.get _ _ id r.lp
  refine ⟨Hz, ez, L, rz1, hst, hL.body, ?_⟩
  have mw := Mod.set gz.ok rz1 (.loop { L with st := .busy })
  have sG : SlV F (Hz.set lp (.loop { L with st := .busy })) a l G := (hG.grow loc_vtx gz).mod loc_vtx mw fun b hb h => hF b hb h
  have g0 := hB.g0; have n_0 := hB.n_0; have o0 := hB.o0; have b0 := hB.b0; have lp0 := hB.lp0
  have w2 := mw.get _ _ hB.lpg.symm (gz.get _ _ id r.g)
  have w3 := mw.get _ _ hB.lpn.symm (gz.get _ _ id r.n)
  have w4 := mw.get _ _ hB.lpo.symm (gz.get _ _ id r.o)
  have w5 := mw.get _ _ hB.lpb.symm (gz.get _ _ id r.b)
  have wz := mw.get _ _ (by omega) bz
  have fw := (r.fam.grow gz).mod mw (fun b hb i hi => by subst hb; exact r.fam.low hB.lp0 i hi)
  refine ⟨a, l, c, cell_of w2 rfl, ?_⟩
  refine (gfind_ok mw.ok sG (by omega) hr).mono ?_
  rintro _ Hf ⟨rfl, gf⟩
  refine ⟨_, _, rfl, a, l, c, cell_of (gf.get _ _ id w2) rfl, _, cell_of (gf.get _ _ id wz) rfl, ?_⟩
  refine (gfind_ok gf.ok (sG.grow loc_vtx gf) (by omega) hr).mono ?_
  rintro _ Hg ⟨rfl, gg⟩
  have gfg := gf.trans gg
  rw [hf1, ← hq]
  have v3 := gfg.get _ _ id w3
  have v4 := gfg.get _ _ id w4
  have v5 := gfg.get _ _ id w5
  have vf := fw.grow gfg
  have nw : (Hz.set lp (.loop { L with st := .busy })).next = Hx.next + 1 := by rw [AH.set_next, nz]
  have nfg := gfg.next
  have hka : (k : Int).toNat * 1 = k := by omega
  have hqa : (q : Int).toNat * 1 = q := by omega
  have hk2 : k < 2 * G.length := by omega
  have lenB : ∀ i, i < 2 * G.length → (σ i).l ≤ 2048 := fun i hi => by
    have h1 := (r.fam.own i hi).num
    have h2 := raws_len G done i
    omega
  refine ⟨_, _, rfl, ?_⟩
  refine ⟨some ⟨ob, 0, none⟩, _, _, cell_of v3 rfl, some ⟨ob, 0, none⟩, _, _, cell_of v3 rfl, grd_intro rfl ⟨by omega, by omega, (σ k).a, (σ k).l, (σ k).c, ?_, ?_⟩⟩
  · exact cell_tab v4 hk
  intro H5 e5
  have g5 : Grow Hg H5 := e5 ▸ Grow.new gg.ok _
  have n5 : H5.next = Hg.next + 1 := by rw [e5]; rfl
  obtain ⟨H6, p1, p2, p3, p4⟩ := vf.push gg.ok (by omega) hk2 (q : Int) e5 (by have := lenB k hk2; omega)
  refine ⟨_, _, _, H6, p1, grd_intro rfl ⟨by omega, by omega, ?_⟩⟩
  obtain ⟨s1, hs1⟩ : ∃ s : SW, s = ⟨some ⟨H5.next, 0, none⟩, (σ k).l + 1, 2 * ((σ k).l + 1) + 1⟩ := ⟨_, rfl⟩
  rw [← hs1] at p2
  have s1v : Value.slice (some ⟨H5.next, 0, none⟩) ((σ k).l + 1) (2 * ((σ k).l + 1) + 1) = s1.v := by rw [hs1]; rfl
  rw [s1v]
  have low : ∀ {b i : Nat}, b < n0 → i < 2 * G.length → ¬ (¬ Off (σ i).a b) := fun hb hi h => h (r.fam.low hb _ hi)
  have x3 := p4.get _ _ (low n_0 hk2) (g5.get _ _ id v3)
  have x4 := p4.get _ _ (low o0 hk2) (g5.get _ _ id v4)
  have x5 := p4.get _ _ (low b0 hk2) (g5.get _ _ id v5)
  refine ⟨_, store_tab x4 hk rfl, ?_⟩
  have m7 := Mod.set p4.ok x4 (.cells (tab (upd (fun i => (σ i).v) k s1.v) G.length) 0)
  have o7 := get_set_self H6 ob (.cells (tab (upd (fun i => (σ i).v) k s1.v) G.length) 0)
  have f7 := p2.mod m7 fun b hb i hi => by subst hb; exact p2.low o0 i hi
  have y3 := m7.get _ _ hB.on.symm x3
  have y5 := m7.get _ _ hB.ob_.symm x5
  have lw := get_set_self Hz lp (.loop { L with st := .busy })
  have y1 := m7.get _ _ hB.lpo (p4.get _ _ (low lp0 hk2) (g5.get _ _ id (gfg.get _ _ id lw)))
  have y2 := m7.get _ _ hB.og.symm (p4.get _ _ (low g0 hk2) (g5.get _ _ id (gfg.get _ _ id w2)))
  have hLr : ({ L with st := LoopState.ready, pend := none } : ALoop) = L := by
    cases L; simp only at hst hpd; subst hst hpd; rfl
  have qm : ∀ {S' : Nat → Prop} {Ha Hb : AH}, Ok Ha → Mod S' Ha Hb → (∀ b, S' b → OfT (2 * G.length) lp ob bb σ b) → Mod (OfT (2 * G.length) lp ob bb σ) Ha Hb := fun ok h k => h.le (fun b hb _ => k b hb) ok
  have m07 : Mod (OfT (2 * G.length) lp ob bb σ) Hx (H6.set ob (.cells (tab (upd (fun i => (σ i).v) k s1.v) G.length) 0)) :=
    (qm ok gz (fun _ h => h.elim)).trans ((qm gz.ok mw (fun b h => .inl h)).trans ((qm mw.ok gfg (fun _ h => h.elim)).trans ((qm gg.ok g5 (fun _ h => h.elim)).trans ((qm g5.ok p4 (fun b h => .inr (.inr (.inr ⟨k, hk2, h⟩)))).trans (qm p4.ok m7 (fun b h => .inr (.inl h)))))))
  have nx7 : (H6.set ob (.cells (tab (upd (fun i => (σ i).v) k s1.v) G.length) 0)).next = Hg.next + 2 := by rw [AH.set_next, p3, n5]
  refine ⟨cell_tab (g5.get _ _ id v4) hk, cell_of (g5.get _ _ id v3) rfl, cell_of x3 rfl, cell_of (g5.get _ _ id v3) rfl, ?_⟩
  refine cond_intro (fun hne => ?_) (fun heq => ?_)
  · have hne : k ≠ q := by
      have : (k : Int) ≠ (q : Int) := by simpa using hne
      omega
    have hnk : G.length + k < 2 * G.length := by omega
    have hnq : G.length + q < 2 * G.length := by omega
    have u1 : upd σ k s1 (G.length + k) = σ (G.length + k) := upd_ne (by omega)
    refine ⟨some ⟨bb, 0, none⟩, _, _, cell_of y3 rfl, some ⟨bb, 0, none⟩, _, _, cell_of y3 rfl, some ⟨bb, 0, none⟩, _, _, cell_of y3 rfl, grd_intro rfl ⟨by omega, by omega, (σ (G.length + k)).a, (σ (G.length + k)).l, (σ (G.length + k)).c, ?_, ?_⟩⟩
    · exact cell_tab y5 hk
    intro H8 e8
    have g8 : Grow _ H8 := e8 ▸ Grow.new m7.ok _
    have n8 : H8.next = Hg.next + 3 := by rw [e8, AH.new_next]; exact congrArg (· + 1) nx7
    obtain ⟨H9, q1, q2, q3, q4⟩ := f7.push m7.ok (by omega) hnk (q : Int) e8 (by rw [u1]; have := lenB _ hnk; omega)
    rw [u1] at q1 q2 q4
    obtain ⟨s2, hs2⟩ : ∃ s : SW, s = ⟨some ⟨H8.next, 0, none⟩, (σ (G.length + k)).l + 1, 2 * ((σ (G.length + k)).l + 1) + 1⟩ := ⟨_, rfl⟩
    rw [← hs2] at q2
    have z3 := q4.get _ _ (low n_0 hnk) (g8.get _ _ id y3)
    have z5 := q4.get _ _ (low b0 hnk) (g8.get _ _ id y5)
    have z4 := q4.get _ _ (low o0 hnk) (g8.get _ _ id o7)
    have z1 := q4.get _ _ (low lp0 hnk) (g8.get _ _ id y1)
    have z2 := q4.get _ _ (low g0 hnk) (g8.get _ _ id y2)
    refine ⟨_, _, _, H9, q1, some ⟨bb, 0, none⟩, _, _, cell_of z3 rfl, grd_intro rfl ⟨by omega, by omega, (σ (G.length + q)).a, (σ (G.length + q)).l, (σ (G.length + q)).c, ?_, ?_⟩⟩
    · exact cell_tab z5 hf2
    intro H10 e10
    have g10 : Grow H9 H10 := e10 ▸ Grow.new q4.ok _
    have n10 : H10.next = H9.next + 1 := by rw [e10]; rfl
    have u2 : upd (upd σ k s1) (G.length + k) s2 (G.length + q) = σ (G.length + q) := by rw [upd_ne (by omega), upd_ne (by omega)]
    obtain ⟨H11, t1, t2, t3, t4⟩ := q2.push q4.ok (by omega) hnq (k : Int) e10 (by rw [u2]; have := lenB _ hnq; omega)
    rw [u2] at t1 t2 t4
    obtain ⟨s3, hs3⟩ : ∃ s : SW, s = ⟨some ⟨H10.next, 0, none⟩, (σ (G.length + q)).l + 1, 2 * ((σ (G.length + q)).l + 1) + 1⟩ := ⟨_, rfl⟩
    rw [← hs3] at t2
    have a3 := t4.get _ _ (low n_0 hnq) (g10.get _ _ id z3)
    have a5 := t4.get _ _ (low b0 hnq) (g10.get _ _ id z5)
    have a4 := t4.get _ _ (low o0 hnq) (g10.get _ _ id z4)
    have a1 := t4.get _ _ (low lp0 hnq) (g10.get _ _ id z1)
    have a2 := t4.get _ _ (low g0 hnq) (g10.get _ _ id z2)
    refine ⟨_, _, _, H11, t1, grd_intro rfl ⟨by omega, by omega, ?_⟩⟩
    have s2v : Value.slice (some ⟨H8.next, 0, none⟩) ((σ (G.length + k)).l + 1) (2 * ((σ (G.length + k)).l + 1) + 1) = s2.v := by rw [hs2]; rfl
    have s3v : Value.slice (some ⟨H10.next, 0, none⟩) ((σ (G.length + q)).l + 1) (2 * ((σ (G.length + q)).l + 1) + 1) = s3.v := by rw [hs3]; rfl
    rw [s2v, s3v]
    refine ⟨_, store_tab a5 hk rfl, ?_⟩
    have m12 := Mod.set t4.ok a5 (.cells (tab (upd (fun i => (σ (G.length + i)).v) k s2.v) G.length) 0)
    have o12 := get_set_self H11 bb (.cells (tab (upd (fun i => (σ (G.length + i)).v) k s2.v) G.length) 0)
    refine grd_intro rfl ⟨by omega, by omega, ?_⟩
    refine ⟨_, store_tab o12 hf2 rfl, ?_⟩
    have m13 := Mod.set m12.ok o12 (.cells (tab (upd (upd (fun i => (σ (G.length + i)).v) k s2.v) q s3.v) G.length) 0)
    have o13 := get_set_self (H11.set bb (.cells (tab (upd (fun i => (σ (G.length + i)).v) k s2.v) G.length) 0)) bb (.cells (tab (upd (upd (fun i => (σ (G.length + i)).v) k s2.v) q s3.v) G.length) 0)
    refine ⟨cell_tab (g10.get _ _ id z5) hf2, cell_tab (g8.get _ _ id y5) hf2, cell_of (g10.get _ _ id z3) rfl, cell_of (g8.get _ _ id y3) rfl,
      cell_tab (g8.get _ _ id y5) hk, cell_of (g8.get _ _ id y3) rfl, cell_of (m12.get _ _ hB.bn.symm a3) rfl, cell_of a3 rfl, cell_of (g10.get _ _ id z3) rfl, cell_of (g8.get _ _ id y3) rfl, cell_of a3 rfl, cell_of (g10.get _ _ id z3) rfl, cell_of (g8.get _ _ id y3) rfl, ?_⟩
    have l13 := m13.get _ _ hB.lpb (m12.get _ _ hB.lpb a1)
    have m14 := Mod.set m13.ok l13 (.loop L)
    refine ⟨_, l13, rfl, upd (upd (upd σ k s1) (G.length + k) s2) (G.length + q) s3, ?_, ?_, ?_⟩
    · simp only [hLr]
      refine ⟨get_set_self _ _ _, m14.get _ _ hB.lpg.symm (m13.get _ _ hB.bg.symm (m12.get _ _ hB.bg.symm a2)), m14.get _ _ hB.lpn.symm (m13.get _ _ hB.bn.symm (m12.get _ _ hB.bn.symm a3)), ?_, ?_, ?_⟩
      · refine Eq.trans (m14.get _ _ hB.lpo.symm (m13.get _ _ hB.ob_ (m12.get _ _ hB.ob_ a4))) ?_
        congr 2
        refine tab_congr fun i hi => ?_
        simp only [upd]
        rw [if_neg (show ¬ i = G.length + q by omega), if_neg (show ¬ i = G.length + k by omega)]
        split <;> rfl
      · refine Eq.trans (m14.get _ _ hB.lpb.symm o13) ?_
        congr 2
        refine tab_congr fun i hi => ?_
        simp only [upd]
        by_cases e1 : i = q
        · rw [if_pos e1, if_pos (show G.length + i = G.length + q by omega)]
        · rw [if_neg e1, if_neg (show ¬ G.length + i = G.length + q by omega)]
          by_cases e2 : i = k
          · rw [if_pos e2, if_pos (show G.length + i = G.length + k by omega)]
          · rw [if_neg e2, if_neg (show ¬ G.length + i = G.length + k by omega), if_neg (show ¬ G.length + i = k by omega)]
      · refine (((t2.mod m12 fun b hb i hi => by subst hb; exact t2.low b0 i hi).mod m13 fun b hb i hi => by subst hb; exact t2.low b0 i hi).mod m14 fun b hb i hi => by subst hb; exact t2.low lp0 i hi).congr fun i hi => ?_
        by_cases h2 : i = G.length + q
        · subst h2
          rw [upd_self, upd_ne (by omega), upd_ne (by omega)]
          simp only [raws]
          rw [if_neg (show ¬ G.length + q < G.length by omega), if_neg (show ¬ G.length + q < G.length by omega), Nat.add_sub_cancel_left, rawBoth_snoc, hf1, ← hq, contrib, if_neg hne, if_neg (fun e => hne e.symm), if_pos rfl]
        · rw [upd_ne h2]
          by_cases h3 : i = G.length + k
          · subst h3
            rw [upd_self, upd_ne (by omega)]
            simp only [raws]
            rw [if_neg (show ¬ G.length + k < G.length by omega), if_neg (show ¬ G.length + k < G.length by omega), Nat.add_sub_cancel_left, rawBoth_snoc, hf1, ← hq, contrib, if_neg hne, if_pos rfl]
          · rw [upd_ne h3]
            by_cases h4 : i = k
            · subst h4
              rw [upd_self]
              simp only [raws]
              rw [if_pos hk, if_pos hk, rawOut_snoc, hf1, ← hq, if_pos rfl]
            · rw [upd_ne h4]
              simp only [raws]
              by_cases h5 : i < G.length
              · rw [if_pos h5, if_pos h5, rawOut_snoc, hf1, if_neg (fun e => h4 e.symm), List.append_nil]
              · rw [if_neg h5, if_neg h5, rawBoth_snoc, hf1, ← hq, contrib, if_neg hne, if_neg (show ¬ i - G.length = k by omega), if_neg (show ¬ i - G.length = q by omega), List.append_nil]
    · simp only [hLr]
      exact m07.trans ((qm m7.ok g8 (fun _ h => h.elim)).trans ((qm g8.ok q4 (fun b h => .inr (.inr (.inr ⟨_, hnk, h⟩)))).trans ((qm q4.ok g10 (fun _ h => h.elim)).trans ((qm g10.ok t4 (fun b h => .inr (.inr (.inr ⟨_, hnq, h⟩)))).trans
        ((qm t4.ok m12 (fun b h => .inr (.inr (.inl h)))).trans ((qm m12.ok m13 (fun b h => .inr (.inr (.inl h)))).trans (qm m13.ok m14 (fun b h => .inl h))))))))
    · rintro b (h | h | h | ⟨i, hi, h⟩)
      · exact .inl (.inl h)
      · exact .inl (.inr (.inl h))
      · exact .inl (.inr (.inr (.inl h)))
      · simp only [upd] at h
        split at h
        · obtain ⟨y, ey, rfl⟩ := not_off h
          rw [hs3] at ey; cases ey
          right; simp only; omega
        · split at h
          · obtain ⟨y, ey, rfl⟩ := not_off h
            rw [hs2] at ey; cases ey
            right; simp only; omega
          · split at h
            · obtain ⟨y, ey, rfl⟩ := not_off h
              rw [hs1] at ey; cases ey
              right; simp only; omega
            · exact .inl (.inr (.inr (.inr ⟨i, hi, h⟩)))
  · have heq : k = q := by
      have : (k : Int) = (q : Int) := by simpa using heq
      omega
    have m14 := Mod.set m7.ok y1 (.loop L)
    refine ⟨_, y1, rfl, upd σ k s1, ?_, ?_, ?_⟩
    · simp only [hLr]
      refine ⟨get_set_self _ _ _, m14.get _ _ hB.lpg.symm y2, m14.get _ _ hB.lpn.symm y3, ?_, ?_, ?_⟩
      · refine Eq.trans (m14.get _ _ hB.lpo.symm o7) ?_
        congr 2
        refine tab_congr fun i hi => ?_
        simp only [upd]
        split <;> rfl
      · refine Eq.trans (m14.get _ _ hB.lpb.symm y5) ?_
        congr 2
        refine tab_congr fun i hi => ?_
        rw [upd_ne (by omega)]
      · refine (f7.mod m14 fun b hb i hi => by subst hb; exact f7.low lp0 i hi).congr fun i hi => ?_
        by_cases h4 : i = k
        · subst h4
          rw [upd_self]
          simp only [raws]
          rw [if_pos hk, if_pos hk, rawOut_snoc, hf1, ← hq, if_pos rfl]
        · rw [upd_ne h4]
          simp only [raws]
          by_cases h5 : i < G.length
          · rw [if_pos h5, if_pos h5, rawOut_snoc, hf1, if_neg (fun e => h4 e.symm), List.append_nil]
          · rw [if_neg h5, if_neg h5, rawBoth_snoc, hf1, ← hq, contrib, if_pos heq, List.append_nil]
    · simp only [hLr]
      exact m07.trans (qm m7.ok m14 (fun b h => .inl h))
    · rintro b (h | h | h | ⟨i, hi, h⟩)
      · exact .inl (.inl h)
      · exact .inl (.inr (.inl h))
      · exact .inl (.inr (.inr (.inl h)))
      · simp only [upd] at h
        split at h
        · obtain ⟨y, ey, rfl⟩ := not_off h
          rw [hs1] at ey; cases ey
          right; simp only; omega
        · exact .inl (.inr (.inr (.inr ⟨i, hi, h⟩)))
end Go.Proofs.Cx

namespace Go.Ev
open Go
def outs (G : List Vtx) : List (List Int) := (List.range G.length).map fun i => rawOut G (flatE G) i
def boths (G : List Vtx) : List (List Int) := (List.range G.length).map fun i => dd (sortI (rawBoth G (flatE G) i))
theorem outs_len (G : List Vtx) : (outs G).length = G.length := by simp [outs]
theorem boths_len (G : List Vtx) : (boths G).length = G.length := by simp [boths]
def PRow (F : Nat → Prop) (H : AH) (b o : Nat) (xs : List Int) : Prop := ∃ a l c, H.cell b o = some (.slice a l c) ∧ SlI F H a l xs ∧ Cap H a l c ∧ ∀ x, a = some x → F x.block

theorem loc_row {F : Nat → Prop} : Loc F (PRow F) := fun _ _ hk _ _ _ hb ⟨a, l, c, h1, h2, h3, h4⟩ => ⟨a, l, c, loc_cell hk hb h1, h2.keep loc_int hk,
  ⟨fun x ex => let ⟨h0, cs, es, hg⟩ := h3.here x ex
    ⟨h0, cs, es, hk _ _ (h4 x ex) hg⟩, fun hp => let ⟨b, cs, e1, e2, e3, e4⟩ := h3.room hp
    ⟨b, cs, e1, e2, e3, hk _ _ (h4 _ e1) e4⟩⟩, h4⟩
abbrev SlR (F : Nat → Prop) (H : AH) (a : Option Addr) (l : Nat) (xss : List (List Int)) : Prop := Sl F H 1 (PRow F) a l xss
theorem Sl.wide {α : Type} {F F' : Nat → Prop} {H : AH} {sz : Nat} {P : AH → Nat → Nat → α → Prop} {a : Option Addr} {l : Nat} {xs : List α} (h : Sl F H sz P a l xs) (k : ∀ b, F b → F' b) : Sl F' H sz P a l xs :=
  ⟨h.len, fun hp => ⟨(h.base hp).1, k _ (h.base hp).2⟩, h.cells⟩
/-- blocks made between -/
def New (H H' : AH) (b : Nat) : Prop := H.next ≤ b ∧ b < H'.next
end Go.Ev
namespace Go.Proofs.Cx
open Go Go.Ev

theorem of_ok {F : Nat → Prop} {a : Option Addr} {l c : Nat} {H : AH} {G : List Vtx} (ok : Ok H) (hG : SlV F H a l G) (hF : ∀ b, F b → b < H.next) (hM : May G) :
    FW Ee F_spec_of [.agg ⟨[.slice a l c]⟩] H fun r H' => ∃ ob bb c1 c2, r = .agg ⟨[.slice a l c, .slice (some ⟨ob, 0, none⟩) G.length c1, .slice (some ⟨bb, 0, none⟩) G.length c2]⟩ ∧
      SlR (New H H') H' (some ⟨ob, 0, none⟩) G.length (outs G) ∧ SlR (New H H') H' (some ⟨bb, 0, none⟩) G.length (boths G) ∧ Grow H H' := by
  have hlen := hG.len
  have hl := hM.len
  have hmany := hM.many
  have hfl := flatE_len G
  refine fw_spec_of ?_
  intro H1 e1
  have g1 : Grow H H1 := e1 ▸ Grow.new ok _
  have b1 : H1.get H.next = some (.cells [.slice a l c] 0) := e1 ▸ get_new_self _ _
  have n1 : H1.next = H.next + 1 := by rw [e1]; rfl
  intro H2 e2
  have g2 : Grow H1 H2 := e2 ▸ Grow.new g1.ok _
  have b2 : H2.get H1.next = some (.cells [.slice none 0 0, .slice none 0 0, .slice none 0 0] 0) := e2 ▸ get_new_self _ _
  have n2 : H2.next = H1.next + 1 := by rw [e2]; rfl
  have b12 := g2.get _ _ id b1
  refine ⟨a, l, c, cell_of b12 rfl, a, l, c, cell_of b12 rfl, by omega, by omega, by omega, by omega, ?_⟩
  intro H3 e3
  have g3 : Grow H2 H3 := e3 ▸ Grow.new g2.ok _
  have n3 : H3.next = H2.next + 1 := by rw [e3]; rfl
  have o3 : H3.get H2.next = some (.cells (tab (fun _ => SW.v ⟨none, 0, 0⟩) G.length) 0) := by
    rw [e3, get_new_self, tab_const, hlen]; rfl
  have b13 := g3.get _ _ id b12
  refine ⟨a, l, c, cell_of b13 rfl, by omega, by omega, by omega, by omega, ?_⟩
  intro H4 e4
  have g4 : Grow H3 H4 := e4 ▸ Grow.new g3.ok _
  have n4 : H4.next = H3.next + 1 := by rw [e4]; rfl
  have o4 : H4.get H3.next = some (.cells (tab (fun _ => SW.v ⟨none, 0, 0⟩) G.length) 0) := by
    rw [e4, get_new_self, tab_const, hlen]; rfl
  intro H5 e5
  have g5 : Grow H4 H5 := e5 ▸ Grow.new g4.ok _
  have b15 := g5.get _ _ id (g4.get _ _ id b13)
  obtain ⟨H6, e6, b6, g6, n6⟩ := fresh_store (vs := [.slice a l c, .slice (some ⟨H2.next, 0, none⟩) ((l : Int)).toNat (2 * ((l : Int)).toNat), .slice (some ⟨H3.next, 0, none⟩) ((l : Int)).toNat (2 * ((l : Int)).toNat)]) e5 rfl rfl g4.ok
  have b16 := g6.get _ _ id (g4.get _ _ id b13)
  refine ⟨H6, e6, cell_of b15 rfl, cell_of b15 rfl, cell_of b15 rfl, a, l, c, cell_of b16 rfl, ?_⟩
  refine (all_ok g6.ok).mono ?_
  rintro _ H7 ⟨rfl, b7, g7⟩
  refine ⟨H6.next, rfl, ?_⟩
  intro L hL hst hpd
  have n7 := g7.next
  have g8 : Grow H7 (H7.new (.loop L)) := Grow.new g7.ok _
  have n8 : (H7.new (.loop L)).next = H7.next + 1 := rfl
  have g68 := g7.trans g8
  have g48 := g6.trans g68
  have g08 : Grow H (H7.new (.loop L)) := (((g1.trans g2).trans g3).trans g4).trans g48
  have hlt : ((l : Int)).toNat = G.length := by omega
  rw [hlt] at b6
  have hB : OfB H7.next H.next H4.next H2.next H3.next (H7.next + 1) := ⟨by omega, by omega, by omega, by omega, by omega, by omega, by omega, by omega, by omega, by omega, by omega, by omega, by omega, by omega⟩
  refine (all2_ok (St := Nat → SW) (F := F) (T := OfT (2 * G.length) H7.next H2.next H3.next) (s0 := fun _ => ⟨none, 0, 0⟩) (R := OfR G a l c H7.next L H.next H4.next H2.next H3.next (H7.next + 1)) g8.ok (a := a) (l := l) (c := c) (G := G) ?_ (by omega) ?_ ?_ ?_ ?_ ?_ ?_).mono ?_
  · exact hG.grow loc_vtx g08
  · intro v hv
    have h1 : v.edges.length ≤ nE G := by
      obtain ⟨k, hk, rfl⟩ := List.mem_iff_getElem.1 hv
      have h2 := nE_take hk
      have h3 := nE_take_le G (k + 1)
      omega
    omega
  · exact cell_of (g8.get _ _ id b7) rfl
  · intro s done Hx okx r b hb
    have inF : ∀ b, H.next ≤ b → ¬ F b := fun b h hf => by have := hF b hf; omega
    rcases hb with rfl | rfl | rfl | ⟨i, hi, h⟩
    · exact ⟨okx.lt r.lp, inF _ (by omega)⟩
    · exact ⟨okx.lt r.o, inF _ (by omega)⟩
    · exact ⟨okx.lt r.b, inF _ (by omega)⟩
    · obtain ⟨x, ex, rfl⟩ := not_off h
      have := r.fam.far i hi x ex
      exact ⟨(r.fam.own i hi).lt okx ex, inF _ (by omega)⟩
  · refine ⟨get_new_self _ _, ?_, g68.get _ _ id b6, g48.get _ _ id (g4.get _ _ id o3), g48.get _ _ id o4, ?_⟩
    · exact (((g2.trans g3).trans g4).trans g48).get _ _ id b1
    · refine ⟨fun i hi => ?_, fun i hi x e => (by cases e), fun i j _ _ _ x y e => (by cases e)⟩
      have : raws G [] i = [] := by unfold raws rawOut rawBoth; split <;> rfl
      rw [this]
      exact Own.nil _ _
  · rintro s done Ha Hb r g
    exact ⟨g.get _ _ id r.lp, g.get _ _ id r.g, g.get _ _ id r.n, g.get _ _ id r.o, g.get _ _ id r.b, r.fam.grow g⟩
  · rintro s done x rest Hx hsp r okx mx
    have hT : ∀ b, F b → ¬ OfT (2 * G.length) H7.next H2.next H3.next (fun _ => ⟨none, 0, 0⟩) b := by
      rintro b hf (h | h | h | ⟨i, hi, h⟩)
      · have := hF b hf; omega
      · have := hF b hf; omega
      · have := hF b hf; omega
      · exact h fun x e => by cases e
    exact of_round hM okx ((hG.grow loc_vtx g08).mod loc_vtx mx hT) hL hst hpd hsp r hB (by have := mx.next; omega) (fun b hf => by have := hF b hf; omega)
  · rintro _ H8 ⟨σ, r, m8⟩
    have inF0 : ∀ b, OfT (2 * G.length) H7.next H2.next H3.next (fun _ => ⟨none, 0, 0⟩) b → b = H7.next ∨ b = H2.next ∨ b = H3.next := by
      rintro b (h | h | h | ⟨i, hi, h⟩)
      · exact .inl h
      · exact .inr (.inl h)
      · exact .inr (.inr h)
      · exact (h fun x e => by cases e).elim
    have n8' := m8.next
    have m9 := Mod.set m8.ok r.lp (.loop { L with st := .exhausted, pend := none })
    refine ⟨L, r.lp, by rw [hst]; simp, ?_⟩
    simp only [hpd]
    have a_n := m9.get _ _ hB.lpn.symm r.n
    have a_o := m9.get _ _ hB.lpo.symm r.o
    have a_b := m9.get _ _ hB.lpb.symm r.b
    have a_r := m9.get _ _ (show ¬ H1.next = H7.next by omega) (m8.get H1.next _ (fun h => by have := inF0 _ h; omega) ((((g3).trans g4).trans g48).get _ _ id b2))
    have a_f := r.fam.mod m9 fun b hb i hi => by subst hb; exact r.fam.low hB.lp0 i hi
    have a_g : Grow H _ := (Mod.ext g08 m8 ok (fun b hb => .inr (by have := inF0 _ hb; omega))).ext m9 ok (fun b hb => .inr (by omega))
    have g0 := hB.g0; have n_0 := hB.n_0; have o0 := hB.o0; have b0 := hB.b0; have lp0 := hB.lp0
    refine ⟨_, _, _, cell_of a_n rfl, ?_⟩
    refine ⟨fun m i Hb => ∃ (p : Nat) (τ : Nat → SW), i = p ∧ p ≤ G.length ∧ m = G.length - p ∧ Hb.get H4.next = some (.cells [.slice a l c, .slice (some ⟨H2.next, 0, none⟩) G.length (2 * G.length), .slice (some ⟨H3.next, 0, none⟩) G.length (2 * G.length)] 0) ∧
        Hb.get H1.next = some (.cells [.slice none 0 0, .slice none 0 0, .slice none 0 0] 0) ∧ Hb.get H2.next = some (.cells (tab (fun i => (σ i).v) G.length) 0) ∧ Hb.get H3.next = some (.cells (tab (fun i => (τ i).v) G.length) 0) ∧
        (∀ i, i < G.length → p ≤ i → τ i = σ (G.length + i)) ∧ (∀ i, i < G.length → Own Hb 1 (σ i).a (σ i).l (σ i).c ((rawOut G (flatE G) i).map iv)) ∧
        (∀ i, i < G.length → p ≤ i → Own Hb 1 (σ (G.length + i)).a (σ (G.length + i)).l (σ (G.length + i)).c ((rawBoth G (flatE G) i).map iv)) ∧
        (∀ i, i < G.length → i < p → (τ i).a = (σ (G.length + i)).a ∧ SlI (fun b => ¬ Off (σ (G.length + i)).a b) Hb (τ i).a (τ i).l (dd (sortI (rawBoth G (flatE G) i))) ∧ Cap Hb (τ i).a (τ i).l (τ i).c) ∧ Hb.next = H8.next ∧ Grow H Hb,
      ⟨_, 0, fun i => σ (G.length + i), rfl, by omega, rfl, a_n, a_r, a_o, a_b, fun i _ _ => rfl, fun i hi => ?_, fun i hi _ => ?_, fun i _ h => by omega, rfl, a_g⟩, ?_⟩
    · have h := a_f.own i (by omega)
      unfold raws at h
      rw [if_pos hi] at h; exact h
    · have h := a_f.own (G.length + i) (by omega)
      unfold raws at h
      rw [if_neg (by omega), Nat.add_sub_cancel_left] at h; exact h
    rintro m i Hb ⟨p, τ, rfl, hp, rfl, c_n, c_r, c_o, c_b, hτ, hOut, hRaw, hDone, hnx, hgr⟩
    refine cond_dec (fun hlt2 => ?_) (fun hge => ?_)
    · have hk : p < G.length := by omega
      have eτ := hτ p hk (Nat.le_refl _)
      have hnp : G.length + p < 2 * G.length := by omega
      have hbound : (σ (G.length + p)).l ≤ 2048 := by
        have h1 := (hRaw p hk (Nat.le_refl _)).num
        have h2 := raws_len G (flatE G) (G.length + p)
        unfold raws at h2
        rw [if_neg (by omega), Nat.add_sub_cancel_left] at h2
        omega
      have low : ∀ {b : Nat}, b < H7.next + 1 → ¬ (¬ Off (σ (G.length + p)).a b) := fun hb h => h (r.fam.low hb _ hnp)
      refine grd_intro rfl ⟨by omega, by omega, (σ (G.length + p)).a, (σ (G.length + p)).l, (σ (G.length + p)).c, ?_, ?_⟩
      · have h := cell_tab c_b hk
        simp only [eτ] at h
        exact h
      refine (sort_ok hgr.ok (hRaw p hk (Nat.le_refl _)) (by omega)).mono ?_
      rintro _ H15 ⟨rfl, s1, s2, s3⟩
      refine ⟨rfl, _, _, _, cell_of (s3.get _ _ (low n_0) c_n) rfl, ?_⟩
      refine (compact_ok (F := fun b => ¬ Off (σ (G.length + p)).a b) s3.ok s1 (by omega) (fun x e h => h x e rfl)).mono ?_
      rintro _ H16 ⟨l', c', rfl, t1, tc, t2, t3⟩
      have st := s3.trans t3
      have d_n := st.get _ _ (low n_0) c_n
      have d_r := st.get _ _ (low (show H1.next < H7.next + 1 by omega)) c_r
      have d_o := st.get _ _ (low o0) c_o
      have d_b := st.get _ _ (low b0) c_b
      refine ⟨_, _, _, rfl, grd_intro rfl ⟨by omega, by omega, ?_⟩⟩
      refine ⟨_, store_tab d_b hk rfl, cell_of d_n rfl, ?_⟩
      intro t94 e94
      rw [wrap_i64 (by omega) (by omega)] at e94
      subst e94
      have m17 := Mod.set st.ok d_b (.cells (tab (upd (fun i => (τ i).v) p (.slice (σ (G.length + p)).a l' c')) G.length) 0)
      refine ⟨G.length - (p + 1), by omega, p + 1, upd τ p ⟨(σ (G.length + p)).a, l', c'⟩, by simp, by omega, rfl, m17.get _ _ hB.bn.symm d_n, m17.get _ _ (by omega) d_r, m17.get _ _ hB.ob_ d_o, ?_, ?_, ?_, ?_, ?_, ?_, ?_⟩
      · refine (get_set_self _ _ _).trans ?_
        congr 2
        refine tab_congr fun i hi => ?_
        simp only [upd]
        split <;> rfl
      · intro i hi h
        rw [upd_ne (by omega)]
        exact hτ i hi (by omega)
      · intro i hi
        exact ((hOut i hi).mod st fun b hb => r.fam.off hnp (by omega) (by omega) hb).mod m17 fun b hb => by subst hb; exact r.fam.low b0 i (by omega)
      · intro i hi h
        exact ((hRaw i hi (by omega)).mod st fun b hb => r.fam.off hnp (by omega) (by omega) hb).mod m17 fun b hb => by subst hb; exact r.fam.low b0 _ (by omega)
      · intro i hi h
        have fin : ∀ {i : Nat}, i < G.length → ∀ b, ¬ Off (σ (G.length + i)).a b → ¬ b = H3.next := fun hi b hb e => by subst e; exact hb (r.fam.low b0 _ (by omega))
        rcases Nat.lt_or_ge i p with h1 | h1
        · rw [upd_ne (by omega)]
          obtain ⟨q1, q2, q3⟩ := hDone i hi h1
          exact ⟨q1, (q2.mod loc_int st fun b hb hb2 => hb (r.fam.off hnp (by omega) (by omega) hb2)).mod loc_int m17 (fin hi),
            (q3.mod st fun b hb => by rw [q1]; exact r.fam.off hnp (by omega) (by omega) hb).mod m17 fun b hb => by subst hb; rw [q1]; exact r.fam.low b0 _ (by omega)⟩
        · have : i = p := by omega
          subst this
          rw [upd_self]
          exact ⟨rfl, t1.mod loc_int m17 (fin hi), tc.mod m17 fun b hb => by subst hb; exact r.fam.low b0 _ (by omega)⟩
      · show H16.next = _
        rw [t2, s2, hnx]
      · refine (hgr.ext st ok ?_).ext m17 ok fun b hb => .inr (by omega)
        intro b hb
        obtain ⟨x, ex, rfl⟩ := not_off hb
        have := r.fam.far _ hnp x ex
        exact .inr (by omega)
    · have hpe : p = G.length := by omega
      subst hpe
      refine ⟨_, _, _, _, _, _, _, _, _, cell_of c_n rfl, cell_of c_n rfl, cell_of c_n rfl, ?_⟩
      refine ⟨_, store_of (o := 0) c_r (by simp) rfl, ?_⟩
      have m18 := Mod.set hgr.ok c_r (.cells (lset [.slice none 0 0, .slice none 0 0, .slice none 0 0] 0 [.slice a l c, .slice (some ⟨H2.next, 0, none⟩) G.length (2 * G.length), .slice (some ⟨H3.next, 0, none⟩) G.length (2 * G.length)]) 0)
      refine ⟨_, _, _, _, _, _, _, _, _, cell_of (get_set_self _ _ _) rfl, cell_of (get_set_self _ _ _) rfl, cell_of (get_set_self _ _ _) rfl, ?_⟩
      have e_o := m18.get _ _ (show ¬ H2.next = H1.next by omega) c_o
      have e_b := m18.get _ _ (show ¬ H3.next = H1.next by omega) c_b
      refine ⟨H2.next, H3.next, _, _, rfl, ⟨(outs_len G).symm, fun _ => ⟨rfl, by simp only [adr]; omega, by show H2.next < Hb.next; omega⟩, fun i hi => ?_⟩, ⟨(boths_len G).symm, fun _ => ⟨rfl, by simp only [adr]; omega, by show H3.next < Hb.next; omega⟩, fun i hi => ?_⟩, hgr.ext m18 ok fun b hb => .inr (by omega)⟩
      · rw [outs_len] at hi
        have o18 := (hOut i hi).mod m18 fun b hb => by subst hb; exact r.fam.low (by omega) i (by omega)
        refine ⟨(σ i).a, (σ i).l, (σ i).c, cell_tab e_o hi, ?_, o18.cap, ?_⟩
        simp only [outs, List.getElem_map, List.getElem_range]
        all_goals have fo : ∀ x, (σ i).a = some x → H.next ≤ x.block ∧ x.block < Hb.next :=
          fun x e => ⟨by have := r.fam.far i (by omega) x e; omega, (hOut i hi).lt hgr.ok e⟩
        · exact own_sl o18 fo
        · exact fo
      · rw [boths_len] at hi
        obtain ⟨q1, q2, q3⟩ := hDone i hi hi
        refine ⟨(τ i).a, (τ i).l, (τ i).c, cell_tab e_b hi, ?_, q3.mod m18 fun b hb => by subst hb; rw [q1]; exact r.fam.low (by omega) _ (by omega), fun x ex => ?_⟩
        rotate_left
        · rw [q1] at ex
          have h1 := r.fam.far _ (show G.length + i < 2 * G.length by omega) x ex
          have h2 := (r.fam.own _ (show G.length + i < 2 * G.length by omega)).lt m8.ok ex
          exact ⟨by omega, by show x.block < Hb.next; omega⟩
        simp only [boths, List.getElem_map, List.getElem_range]
        refine (q2.mod loc_int m18 fun b hb e => by subst e; exact hb (r.fam.low (by omega) _ (by omega))).wide fun b hb => ?_
        obtain ⟨x, ex, rfl⟩ := not_off hb
        have h1 := r.fam.far _ (show G.length + i < 2 * G.length by omega) x ex
        have h2 := (r.fam.own _ (show G.length + i < 2 * G.length by omega)).lt m8.ok ex
        exact ⟨by omega, by show x.block < Hb.next; omega⟩
end Go.Proofs.Cx

namespace Go.Ev
open Go
/-- two places are neighbours, in either direction -/
def Near (G : List Vtx) (i k : Nat) : Prop := i ≠ k ∧ ∃ (hi : i < G.length) (hk : k < G.length), (∃ e ∈ G[i].edges, e.1 = G[k].id) ∨ (∃ e ∈ G[k].edges, e.1 = G[i].id)
theorem Near.symm {G : List Vtx} {i k : Nat} (h : Near G i k) : Near G k i := let ⟨h1, hi, hk, h2⟩ := h; ⟨fun e => h1 e.symm, hk, hi, h2.symm⟩
theorem rawBoth_mem {G : List Vtx} (hM : May G) {i : Nat} (_ : i < G.length) {x : Int} : x ∈ rawBoth G (flatE G) i ↔ ∃ q : Nat, x = q ∧ Near G i q := by
  have hr := hM.steps.rising
  have inG : ∀ {k j : Nat} (hk : k < G.length) (hj : j < G[k].edges.length), fnd G G[k].edges[j].1 < G.length ∧ ∃ h : fnd G G[k].edges[j].1 < G.length, G[fnd G G[k].edges[j].1].id = G[k].edges[j].1 := fun hk hj => by
    obtain ⟨h1, h2⟩ := isIn_spec (hM.edges _ _ hk hj).1
    exact ⟨h1, h1, h2⟩
  constructor
  · intro h
    simp only [rawBoth, List.mem_flatMap] at h
    obtain ⟨e, he, hx⟩ := h
    obtain ⟨k, j, hk, hj, rfl⟩ := flatE_mem he
    obtain ⟨h1, h2, h3⟩ := inG hk hj
    rw [fnd_self hr hk] at hx
    unfold contrib at hx
    split at hx
    · simp at hx
    · rename_i hne
      split at hx
      · rename_i e1
        subst e1
        simp only [List.mem_singleton] at hx
        exact ⟨_, hx, hne, hk, h1, .inl ⟨_, List.getElem_mem hj, h3.symm⟩⟩
      · split at hx
        · rename_i e1
          simp only [List.mem_singleton] at hx
          subst e1
          exact ⟨_, hx, fun e => hne e.symm, h1, hk, .inr ⟨_, List.getElem_mem hj, h3.symm⟩⟩
        · simp at hx
  · rintro ⟨q, rfl, hne, hi, hq, h⟩
    have find : ∀ {a b : Nat} (ha : a < G.length) (hb : b < G.length), (∃ e ∈ G[a].edges, e.1 = G[b].id) → ∃ e ∈ flatE G, fnd G e.1 = a ∧ fnd G e.2.1 = b := by
      rintro a b ha hb ⟨e, he, e1⟩
      refine ⟨(G[a].id, e), ?_, fnd_self hr ha, ?_⟩
      · simp only [flatE, List.mem_flatMap, List.mem_map]
        exact ⟨_, List.getElem_mem ha, e, he, rfl⟩
      · simp only [e1]; exact fnd_self hr hb
    simp only [rawBoth, List.mem_flatMap]
    rcases h with h | h
    · obtain ⟨e, he, h1, h2⟩ := find hi hq h
      exact ⟨e, he, by rw [h1, h2, contrib, if_neg hne, if_pos rfl]; simp⟩
    · obtain ⟨e, he, h1, h2⟩ := find hq hi h
      exact ⟨e, he, by rw [h1, h2, contrib, if_neg (fun e => hne e.symm), if_neg hne, if_pos rfl]; simp⟩
theorem boths_mem {G : List Vtx} (hM : May G) {i : Nat} (hi : i < G.length) {h : i < (boths G).length} {x : Int} : x ∈ (boths G)[i] ↔ ∃ q : Nat, x = q ∧ Near G i q := by
  simp only [boths, List.getElem_map, List.getElem_range, dd_mem, sortI_mem]
  exact rawBoth_mem hM hi
end Go.Ev
namespace Go.Proofs.Cx
open Go Go.Ev

theorem near_ok {F : Nat → Prop} {a : Option Addr} {l c : Nat} {H : AH} {G : List Vtx} (hG : SlV F H a l G) (hE : ∀ v ∈ G, v.edges.length ≤ 4611686018427387903) {i k : Nat} (hi : i < G.length) (hk : k < G.length) :
    FW Ee F_cohortlaw10_near [.slice a l c, .int .i64 i, .int .i64 k] H fun r H' => ∃ b : Bool, r = .bool b ∧ (b = true ↔ Near G i k) ∧ H = H' := by
  have hlen := hG.len
  obtain ⟨hs, ci, _, ia, il, ic, c3, c4⟩ := hG.nth hi
  obtain ⟨_, ck, _, ka, kl, kc, d3, d4⟩ := hG.nth hk
  have hil := c4.len
  have hkl := d4.len
  have hei := hE _ (List.getElem_mem hi)
  have hek := hE _ (List.getElem_mem hk)
  refine fw_cohortlaw10_near ?_
  refine ⟨fun n _ j H1 => H = H1 ∧ ∃ p : Nat, j = p ∧ p ≤ il ∧ n = il - p ∧ ∀ q (hq : q < G[i].edges.length), q < p → i = k ∨ (G[i].edges[q]).1 ≠ G[k].id, ⟨_, rfl, 0, rfl, by omega, rfl, fun q _ h => by omega⟩, ?_⟩
  rintro n t j H1 ⟨rfl, p, rfl, hp, rfl, hno⟩
  refine grd_intro hs ⟨by omega, by omega, ia, il, ic, c3, cond_dec (fun hlt => ?_) (fun hge => ?_)⟩
  · have hq : p < G[i].edges.length := by omega
    obtain ⟨hs2, e1, _⟩ := c4.nth hq
    refine grd_intro hs ⟨by omega, by omega, ia, il, ic, c3, grd_intro hs2 ⟨by omega, by omega, _, e1, grd_intro hs ⟨by omega, by omega, _, ck, ?_⟩⟩⟩
    have next : (i = k ∨ (G[i].edges[p]).1 ≠ G[k].id) → ∀ t18 : Int, t18 = IntKind.i64.wrap ((p : Int) + 1) → ∃ m, m < il - p ∧ (H = H ∧ ∃ p : Nat, t18 = p ∧ p ≤ il ∧ m = il - p ∧ ∀ q (hq : q < G[i].edges.length), q < p → i = k ∨ (G[i].edges[q]).1 ≠ G[k].id) := by
      intro h t18 e18
      rw [wrap_i64 (by omega) (by omega)] at e18
      subst e18
      refine ⟨il - (p + 1), by omega, rfl, p + 1, by simp, by omega, rfl, fun q hq2 h2 => ?_⟩
      rcases Nat.lt_or_ge q p with h3 | h3
      · exact hno q hq2 h3
      · have : q = p := by omega
        subst this; exact h
    refine cond_intro (fun he => cond_intro (fun hne => ?_) (fun hne => ?_)) (fun he => ?_)
    · have he : (G[i].edges[p]).1 = G[k].id := by simpa using he
      have hne : i ≠ k := by
        have : (i : Int) ≠ (k : Int) := by simpa using hne
        omega
      exact ⟨true, rfl, ⟨fun _ => ⟨hne, hi, hk, .inl ⟨_, List.getElem_mem hq, he⟩⟩, fun _ => rfl⟩, rfl⟩
    · have hne : (i : Int) = (k : Int) := by simpa using hne
      exact next (.inl (by omega))
    · exact next (.inr (by simpa using he))
  · refine ⟨fun n _ j H1 => H = H1 ∧ ∃ p : Nat, j = p ∧ p ≤ kl ∧ n = kl - p ∧ ∀ q (hq : q < G[k].edges.length), q < p → i = k ∨ (G[k].edges[q]).1 ≠ G[i].id, ⟨_, rfl, 0, rfl, by omega, rfl, fun q _ h => by omega⟩, ?_⟩
    rintro n2 t2 j2 H2 ⟨rfl, p2, rfl, hp2, rfl, hno2⟩
    refine grd_intro hs ⟨by omega, by omega, ka, kl, kc, d3, cond_dec (fun hlt2 => ?_) (fun hge2 => ?_)⟩
    · have hq : p2 < G[k].edges.length := by omega
      obtain ⟨hs2, e1, _⟩ := d4.nth hq
      refine grd_intro hs ⟨by omega, by omega, ka, kl, kc, d3, grd_intro hs2 ⟨by omega, by omega, _, e1, grd_intro hs ⟨by omega, by omega, _, ci, ?_⟩⟩⟩
      have next : (i = k ∨ (G[k].edges[p2]).1 ≠ G[i].id) → ∀ t18 : Int, t18 = IntKind.i64.wrap ((p2 : Int) + 1) → ∃ m, m < kl - p2 ∧ (H = H ∧ ∃ p : Nat, t18 = p ∧ p ≤ kl ∧ m = kl - p ∧ ∀ q (hq : q < G[k].edges.length), q < p → i = k ∨ (G[k].edges[q]).1 ≠ G[i].id) := by
        intro h t18 e18
        rw [wrap_i64 (by omega) (by omega)] at e18
        subst e18
        refine ⟨kl - (p2 + 1), by omega, rfl, p2 + 1, by simp, by omega, rfl, fun q hq2 h2 => ?_⟩
        rcases Nat.lt_or_ge q p2 with h3 | h3
        · exact hno2 q hq2 h3
        · have : q = p2 := by omega
          subst this; exact h
      refine cond_intro (fun he => cond_intro (fun hne => ?_) (fun hne => ?_)) (fun he => ?_)
      · have he : (G[k].edges[p2]).1 = G[i].id := by simpa using he
        have hne : i ≠ k := by
          have : (i : Int) ≠ (k : Int) := by simpa using hne
          omega
        exact ⟨true, rfl, ⟨fun _ => ⟨hne, hi, hk, .inr ⟨_, List.getElem_mem hq, he⟩⟩, fun _ => rfl⟩, rfl⟩
      · have hne : (i : Int) = (k : Int) := by simpa using hne
        exact next (.inl (by omega))
      · exact next (.inr (by simpa using he))
    · refine ⟨false, rfl, ⟨fun h => (by cases h), ?_⟩, rfl⟩
      rintro ⟨hne, _, _, ⟨e, he, e1⟩ | ⟨e, he, e1⟩⟩
      · obtain ⟨q, hq, rfl⟩ := List.mem_iff_getElem.1 he
        rcases hno q hq (by omega) with h | h
        · exact (hne h).elim
        · exact (h e1).elim
      · obtain ⟨q, hq, rfl⟩ := List.mem_iff_getElem.1 he
        rcases hno2 q hq (by omega) with h | h
        · exact (hne h).elim
        · exact (h e1).elim

theorem contains_ok {F : Nat → Prop} {a : Option Addr} {l c : Nat} {H : AH} {zs : List Int} (hZ : SlI F H a l zs) (hl : l ≤ 4611686018427387903) (x : Int) :
    FW Ee F_slices_Contains_L_int_int [.slice a l c, .int .i64 x] H fun r H' => ∃ b : Bool, r = .bool b ∧ (b = true ↔ x ∈ zs) ∧ H = H' := by
  have hlen := hZ.len
  refine fw_slices_Contains_L_int_int ?_
  refine FW.mono (Q := fun r H' => ∃ z : Int, r = .int .i64 z ∧ (z ≥ 0 ↔ x ∈ zs) ∧ H = H') ?_ ?_
  · refine fw_slices_Index_L_int_int ?_
    refine ⟨fun n _ j H1 => H = H1 ∧ ∃ p : Nat, j = p ∧ p ≤ l ∧ n = l - p ∧ ∀ q (hq : q < zs.length), q < p → zs[q] ≠ x, ⟨_, rfl, 0, rfl, by omega, rfl, fun q _ h => by omega⟩, ?_⟩
    rintro n t j H1 ⟨rfl, p, rfl, hp, rfl, hno⟩
    refine cond_dec (fun hlt => ?_) (fun hge => ?_)
    · have hq : p < zs.length := by omega
      obtain ⟨hs, e1⟩ := hZ.nth hq
      refine grd_intro hs ⟨by omega, by omega, _, e1, cond_intro (fun he => ?_) (fun he => ?_)⟩
      · have he : x = zs[p] := by simpa using he
        exact ⟨_, rfl, ⟨fun _ => he ▸ List.getElem_mem hq, fun _ => by omega⟩, rfl⟩
      · have he : x ≠ zs[p] := by simpa using he
        intro t18 e18
        rw [wrap_i64 (by omega) (by omega)] at e18
        subst e18
        refine ⟨l - (p + 1), by omega, rfl, p + 1, by simp, by omega, rfl, fun q hq2 h2 => ?_⟩
        rcases Nat.lt_or_ge q p with h3 | h3
        · exact hno q hq2 h3
        · have : q = p := by omega
          subst this; exact fun e => he e.symm
    · refine ⟨_, rfl, ⟨fun h => by omega, fun h => ?_⟩, rfl⟩
      obtain ⟨q, hq, rfl⟩ := List.mem_iff_getElem.1 h
      exact (hno q hq (by omega) rfl).elim
  · rintro _ H' ⟨z, rfl, hz, rfl⟩
    exact ⟨z, rfl, _, rfl, by simpa using hz, rfl⟩

/-- is a vertex its own partner? -/
theorem free_ok {F FP : Nat → Prop} {ga la : Option Addr} {gl gc ll lc gb lb : Nat} {H : AH} {G : List Vtx} {ps : List Int} (hG : SlV F H ga gl G) (hP : SlI FP H la ll ps) (hgb : H.cell gb 0 = some (.slice ga gl gc)) (hlb : H.cell lb 0 = some (.slice la ll lc))
    {i : Nat} (hi : i < G.length) (hi2 : i < ps.length) : FW Ee F_spec_Matched_1 [.int .i64 i, .pointer (some ⟨lb, 0, none⟩), .pointer (some ⟨gb, 0, none⟩)] H fun r H' => r = .bool (ps[i] == G[i].id) ∧ H = H' := by
  obtain ⟨hs, ci, _⟩ := hG.nth hi
  obtain ⟨hs2, e1⟩ := hP.nth hi2
  have := hG.len
  have := hP.len
  refine fw_spec_Matched_1 ?_
  exact ⟨la, ll, lc, hlb, grd_intro hs2 ⟨by omega, by omega, _, e1, ga, gl, gc, hgb, grd_intro hs ⟨by omega, by omega, _, ci, rfl, rfl⟩⟩⟩

theorem containsFree_ok {F FP F' : Nat → Prop} {ga la za : Option Addr} {gl gc ll lc zl zc gb lb fb : Nat} {H : AH} {G : List Vtx} {ps zs : List Int} (hG : SlV F H ga gl G) (hP : SlI FP H la ll ps) (hgb : H.cell gb 0 = some (.slice ga gl gc)) (hlb : H.cell lb 0 = some (.slice la ll lc))
    (hfb : H.cell fb 0 = some (.func (.func F_spec_Matched_1) ⟨[]⟩ ⟨[.pointer (some ⟨lb, 0, none⟩), .pointer (some ⟨gb, 0, none⟩)]⟩)) (hZ : SlI F' H za zl zs) (hl : zl ≤ 4611686018427387903) (hpl : ps.length = G.length) (hin : ∀ z ∈ zs, ∃ q : Nat, z = q ∧ q < G.length) :
    FW Ee F_slices_ContainsFunc_L_int_int [.slice za zl zc, .func (.func F_spec_Matched_2) ⟨[]⟩ ⟨[.pointer (some ⟨fb, 0, none⟩)]⟩] H fun r H' => ∃ b : Bool, r = .bool b ∧ (b = true ↔ ∃ q : Nat, (q : Int) ∈ zs ∧ ∃ (h : q < G.length) (h2 : q < ps.length), ps[q] = G[q].id) ∧ H = H' := by
  have hlen := hZ.len
  refine fw_slices_ContainsFunc_L_int_int ?_
  refine FW.mono (Q := fun r H' => ∃ z : Int, r = .int .i64 z ∧ (z ≥ 0 ↔ ∃ q : Nat, (q : Int) ∈ zs ∧ ∃ (h : q < G.length) (h2 : q < ps.length), ps[q] = G[q].id) ∧ H = H') ?_ ?_
  · refine fw_slices_IndexFunc_L_int_int ?_
    refine ⟨fun n _ j H1 => H = H1 ∧ ∃ p : Nat, j = p ∧ p ≤ zl ∧ n = zl - p ∧ ∀ k (hk : k < zs.length), k < p → ∀ q : Nat, zs[k] = q → ∀ (h : q < G.length) (h2 : q < ps.length), ps[q] ≠ G[q].id, ⟨_, rfl, 0, rfl, by omega, rfl, fun q _ h => by omega⟩, ?_⟩
    rintro n t j H1 ⟨rfl, p, rfl, hp, rfl, hno⟩
    refine cond_dec (fun hlt => ?_) (fun hge => ?_)
    · have hq : p < zs.length := by omega
      obtain ⟨hs, e1⟩ := hZ.nth hq
      obtain ⟨q, eq, hqG⟩ := hin _ (List.getElem_mem hq)
      refine grd_intro hs ⟨by omega, by omega, _, e1, ?_⟩
      rw [eq]
      refine FW.mono (Q := fun r H' => r = .bool (ps[q]'(by omega) == G[q].id) ∧ H = H') ?_ ?_
      · refine fw_spec_Matched_2 ?_
        refine ⟨lb, gb, hfb, (free_ok hG hP hgb hlb hqG (by omega)).mono ?_⟩
        rintro _ _ ⟨rfl, rfl⟩
        exact ⟨_, rfl, rfl, rfl⟩
      rintro _ _ ⟨rfl, rfl⟩
      refine ⟨_, rfl, cond_intro (fun he => ?_) (fun he => ?_)⟩
      · exact ⟨_, rfl, ⟨fun _ => ⟨q, eq ▸ List.getElem_mem hq, hqG, by omega, by simpa using he⟩, fun _ => by omega⟩, rfl⟩
      · intro t18 e18
        rw [wrap_i64 (by omega) (by omega)] at e18
        subst e18
        refine ⟨zl - (p + 1), by omega, rfl, p + 1, by simp, by omega, rfl, fun k hk2 h2 => ?_⟩
        rcases Nat.lt_or_ge k p with h3 | h3
        · exact hno k hk2 h3
        · have : k = p := by omega
          subst this
          intro q' e' h h2
          have : q' = q := by rw [eq] at e'; omega
          subst this
          simpa using he
    · refine ⟨_, rfl, ⟨fun h => by omega, ?_⟩, rfl⟩
      rintro ⟨q, hq, h1, h2, h3⟩
      obtain ⟨k, hk, e⟩ := List.mem_iff_getElem.1 hq
      exact (hno k hk (by omega) q e h1 h2 h3).elim
  · rintro _ H' ⟨z, rfl, hz, rfl⟩
    exact ⟨z, rfl, _, rfl, by simpa using hz, rfl⟩
end Go.Proofs.Cx

namespace Go.Ev
open Go
/-- a vertex's partner is as it must be -/
def PairOk (G : List Vtx) (ps : List Int) (i : Nat) : Prop := ∃ (hi : i < G.length) (hp : i < ps.length), (ps[i] = G[i].id ∧ ∀ a, Near G i a → ∀ (h : a < G.length) (h2 : a < ps.length), ps[a] ≠ G[a].id) ∨
  (ps[i] ≠ G[i].id ∧ isIn G ps[i] = true ∧ Near G i (fnd G ps[i]) ∧ ∃ h : fnd G ps[i] < ps.length, ps[fnd G ps[i]] = G[i].id)
end Go.Ev
namespace Go.Proofs.Cx
open Go Go.Ev

theorem matched_ok {F FP : Nat → Prop} {a pa : Option Addr} {l c pl pc : Nat} {H : AH} {G : List Vtx} {ps : List Int} (ok : Ok H) (hG : SlV F H a l G) (hF : ∀ b, F b → b < H.next) (hP : SlI FP H pa pl ps) (hM : May G) (_ : ps.length ≤ 4611686018427387903) :
    FW Ee F_spec_Matched [.agg ⟨[.slice a l c]⟩, .slice pa pl pc] H fun r H' => ∃ b : Bool, r = .bool b ∧ (b = true ↔ ps.length = G.length ∧ ∀ i, i < G.length → PairOk G ps i) ∧ Grow H H' := by
  have hlen := hG.len
  have hplen := hP.len
  have hl := hM.len
  have hr := hM.steps.rising
  refine fw_spec_Matched ?_
  intro H1 e1
  have g1 : Grow H H1 := e1 ▸ Grow.new ok _
  have b1 : H1.get H.next = some (.cells [.slice a l c] 0) := e1 ▸ get_new_self _ _
  have n1 : H1.next = H.next + 1 := by rw [e1]; rfl
  intro H2 e2
  have g2 : Grow H1 H2 := e2 ▸ Grow.new g1.ok _
  have b2 : H2.get H1.next = some (.cells [.slice pa pl pc] 0) := e2 ▸ get_new_self _ _
  have n2 : H2.next = H1.next + 1 := by rw [e2]; rfl
  have g02 := g1.trans g2
  refine ⟨a, l, c, cell_of (g2.get _ _ id b1) rfl, ?_⟩
  refine (of_ok g02.ok (hG.grow loc_vtx g02) (fun b h => by have := hF b h; omega) hM).mono ?_
  rintro _ H3 ⟨ob, bb, c1, c2, rfl, hO, hB, g3⟩
  refine ⟨_, _, _, _, _, _, _, _, _, rfl, ?_⟩
  intro H4 e4
  obtain ⟨H5, e5, b5, g5, n5⟩ := fresh_store (vs := [.slice a l c, .slice (some ⟨ob, 0, none⟩) G.length c1, .slice (some ⟨bb, 0, none⟩) G.length c2]) e4 rfl rfl g3.ok
  have g35 := g3.trans g5
  have p5 := g35.get _ _ id b2
  have q5 := g35.get _ _ id (g2.get _ _ id b1)
  refine ⟨H5, e5, _, _, _, cell_of p5 rfl, _, _, _, cell_of q5 rfl, ?_⟩
  refine cond_intro (fun hne => ?_) (fun heq => ?_)
  · have hne : (pl : Int) ≠ (l : Int) := by simpa using hne
    exact ⟨false, rfl, ⟨fun h => (by cases h), fun h => by omega⟩, g02.trans g35⟩
  have heq : (pl : Int) = (l : Int) := by simpa using heq
  have hpG : ps.length = G.length := by omega
  intro H6 e6
  obtain ⟨H7, e7, b7, g7, n7⟩ := fresh_store (vs := [.func (.func F_spec_Matched_1) ⟨[]⟩ ⟨[.pointer (some ⟨H1.next, 0, none⟩), .pointer (some ⟨H.next, 0, none⟩)]⟩]) e6 rfl rfl g5.ok
  have g57 := g5.trans g7
  have g37 := g3.trans g57
  have gall := g02.trans g37
  have p7 := g7.get _ _ id p5
  have q7 := g7.get _ _ id q5
  have n7' := g7.get _ _ id b5
  have G7 := hG.grow loc_vtx gall
  have P7 := hP.grow loc_int gall
  have B7 := hB.grow loc_row g57
  have fbc := cell_of b7 (o := 0) rfl
  have pbc := cell_of p7 (o := 0) rfl
  have qbc := cell_of q7 (o := 0) rfl
  have nbc := cell_of n7' (o := 2) rfl
  refine ⟨H7, e7, _, _, _, pbc, ?_⟩
  refine ⟨fun m _ i Hb => Grow H7 Hb ∧ ∃ p : Nat, i = p ∧ p ≤ pl ∧ m = pl - p ∧ ∀ i, i < p → PairOk G ps i, ⟨_, .refl g7.ok, 0, rfl, by omega, rfl, fun i h => by omega⟩, ?_⟩
  rintro m t i Hb ⟨gb, p, rfl, hp, rfl, hdone⟩
  refine cond_dec (fun hlt => ?_) (fun hge => ?_)
  · have hi : p < ps.length := by omega
    have hiG : p < G.length := by omega
    obtain ⟨hs, e1p⟩ := (P7.grow loc_int gb).nth hi
    have pbc' := gb.cell id pbc
    have qbc' := gb.cell id qbc
    have fbc' := gb.cell id fbc
    have nbc' := gb.cell id nbc
    have fin : ∀ {Hc : AH}, Grow H7 Hc → PairOk G ps p → ∀ t68 : Int, t68 = IntKind.i64.wrap ((p : Int) + 1) → ∃ m, m < pl - p ∧ (Grow H7 Hc ∧ ∃ p : Nat, t68 = p ∧ p ≤ pl ∧ m = pl - p ∧ ∀ i, i < p → PairOk G ps i) := by
      intro Hc gc hpo t68 e68
      rw [wrap_i64 (by omega) (by omega)] at e68
      subst e68
      refine ⟨pl - (p + 1), by omega, gc, p + 1, by simp, by omega, rfl, fun i h => ?_⟩
      rcases Nat.lt_or_ge i p with h1 | h1
      · exact hdone i h1
      · have : i = p := by omega
        subst this; exact hpo
    have bad : ∀ {Hc : AH}, Grow H7 Hc → ¬ PairOk G ps p → ∃ b : Bool, Value.bool false = .bool b ∧ (b = true ↔ ps.length = G.length ∧ ∀ i, i < G.length → PairOk G ps i) ∧ Grow H Hc :=
      fun gc h => ⟨false, rfl, ⟨fun h2 => (by cases h2), fun h2 => (h (h2.2 p hiG)).elim⟩, gall.trans gc⟩
    refine grd_intro hs ⟨by omega, by omega, _, e1p, _, _, fbc', ?_⟩
    refine (free_ok (G7.grow loc_vtx gb) (P7.grow loc_int gb) qbc' pbc' hiG hi).mono ?_
    rintro _ _ ⟨rfl, rfl⟩
    refine ⟨_, rfl, ?_⟩
    obtain ⟨hsB, za, zl, zc, ez, hZ, _, _⟩ := (B7.grow loc_row gb).nth (k := p) (by rw [boths_len]; exact hiG)
    have hzn := hZ.len
    have hzb : zl ≤ 4611686018427387903 := by
      rw [hzn]
      simp only [boths, List.getElem_map, List.getElem_range]
      have h1 : (dd (sortI (rawBoth G (flatE G) p))).length ≤ (rawBoth G (flatE G) p).length := by
        have h2 : ∀ zs : List Int, (dd zs).length ≤ zs.length := by
          intro zs
          induction zs using dd.induct with
          | case1 => simp [dd]
          | case2 => simp [dd]
          | case3 x l ih => rw [dd, if_pos rfl]; simp only [List.length_cons] at ih ⊢; omega
          | case4 x y l h ih => rw [dd, if_neg h]; simp only [List.length_cons] at ih ⊢; omega
        have := h2 (sortI (rawBoth G (flatE G) p))
        rw [sortI_len] at this; exact this
      have h3 := raws_len G (flatE G) (G.length + p)
      unfold raws at h3
      rw [if_neg (by omega), Nat.add_sub_cancel_left] at h3
      have := flatE_len G
      have := hM.many
      omega
    refine cond_intro (fun hfree => ?_) (fun hfree => ?_)
    · have hfree : ps[p] = G[p].id := by simpa using hfree
      refine ⟨_, _, _, nbc', grd_intro rfl ⟨by omega, by omega, za, zl, zc, ez, ?_⟩⟩
      refine (containsFree_ok (G7.grow loc_vtx gb) (P7.grow loc_int gb) qbc' pbc' fbc' hZ hzb hpG (fun z hz => ?_)).mono ?_
      · obtain ⟨q, hq, hn⟩ := (boths_mem hM hiG).1 hz
        obtain ⟨_, _, hq2, _⟩ := hn
        exact ⟨q, hq, hq2⟩
      rintro _ _ ⟨b, rfl, hbb, rfl⟩
      refine ⟨_, rfl, cond_intro (fun hbt => ?_) (fun hbf => ?_)⟩
      · refine bad gb ?_
        obtain ⟨q, hq, h1, h2, h3⟩ := hbb.1 hbt
        rintro ⟨_, _, ⟨_, h4⟩ | ⟨h4, _⟩⟩
        · obtain ⟨q', e', hn⟩ := (boths_mem hM hiG).1 hq
          have : q = q' := by omega
          subst this
          exact h4 q hn h1 h2 h3
        · exact h4 hfree
      · refine fin gb ⟨hiG, hi, .inl ⟨hfree, fun q hn h1 h2 h3 => ?_⟩⟩
        have : b = true := hbb.2 ⟨q, (boths_mem hM hiG).2 ⟨q, rfl, hn⟩, h1, h2, h3⟩
        rw [this] at hbf; cases hbf
    · have hfree : ps[p] ≠ G[p].id := by simpa using hfree
      refine ⟨a, l, c, qbc', (gfind_ok gb.ok (G7.grow loc_vtx gb) (by omega) hr).mono ?_⟩
      rintro _ Hf ⟨rfl, gf⟩
      have gbf := gb.trans gf
      refine ⟨_, _, rfl, cond_intro (fun hin => ?_) (fun hin => ?_)⟩
      · have hin : isIn G ps[p] = false := by simpa using hin
        refine bad gbf ?_
        rintro ⟨_, _, ⟨h4, _⟩ | ⟨_, h4, _⟩⟩
        · exact hfree h4
        · rw [hin] at h4; cases h4
      · have hin : isIn G ps[p] = true := by simpa using hin
        obtain ⟨hf2, hfid⟩ := isIn_spec hin
        refine ⟨_, _, _, gf.cell id nbc', grd_intro rfl ⟨by omega, by omega, za, zl, zc, gf.cell id ez, ?_⟩⟩
        refine (contains_ok (hZ.grow loc_int gf) hzb _).mono ?_
        rintro _ _ ⟨b, rfl, hbb, rfl⟩
        refine ⟨_, rfl, cond_intro (fun hbf => ?_) (fun hbt => ?_)⟩
        · have hbf : b = false := by simpa using hbf
          refine bad gbf ?_
          rintro ⟨_, _, ⟨h4, _⟩ | ⟨_, _, h4, _⟩⟩
          · exact hfree h4
          · have : b = true := hbb.2 ((boths_mem hM hiG).2 ⟨_, rfl, h4⟩)
            rw [this] at hbf; cases hbf
        · have hbt : b = true := by simpa using hbt
          obtain ⟨q', e', hn⟩ := (boths_mem hM hiG).1 (hbb.1 hbt)
          have e' : fnd G ps[p] = q' := by omega
          subst e'
          obtain ⟨hs3, e3⟩ := ((P7.grow loc_int gb).grow loc_int gf).nth (k := fnd G ps[p]) (by omega)
          obtain ⟨hs4, e4g, _⟩ := ((G7.grow loc_vtx gb).grow loc_vtx gf).nth hiG
          refine ⟨_, _, _, gf.cell id pbc', grd_intro hs3 ⟨by omega, by omega, _, e3, _, _, _, gf.cell id qbc', grd_intro hs4 ⟨by omega, by omega, _, e4g, ?_⟩⟩⟩
          refine cond_intro (fun hne => ?_) (fun he => ?_)
          · have hne : ps[fnd G ps[p]] ≠ G[p].id := by simpa using hne
            refine bad gbf ?_
            rintro ⟨_, _, ⟨h4, _⟩ | ⟨_, _, _, _, h4⟩⟩
            · exact hfree h4
            · exact hne h4
          · have he : ps[fnd G ps[p]] = G[p].id := by simpa using he
            exact fin gbf ⟨hiG, hi, .inr ⟨hfree, hin, hn, by omega, he⟩⟩
  · exact ⟨true, rfl, ⟨fun _ => ⟨hpG, fun i h => hdone i (by omega)⟩, fun _ => rfl⟩, gall.trans gb⟩
end Go.Proofs.Cx
