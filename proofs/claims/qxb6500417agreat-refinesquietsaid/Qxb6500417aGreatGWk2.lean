/-
  OWN WORK. THE GRAPH LAW's WALK: through a cut.
-/
import Derived.Test.Qxb6500417aGreatGWk1
namespace Go.Proofs.Qxb6500417aGreat
open Go.RowKit Go.PlainAid
set_option linter.unusedSimpArgs false
set_option linter.unusedVariables false

section
variable {q : GS} {w0 w1 wr wa wb wx : World} {vb g m mb m2 mb2 lo : Nat} {ex : Bool} {rv : Value} {N : Nat} {oa : Int} {JX J' : Nat → Sl} {rtX rt' : Nat} {SX : GA}
/-- The cut image is the one ahead of the step. -/
def NoneX (q : GS) (JX : Nat → Sl) (rtX : Nat) (SX : GA) : Prop := SX = q.S0 ∧ (rtX = 0 → q.sr0 ≤ 46) ∧ (rtX ≠ 0 → q.sr0 ≤ (frJ JX : Int))
/-- The cut image is the one behind it. -/
def AllX (q : GS) (ex : Bool) (JX : Nat → Sl) (rtX : Nat) (SX : GA) : Prop := SX = q.S ∧ rtX ≠ 0 ∧ roomC (frJ JX) q.sr ex = true
structure CutR (q : GS) (ex : Bool) (oa : Int) (JX : Nat → Sl) (rtX : Nat) (SX : GA) : Prop where
  shows : Shows (replayB q.B (q.recs.take oa.toNat)) rtX JX
  inv : Inv JX
  fnd : Fnd JX rtX SX
  pick : NoneX q JX rtX SX ∨ AllX q ex JX rtX SX
  foot : oa ≤ 0 → NoneX q JX rtX SX
  work : (q.recs.length : Int) ≤ oa → AllX q ex JX rtX SX
  z0 : rtX = 0 → ex = false
theorem GV.cutR (h : GV q w0 vb g m mb ex rv N wr) (oa : Int) : ∃ JX rtX SX, CutR q ex oa JX rtX SX := by
  by_cases hlt : oa.toNat < q.recs.length
  · have hn : NoneX q q.J0 q.rt0 q.S0 := ⟨rfl, h.c0.2.2.1, h.c0.2.2.2⟩
    exact ⟨q.J0, q.rt0, q.S0, h.cut _ hlt, h.c0.1, h.c0.2.1, .inl hn, fun _ => hn, fun e => absurd e (by omega), h.z0⟩
  · have hI := h.gr.gi.inv
    obtain ⟨hf, hrt⟩ := h.gr.sv.fnd hI
    have ha : AllX q ex (abortJ q.J) q.rt q.S := by
      refine ⟨rfl, hrt, ?_⟩
      unfold Go.Proofs.Qxb6500417aGreat.roomC
      cases ex with
      | true => rw [if_pos rfl]; exact decide_eq_true (h.exa rfl).2.symm
      | false => rw [if_neg (by simp)]; exact decide_eq_true h.ls
    refine ⟨abortJ q.J, q.rt, q.S, ?_, hI.abort, hf, .inr ha, fun e => ?_, fun _ => ha, fun e => absurd e hrt⟩
    · rw [List.take_of_length_le (by omega)]; exact h.gr.ts.shows
    · have hr : q.recs = [] := List.length_eq_zero_iff.1 (by omega)
      obtain ⟨e1, e2⟩ := h.still hr
      exact ⟨e1.symm, fun e => absurd e hrt, fun _ => e2⟩
theorem CutR.nB (hc : NoneX q JX rtX SX) {f : Nat} (hf : (rtX = 0 ∧ f = 46) ∨ (rtX ≠ 0 ∧ f = frJ JX)) : SX = q.S0 ∧ roomC f q.sr0 false = true := by
  refine ⟨hc.1, ?_⟩
  unfold Go.Proofs.Qxb6500417aGreat.roomC
  rw [if_neg (by simp)]
  refine decide_eq_true ?_
  rcases hf with ⟨a, b⟩ | ⟨a, b⟩
  · have := hc.2.1 a; omega
  · have := hc.2.2 a; omega
theorem CutR.aB (hc : AllX q ex JX rtX SX) {f : Nat} (hf : (rtX = 0 ∧ f = 46) ∨ (rtX ≠ 0 ∧ f = frJ JX)) : SX = q.S ∧ roomC f q.sr ex = true := by
  refine ⟨hc.1, ?_⟩
  rcases hf with ⟨a, b⟩ | ⟨a, b⟩
  · exact absurd a hc.2.1
  · rw [b]; exact hc.2.2
/-- What the three tests see. -/
theorem CutR.tests (hc : CutR q ex oa JX rtX SX) {f : Nat} (hf : (rtX = 0 ∧ f = 46) ∨ (rtX ≠ 0 ∧ f = frJ JX)) {nB aB : Bool} (hn : nB = true ↔ (SX = q.S0 ∧ roomC f q.sr0 false = true)) (ha : aB = true ↔ (SX = q.S ∧ roomC f q.sr ex = true)) :
    (nB = true ∨ aB = true) ∧ (oa ≤ 0 → nB = true) ∧ ((q.recs.length : Int) ≤ oa → aB = true) :=
  ⟨hc.pick.imp (fun e => hn.2 (CutR.nB e hf)) (fun e => ha.2 (CutR.aB e hf)), fun e => hn.2 (CutR.nB (hc.foot e) hf), fun e => ha.2 (CutR.aB (hc.work e) hf)⟩
theorem CutR.goes {f : Nat} {nB aB : Bool} (hna : nB = true ∨ aB = true) (hn : nB = true ↔ (SX = q.S0 ∧ roomC f q.sr0 false = true)) (ha : aB = true ↔ (SX = q.S ∧ roomC f q.sr ex = true)) : (if aB = true then q.S else q.S0) = SX ∧ roomC f (if aB = true then q.sr else q.sr0) (ex && aB) = true := by
  cases aB with
  | true =>
    obtain ⟨a, b⟩ := ha.1 rfl
    rw [if_pos rfl, if_pos rfl, Bool.and_true]
    exact ⟨a.symm, b⟩
  | false =>
    obtain ⟨a, b⟩ := hn.1 (hna.resolve_right (by simp))
    rw [if_neg (by simp), if_neg (by simp), Bool.and_false]
    exact ⟨a.symm, b⟩
/-- The new layer, as Open leaves it. -/
structure GNw (vb lo g t s d : Nat) (D0 : Nat → Nat) (JX : Nat → Sl) (rtX : Nat) (SX : GA) (J' : Nat → Sl) (rt' : Nat) (R : List Rec) (F' : Nat → Prop) (T : Gt) (wx : World) : Prop where
  gr : GR wx g t s d (replayB D0 R) D0 R J' rt' F' T SX
  ab : absG J' T = SX
  cuts : ∀ kk, kk < R.length → Shows (replayB D0 (R.take kk)) rtX (abortJ JX)
  keys : ∀ r ∈ R, r.1 < 145
  len : R.length ≤ 600
  cas : (rtX = 0 ∧ 1 ≤ R.length ∧ frJ J' = 46) ∨ (rtX ≠ 0 ∧ R = [] ∧ J' = JX)
  kv : Has wx vb (belC d t) 30
  low : ∀ y, F' y ∨ y = s ∨ y = t ∨ y = g → lo ≤ y
section
variable {t s d : Nat} {D0 : Nat → Nat} {R : List Rec} {F1 F' : Nat → Prop} {T : Gt}
theorem GNw.quiet (h : GNw vb lo g t s d D0 JX rtX SX J' rt' R F' T wx) (ho : Only (fun _ => False) wx w1) : GNw vb lo g t s d D0 JX rtX SX J' rt' R F' T w1 :=
  ⟨h.gr.quiet ho, h.ab, h.cuts, h.keys, h.len, h.cas, h.kv.keep ho (fun h => h), h.low⟩
theorem GNw.weak (h : GNw vb lo g t s d D0 JX rtX SX J' rt' R F' T wx) {lo2 : Nat} (hl : lo2 ≤ lo) : GNw vb lo2 g t s d D0 JX rtX SX J' rt' R F' T wx := { h with low := fun y hy => by have := h.low y hy; omega }
theorem GNw.rm (h : GNw vb lo g t s d D0 JX rtX SX J' rt' R F' T wx) : (rtX = 0 ∧ frJ J' = 46) ∨ (rtX ≠ 0 ∧ frJ J' = frJ JX) := by
  rcases h.cas with ⟨a, _, b⟩ | ⟨a, _, b⟩
  · exact .inl ⟨a, b⟩
  · exact .inr ⟨a, by rw [b]⟩
theorem GNw.lt (h : GNw vb lo g t s d D0 JX rtX SX J' rt' R F' T wx) {y : Nat} (hy : F' y ∨ y = s ∨ y = t ∨ y = g) : y < wx.heap.size := by
  obtain ⟨t1, t2, t3⟩ := h.gr.ts.ts_lt
  have := h.gr.gh.lt
  rcases hy with e | e | e | e
  · exact t3 y e
  · omega
  · omega
  · omega
theorem GNw.start (hO : OpG wa wb g t s d D0 D0 [] JX J' rtX rt' F1 T SX R F') (hcas : (rtX = 0 ∧ 1 ≤ R.length ∧ rt' = 2 ∧ frJ J' = 46) ∨ (rtX ≠ 0 ∧ R = [] ∧ J' = JX ∧ rt' = rtX)) (hg : wa.heap.size ≤ g) (hF : ∀ y, F1 y ∨ y = s ∨ y = t → lo ≤ y) (hlo : lo ≤ wa.heap.size) (kv : Has wa vb (belC d t) 30) (hvb : vb < lo) : GNw vb lo g t s d D0 JX rtX SX J' rt' R F' T wb := by
  have gx := hO.gr
  rw [List.nil_append] at gx
  refine ⟨gx, hO.abs, hO.went.cuts, hO.went.keys, ?_, ?_, kv.keep hO.went.only (fun e => ?_), fun y hy => ?_⟩
  · have := hO.went.len
    have := frJ_le JX
    omega
  · rcases hcas with ⟨a, b, _, c⟩ | ⟨a, b, c, _⟩
    · exact .inl ⟨a, b, c⟩
    · exact .inr ⟨a, b, c⟩
  · rcases e with e | e | e | e
    · omega
    · have := hF vb (.inr (.inr e)); omega
    · have := hF vb (.inr (.inl e)); omega
    · have := hF vb (.inl e); omega
  · rcases hy with e | e | e | e
    · rcases hO.went.ext y e with e1 | e1
      · exact hF y (.inl e1)
      · omega
    · exact hF y (.inr (.inl e))
    · exact hF y (.inr (.inr e))
    · omega
theorem GNw.only (hO : OpG wa wb g t s d D0 D0 [] JX J' rtX rt' F1 T SX R F') (hg : wa.heap.size ≤ g) (hF : ∀ y, F1 y ∨ y = s ∨ y = t → lo ≤ y) (hlo : wr.heap.size ≤ lo) (ho : Only (fun y => y = vb) wr wa) : Only (fun y => y = vb) wr wb :=
  ho.trans hO.went.only (fun y hy e => by
    have := ho.size
    rcases e with e | e | e | e
    · omega
    · have := hF y (.inr (.inr e)); omega
    · have := hF y (.inr (.inl e)); omega
    · have := hF y (.inl e); omega)
theorem Blank.abort {J : Nat → Sl} (h : Blank J) : Blank (abortJ J) := fun i hi => by
  unfold abortJ
  rw [h i hi]
  rfl
/-- The state behind the recovery. -/
theorem GV.recov (h : GV q w0 vb g m mb ex rv N wr) (hc : CutR q ex oa JX rtX SX) {g' : Nat} (hn : GNw vb lo g' t s d D0 JX rtX SX J' rt' R F' T wx) (ho : Only (fun y => y = vb) wr wx) (hlo : wr.heap.size ≤ lo) {aB : Bool} {rX : Int} (hrX : (if aB = true then q.sr else q.sr0) = rX) (hS : (if aB = true then q.S else q.S0) = SX) (hrm : Go.Proofs.Qxb6500417aGreat.roomC (frJ J') rX (ex && aB) = true)
    {hz hz2 : Bool} {H2 G2 : Nat → Prop} (hm : MG wx m2 true SX rX SX rX hz H2) (hb : MG wx mb2 true SX rX SX rX hz2 G2) (hH : ∀ y, H2 y → lo ≤ y ∧ ¬ (F' y ∨ y = s ∨ y = t ∨ y = g')) (hG : ∀ y, G2 y → lo ≤ y ∧ ¬ (F' y ∨ y = s ∨ y = t ∨ y = g') ∧ ¬ H2 y) :
    ∃ q' : GS, GV q' w0 vb g' m2 mb2 (ex && aB) rv (N + 1) wx ∧ q'.recs = R ∧ frJ q'.J = frJ J' := by
  have hvl := h.kv.lt
  have hw0 : w0.heap.size ≤ wr.heap.size := h.bel.size
  have hrv : ∀ y, rv.ownBlock = some y → y < wr.heap.size ∧ w0.heap.size ≤ y ∧ y ≠ vb := fun y hy => ⟨h.lt y (.inr (.inr (.inr hy))), h.fK y (.inr (.inr (.inr hy)))⟩
  have hlo2 : rX ≤ (frJ J' : Int) := by
    unfold Go.Proofs.Qxb6500417aGreat.roomC at hrm
    cases hx : (ex && aB) with
    | true => rw [hx, if_pos rfl] at hrm; have := of_decide_eq_true hrm; omega
    | false => rw [hx, if_neg (by simp)] at hrm; exact of_decide_eq_true hrm
  have hfa := frJ_abort J'
  have hnx : T.nx = SX.nx := by
    have := hn.ab
    rw [← this]; rfl
  have hbx : Bd (N + 1) rX rX SX.nx SX.nx := by
    rw [← hrX, ← hS]
    cases aB with
    | true => have hb := h.bd.step; exact ⟨hb.s1, hb.s2, hb.s1, hb.s2, hb.sn, hb.sn⟩
    | false => exact h.b0.step
  have hax : ASm SX ∧ ASm SX ∧ ∀ x ∈ SX.nodes, x.seq < 4611686018427387904 := by
    rw [← hS]
    cases aB with
    | true => exact ⟨h.gr.asmS, h.gr.asmS, h.gr.seqS⟩
    | false => exact ⟨h.a0.2.1, h.a0.2.1, h.a0.2.2⟩
  have rgx := h.rg.keep ho (fun y hy e => (hrv y hy).2.2 e)
  have belx : Below w0.heap.size w0 wx := Only.bel h.bel ho (fun y e => by have := h.vbl; have e' : y = vb := e; omega)
  have exx : (ex && aB) = true → rX = (frJ J' : Int) ∧ rX = (frJ (abortJ J') : Int) := fun e => by
    rw [e] at hrm
    unfold Go.Proofs.Qxb6500417aGreat.roomC at hrm
    rw [if_pos rfl] at hrm
    have e1 := of_decide_eq_true hrm
    have hex : ex = true := by cases ex with | true => rfl | false => simp at e
    rcases hn.cas with ⟨a, _, _⟩ | ⟨a, _, b⟩
    · have := hc.z0 a; rw [hex] at this; exact Bool.noConfusion this
    · refine ⟨e1.symm, ?_⟩
      have hid : frJ (abortJ J') = frJ J' := by
        rw [b]
        cases hc.fnd with
        | blank hb h0 hS => exact absurd h0 a
        | used T0 hI hr hS h0 hd => exact frJ_eq (idle_abort hd)
      rw [hid]; exact e1.symm
  have abx : absG J' T = SX := hn.ab
  rcases hn.cas with ⟨a, b, c⟩ | ⟨a, b, c⟩
  · refine ⟨⟨t, s, d, D0, R, J', rt', F', T, SX, rX, rX, H2, SX, rX, SX, rX, G2, abortJ JX, 0, q.l⟩, ⟨hn.gr, ⟨hz, ?_⟩, ⟨hz2, hb⟩, rgx, h.rl, hn.kv, hn.keys, hn.len, fun kk hk => ?_, ⟨hc.inv.abort, ?_, fun _ => ?_, fun e => absurd rfl e⟩, fun e => ?_, hlo2, ?_, exx, ?_, hbx, hax, fun y hy => ?_, fun y hy e => (hH y hy).2 e, fun y hy => ⟨fun e => (hG y hy).2.1 e, (hG y hy).2.2⟩, fun y hy => ⟨fun e => ?_, fun e => ?_, fun e => ?_⟩, belx, h.vbl, fun _ => ?_⟩, rfl, rfl⟩
    · show MG wx m2 true (absG J' T) rX SX rX hz H2
      rw [abx]; exact hm
    · have := hn.cuts kk hk
      rw [a] at this
      exact this
    · cases hc.fnd with
      | blank hb h0 hS => exact .blank hb.abort rfl hS
      | used T0 hI hr hS h0 hd => exact absurd a h0
    · show rX ≤ 46
      omega
    · have e' : R = [] := e
      rw [e'] at b; simp at b
    · show rX ≤ (frJ (abortJ J') : Int); omega
    · show Bd (N + 1) rX rX T.nx SX.nx
      rw [hnx]; exact hbx
    · rcases hy with e | e | e | e
      · have := hn.low y e; exact ⟨by omega, by omega⟩
      · have := (hH y e).1; exact ⟨by omega, by omega⟩
      · have := (hG y e).1; exact ⟨by omega, by omega⟩
      · exact (hrv y e).2
    · have := hn.low y e; have := hrv y hy; omega
    · have := (hH y e).1; have := hrv y hy; omega
    · have := (hG y e).1; have := hrv y hy; omega
    · rw [hc.z0 a]; rfl
  · refine ⟨⟨t, s, d, D0, R, J', rt', F', T, SX, rX, rX, H2, SX, rX, SX, rX, G2, JX, rtX, q.l⟩, ⟨hn.gr, ⟨hz, ?_⟩, ⟨hz2, hb⟩, rgx, h.rl, hn.kv, hn.keys, hn.len, fun kk hk => ?_, ⟨hc.inv, hc.fnd, fun e => absurd e a, fun _ => ?_⟩, fun e => ⟨rfl, ?_⟩, hlo2, ?_, exx, ?_, hbx, hax, fun y hy => ?_, fun y hy e => (hH y hy).2 e, fun y hy => ⟨fun e => (hG y hy).2.1 e, (hG y hy).2.2⟩, fun y hy => ⟨fun e => ?_, fun e => ?_, fun e => ?_⟩, belx, h.vbl, fun e => absurd e a⟩, rfl, rfl⟩
    · show MG wx m2 true (absG J' T) rX SX rX hz H2
      rw [abx]; exact hm
    · have hk' : kk < R.length := hk
      rw [b] at hk'; simp at hk'
    · show rX ≤ (frJ JX : Int)
      rw [← c]; exact hlo2
    · show rX ≤ (frJ (abortJ J') : Int); omega
    · show rX ≤ (frJ (abortJ J') : Int); omega
    · show Bd (N + 1) rX rX T.nx SX.nx
      rw [hnx]; exact hbx
    · rcases hy with e | e | e | e
      · have := hn.low y e; exact ⟨by omega, by omega⟩
      · have := (hH y e).1; exact ⟨by omega, by omega⟩
      · have := (hG y e).1; exact ⟨by omega, by omega⟩
      · exact (hrv y e).2
    · have := hn.low y e; have := hrv y hy; omega
    · have := (hH y e).1; have := hrv y hy; omega
    · have := (hG y e).1; have := hrv y hy; omega
end
end
end Go.Proofs.Qxb6500417aGreat
