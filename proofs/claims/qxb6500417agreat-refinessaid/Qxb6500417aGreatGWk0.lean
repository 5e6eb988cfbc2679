/-
  OWN WORK. THE GRAPH LAW's WALK: its state.
-/
import Derived.Test.Qxb6500417aGreatGL11
import Derived.Test.Qxb6500417aGreatOpsDef
namespace Go.Proofs.Qxb6500417aGreat
open Go.RowKit Go.PlainAid
set_option linter.unusedSimpArgs false
set_option linter.unusedVariables false

theorem TS.dev {w : World} {t s d : Nat} {D B : Nat → Nat} {recs : List Rec} {J : Nat → Sl} {rt : Nat} {F : Nat → Prop} (h : TS w t s d D B recs J rt F) : DevAt w d D B recs F := by
  obtain ⟨ob, hO, _⟩ := h.ex
  exact hO.dev
/-- The device marked. -/
theorem TS.marked {w w' : World} {t s d : Nat} {D B : Nat → Nat} {recs : List Rec} {J : Nat → Sl} {rt : Nat} {F : Nat → Prop} (h : TS w t s d D B recs J rt F) (hd : DevAt w' d D D [] F) (ho : Only F w w') : TS w' t s d D D [] J rt F := by
  obtain ⟨ob, hO, hR⟩ := h.ex
  obtain ⟨⟨tab, hdd, us, nf, bk, hs, hi⟩, _, hf⟩ := hO
  exact ⟨h.tab.keep ho h.tF, ⟨ob, ⟨⟨tab, hdd, us, nf, bk, hs.keep ho hf, hi⟩, hd, hf⟩, hR⟩, h.inv, h.ts, h.tF⟩
theorem GR.marked {w w' : World} {g t s d : Nat} {D B : Nat → Nat} {recs : List Rec} {J : Nat → Sl} {rt : Nat} {F : Nat → Prop} {T : Gt} {S : GA} (h : GR w g t s d D B recs J rt F T S) (hd : DevAt w' d D D [] F) (ho : Only F w w') : GR w' g t s d D D [] J rt F T S :=
  ⟨h.ts.marked hd ho, h.gh.keep ho h.ap.nF, h.ap, h.gi, h.sv⟩
/-- The saved image, as Open finds it. -/
theorem SavI.fnd {J : Nat → Sl} {rt : Nat} {S : GA} (h : SavI J rt S) (hI : Inv J) : Fnd (abortJ J) rt S ∧ rt ≠ 0 := by
  obtain ⟨T0, h1, h2, h3⟩ := h.ex
  have hr : rt ≠ 0 := by have := h1.rut.rin.1; omega
  exact ⟨.used T0 h1 h2 h3 hr (abort_idle hI), hr⟩
/-- All that the walk knows. -/
structure GS where
  t : Nat
  s : Nat
  d : Nat
  B : Nat → Nat
  recs : List Rec
  J : Nat → Sl
  rt : Nat
  F : Nat → Prop
  T : Gt
  S : GA
  r : Int
  sr : Int
  H : Nat → Prop
  A0 : GA
  r0 : Int
  S0 : GA
  sr0 : Int
  G : Nat → Prop
  J0 : Nat → Sl
  rt0 : Nat
  l : List Fl
/-- The real side's blocks. -/
def GS.K (q : GS) (g y : Nat) : Prop := q.F y ∨ y = q.s ∨ y = q.t ∨ y = g
def belC (d t : Nat) : Array Value := #[.pointer (some ⟨d, 0, none⟩), .pointer (some ⟨t, 0, none⟩)]
structure GV (q : GS) (w0 : World) (vb g m mb : Nat) (ex : Bool) (rv : Value) (N : Nat) (wr : World) : Prop where
  gr : GR wr g q.t q.s q.d (replayB q.B q.recs) q.B q.recs q.J q.rt q.F q.T q.S
  mg : ∃ hz, MG wr m true (absG q.J q.T) q.r q.S q.sr hz q.H
  mb : ∃ hz, MG wr mb true q.A0 q.r0 q.S0 q.sr0 hz q.G
  rg : OwnF wr rv q.l
  rl : q.l.length ≤ 9
  kv : Has wr vb (belC q.d q.t) 30
  keys : ∀ x ∈ q.recs, x.1 < 145
  len : q.recs.length ≤ 600
  cut : ∀ kk, kk < q.recs.length → Shows (replayB q.B (q.recs.take kk)) q.rt0 q.J0
  c0 : Inv q.J0 ∧ Fnd q.J0 q.rt0 q.S0 ∧ (q.rt0 = 0 → q.sr0 ≤ 46) ∧ (q.rt0 ≠ 0 → q.sr0 ≤ (frJ q.J0 : Int))
  still : q.recs = [] → q.S0 = q.S ∧ q.sr0 ≤ (frJ (abortJ q.J) : Int)
  lo : q.r ≤ (frJ q.J : Int)
  ls : q.sr ≤ (frJ (abortJ q.J) : Int)
  exa : ex = true → q.r = (frJ q.J : Int) ∧ q.sr = (frJ (abortJ q.J) : Int)
  bd : Bd N q.r q.sr q.T.nx q.S.nx
  b0 : Bd N q.sr0 q.sr0 q.S0.nx q.S0.nx
  a0 : ASm q.A0 ∧ ASm q.S0 ∧ ∀ x ∈ q.S0.nodes, x.seq < 4611686018427387904
  fK : ∀ y, q.K g y ∨ q.H y ∨ q.G y ∨ rv.ownBlock = some y → w0.heap.size ≤ y ∧ y ≠ vb
  fH : ∀ y, q.H y → ¬ q.K g y
  fG : ∀ y, q.G y → ¬ q.K g y ∧ ¬ q.H y
  fR : ∀ y, rv.ownBlock = some y → ¬ q.K g y ∧ ¬ q.H y ∧ ¬ q.G y
  bel : Below w0.heap.size w0 wr
  vbl : w0.heap.size ≤ vb
  z0 : q.rt0 = 0 → ex = false
section
variable {q : GS} {w0 w1 wr wm w2 w3 w5 wx : World} {vb g m mb mb' m2 : Nat} {ex ex2 : Bool} {rv rv2 : Value} {N : Nat}
theorem GS.K4 {y : Nat} (h : y = g ∨ y = q.t ∨ y = q.s ∨ q.F y) : q.K g y := by
  rcases h with e | e | e | e
  · exact .inr (.inr (.inr e))
  · exact .inr (.inr (.inl e))
  · exact .inr (.inl e)
  · exact .inl e
theorem GV.quiet (h : GV q w0 vb g m mb ex rv N wr) (ho : Only (fun _ => False) wr w1) : GV q w0 vb g m mb ex rv N w1 := by
  obtain ⟨hz, h1⟩ := h.mg
  obtain ⟨hz2, h2⟩ := h.mb
  exact ⟨h.gr.quiet ho, ⟨hz, h1.quiet ho⟩, ⟨hz2, h2.quiet ho⟩, h.rg.keep ho (fun _ _ h => h), h.rl, h.kv.keep ho (fun h => h), h.keys, h.len, h.cut, h.c0, h.still, h.lo, h.ls, h.exa, h.bd, h.b0, h.a0, h.fK, h.fH, h.fG, h.fR, Only.bel h.bel ho (fun _ h => h.elim), h.vbl, h.z0⟩
theorem GV.lt (h : GV q w0 vb g m mb ex rv N wr) : ∀ y, q.K g y ∨ q.H y ∨ q.G y ∨ rv.ownBlock = some y → y < wr.heap.size := fun y hy => by
  obtain ⟨hz, h1⟩ := h.mg
  obtain ⟨hz2, h2⟩ := h.mb
  obtain ⟨t1, t2, t3⟩ := h.gr.ts.ts_lt
  have := h.gr.gh.lt
  rcases hy with (e | e | e | e) | e | e | e
  · exact t3 y e
  · omega
  · omega
  · omega
  · exact h1.inn y e
  · exact h2.inn y e
  · exact ownsRow_lt h.rg y e
/-- Ready for the step: the device and the model marked, the model cloned. -/
structure GRd (q : GS) (w0 : World) (vb g m mb : Nat) (rv : Value) (lo3 : Nat) (w3 : World) : Prop where
  gj : GJ w3 g q.t q.s q.d m (replayB q.B q.recs) q.J q.rt q.F q.T q.S q.r q.sr q.H
  mb : MG w3 mb true (absG q.J q.T) q.r q.S q.sr true (fun y => lo3 ≤ y ∧ y < w3.heap.size)
  rg : RgAt w3 rv q.l (fun y => y = g ∨ y = q.t ∨ y = q.s ∨ q.F y ∨ q.H y)
  kv : Has w3 vb (belC q.d q.t) 30
  bel : Below w0.heap.size w0 w3
theorem GV.ready (h : GV q w0 vb g m mb ex rv N wr) (hN : N ≤ 4398046511104) (hd : DevAt wm q.d (replayB q.B q.recs) (replayB q.B q.recs) [] q.F) (hom : Only q.F wr wm) (h2 : MG w2 m true (absG q.J q.T) q.r q.S q.sr true q.H) (ho2 : Only (fun y => y = m) wm w2) (h3 : NwM w2 w3 mb' true (absG q.J q.T) q.r q.S q.sr) : GRd q w0 vb g m mb' rv w2.heap.size w3 := by
  have hbd := h.bd
  have r1 := hbd.r1; have r2 := hbd.r2; have s1 := hbd.s1; have s2 := hbd.s2; have n1 := hbd.n
  obtain ⟨hz, hm⟩ := h.mg
  have hHm := hm.hm
  have gm := h.gr.marked hd hom
  have nK : ∀ y, y = g ∨ y = q.t ∨ y = q.s ∨ q.F y → ¬ (y = m) := fun y hy e => h.fH m hHm (by rw [← e]; exact GS.K4 hy)
  have g2 := (gm.keep ho2 nK).quiet h3.ho
  have nR : ∀ y, rv.ownBlock = some y → ¬ q.F y ∧ y ≠ m := fun y hy => ⟨fun e => (h.fR y hy).1 (.inl e), fun e => (h.fR y hy).2.1 (by rw [e]; exact hHm)⟩
  have r3 := ((h.rg.keep hom (fun y hy => (nR y hy).1)).keep ho2 (fun y hy => (nR y hy).2)).keep h3.ho (fun _ _ h => h)
  have vF : ¬ q.F vb := fun e => (h.fK vb (.inl (.inl e))).2 rfl
  have vm : ¬ (vb = m) := fun e => (h.fK m (.inr (.inl hHm))).2 e.symm
  refine ⟨⟨g2, h2.quiet h3.ho, h.fH, h.lo, h.ls, ⟨by omega, by omega⟩, ⟨by omega, by omega⟩, by omega⟩, h3.mg, ⟨r3, h.rl, fun y hy e => ?_⟩, ((h.kv.keep hom vF).keep ho2 vm).keep h3.ho (fun h => h), ?_⟩
  · rcases e with e | e | e | e | e
    · exact (h.fR y hy).1 (GS.K4 (.inl e))
    · exact (h.fR y hy).1 (GS.K4 (.inr (.inl e)))
    · exact (h.fR y hy).1 (GS.K4 (.inr (.inr (.inl e))))
    · exact (h.fR y hy).1 (GS.K4 (.inr (.inr (.inr e))))
    · exact (h.fR y hy).2.1 e
  · refine Only.bel (Only.bel (Only.bel h.bel hom (fun y hy => (h.fK y (.inl (.inl hy))).1)) ho2 (fun y hy => ?_)) h3.ho (fun _ h => h.elim)
    rw [hy]
    exact (h.fK m (.inr (.inl hHm))).1
/-- The state behind a step. -/
def GS.next (q : GS) (R : List Rec) (J' : Nat → Sl) (rt' : Nat) (F' : Nat → Prop) (T' : Gt) (S' : GA) (r2 s2 : Int) (H2 : Nat → Prop) (lo3 hi3 : Nat) (l2 : List Fl) : GS :=
  ⟨q.t, q.s, q.d, replayB q.B q.recs, R, J', rt', F', T', S', r2, s2, H2, absG q.J q.T, q.r, q.S, q.sr, fun y => lo3 ≤ y ∧ y < hi3, abortJ q.J, q.rt, l2⟩
theorem GV.after (h : GV q w0 vb g m mb ex rv N wr) {lo3 : Nat} (hlo3 : wr.heap.size ≤ lo3) (hsz3 : wr.heap.size ≤ w3.heap.size) (hr : GRd q w0 vb g m mb' rv lo3 w3) {k : Int} {full : Bool} {J' : Nat → Sl} {rt' : Nat} {R : List Rec} {F' : Nat → Prop} {T' : Gt} {S' A' S2 : GA} {r' sr' : Int} {H' : Nat → Prop}
    (hp : PlP w3 w5 g q.t q.s q.d m (replayB q.B q.recs) q.J q.rt q.F q.T q.S q.r q.sr q.H k full J' rt' R F' T' S' A' r' S2 sr' H') (hox : Only (fun y => rv.ownBlock = some y ∨ w5.heap.size ≤ y) w5 wx) {r2 s2 : Int} {hz2 : Bool} {H2 : Nat → Prop} {l2 : List Fl}
    (hm2 : MG wx m2 true (absG J' T') r2 S' s2 hz2 H2) (hH2 : ∀ y, H2 y → H' y ∨ w5.heap.size ≤ y) (hrv : OwnF wx rv2 l2) (hl2 : l2.length ≤ 9) (hrb : ∀ y, rv2.ownBlock = some y → rv.ownBlock = some y ∨ w5.heap.size ≤ y) (hRH : ∀ y, rv2.ownBlock = some y → ¬ H2 y)
    (hlo : r2 ≤ (frJ J' : Int)) (hls : s2 ≤ (frJ (abortJ J') : Int)) (hex : ex2 = true → r2 = (frJ J' : Int) ∧ s2 = (frJ (abortJ J') : Int)) (hbd : Bd (N + 1) r2 s2 T'.nx S'.nx) : GV (q.next R J' rt' F' T' S' r2 s2 H2 lo3 w3.heap.size l2) w0 vb g m2 mb' ex2 rv2 (N + 1) wx := by
  have hlt := h.lt
  have hs5 := hp.only.size
  have hI := h.gr.gi.inv
  obtain ⟨hf, hrt⟩ := h.gr.sv.fnd hI
  obtain ⟨hz', hm'⟩ := hp.mg
  have hH'l := hm'.inn
  obtain ⟨t1, t2, t3⟩ := hp.gr.ts.ts_lt
  have hgl := hp.gr.gh.lt
  have w0wr : w0.heap.size ≤ wr.heap.size := h.bel.size
  -- old blocks
  have oldK : ∀ y, y = g ∨ y = q.t ∨ y = q.s ∨ q.F y ∨ q.H y → y < wr.heap.size ∧ w0.heap.size ≤ y ∧ y ≠ vb ∧ ¬ (rv.ownBlock = some y) := fun y hy => by
    have hk : q.K g y ∨ q.H y := by
      rcases hy with e | e | e | e | e
      · exact .inl (GS.K4 (.inl e))
      · exact .inl (GS.K4 (.inr (.inl e)))
      · exact .inl (GS.K4 (.inr (.inr (.inl e))))
      · exact .inl (GS.K4 (.inr (.inr (.inr e))))
      · exact .inr e
    have h1 : q.K g y ∨ q.H y ∨ q.G y ∨ rv.ownBlock = some y := hk.imp id .inl
    refine ⟨hlt y h1, (h.fK y h1).1, (h.fK y h1).2, fun e => ?_⟩
    rcases hk with hk | hk
    · exact (h.fR y e).1 hk
    · exact (h.fR y e).2.1 hk
  have hvbl : vb < w3.heap.size := hr.kv.lt
  have newK : ∀ y, (F' y ∨ y = q.s ∨ y = q.t ∨ y = g) ∨ H' y → y < w5.heap.size ∧ w0.heap.size ≤ y ∧ y ≠ vb ∧ ¬ (rv.ownBlock = some y) ∧ ¬ (lo3 ≤ y ∧ y < w3.heap.size) := fun y hy => by
    have hlt5 : y < w5.heap.size := by
      rcases hy with (e | e | e | e) | e
      · exact t3 y e
      · omega
      · omega
      · omega
      · exact hH'l y e
    have hsrc : (y = g ∨ y = q.t ∨ y = q.s ∨ q.F y ∨ q.H y) ∨ w3.heap.size ≤ y := by
      rcases hy with (e | e | e | e) | e
      · rcases hp.fp y (.inl e) with e | e | e
        · exact .inl (.inr (.inr (.inr (.inl e))))
        · exact .inl (.inr (.inr (.inr (.inr e))))
        · exact .inr e
      · exact .inl (.inr (.inr (.inl e)))
      · exact .inl (.inr (.inl e))
      · exact .inl (.inl e)
      · rcases hp.fp y (.inr e) with e | e | e
        · exact .inl (.inr (.inr (.inr (.inl e))))
        · exact .inl (.inr (.inr (.inr (.inr e))))
        · exact .inr e
    rcases hsrc with e | e
    · have := oldK y e
      exact ⟨hlt5, this.2.1, this.2.2.1, this.2.2.2, by omega⟩
    · refine ⟨hlt5, by omega, by omega, fun e2 => ?_, by omega⟩
      have := ownsRow_lt hr.rg.own y e2
      omega
  have rvl : ∀ y, rv.ownBlock = some y → y < wr.heap.size ∧ w0.heap.size ≤ y ∧ y ≠ vb := fun y hy => ⟨hlt y (.inr (.inr (.inr hy))), h.fK y (.inr (.inr (.inr hy)))⟩
  have mb5 := (hr.mb.keep hp.only (fun y hy e => by have := (oldK y e).1; omega)).keep hox (fun y hy e => by
    rcases e with e | e
    · have := (rvl y e).1; omega
    · omega)
  have gx : GR wx g q.t q.s q.d (replayB (replayB q.B q.recs) R) (replayB q.B q.recs) R J' rt' F' T' S' := hp.gr.keep hox (fun y hy e => by
    have hk : (F' y ∨ y = q.s ∨ y = q.t ∨ y = g) := by
      rcases hy with e | e | e | e
      · exact .inr (.inr (.inr e))
      · exact .inr (.inr (.inl e))
      · exact .inr (.inl e)
      · exact .inl e
    have := newK y (.inl hk)
    rcases e with e | e
    · exact this.2.2.2.1 e
    · omega)
  have kx := (hr.kv.keep hp.only (fun e => (oldK vb e).2.2.1 rfl)).keep hox (fun e => by
    rcases e with e | e
    · exact (rvl vb e).2.2 rfl
    · omega)
  have hseqS := h.gr.seqS
  refine ⟨gx, ⟨hz2, hm2⟩, ⟨true, mb5⟩, hrv, hl2, kx, hp.keys, by have := hp.len; show R.length ≤ 600; omega, hp.cuts, ⟨hI.abort, hf, fun e => absurd e hrt, fun _ => h.ls⟩, fun e => ?_, hlo, hls, hex, hbd, ?_, ⟨h.gr.asm, h.gr.asmS, hseqS⟩, fun y hy => ?_, fun y hy e => ?_, fun y hy => ⟨fun e => ?_, fun e => ?_⟩, fun y hy => ⟨fun e => ?_, hRH y hy, fun e => ?_⟩, ?_, h.vbl, fun e => absurd e hrt⟩
  · obtain ⟨e1, e2, e3⟩ := hp.still e
    exact ⟨e2.symm, by show q.sr ≤ (frJ (abortJ J') : Int); rw [e3]; exact h.ls⟩
  · have := h.bd.step
    exact ⟨this.s1, this.s2, this.s1, this.s2, this.sn, this.sn⟩
  · rcases hy with e | e | e | e
    · have := newK y (.inl e); exact ⟨this.2.1, this.2.2.1⟩
    · rcases hH2 y e with e | e
      · have := newK y (.inr e); exact ⟨this.2.1, this.2.2.1⟩
      · exact ⟨by omega, by omega⟩
    · have e' : lo3 ≤ y ∧ y < w3.heap.size := e
      refine ⟨by omega, fun ev => ?_⟩
      subst ev
      have hv0 := h.kv.lt
      omega
    · rcases hrb y e with e | e
      · exact (rvl y e).2
      · exact ⟨by omega, by omega⟩
  · have := newK y (.inl e)
    rcases hH2 y hy with e2 | e2
    · exact hp.off y e2 e
    · omega
  · exact (newK y (.inl e)).2.2.2.2 hy
  · have hy' : lo3 ≤ y ∧ y < w3.heap.size := hy
    rcases hH2 y e with e | e
    · exact (newK y (.inr e)).2.2.2.2 hy'
    · omega
  · have := newK y (.inl e)
    rcases hrb y hy with e2 | e2
    · exact this.2.2.2.1 e2
    · omega
  · have e' : lo3 ≤ y ∧ y < w3.heap.size := e
    rcases hrb y hy with e2 | e2
    · have := (rvl y e2).1; omega
    · omega
  · exact Only.bel (Only.bel hr.bel hp.only (fun y e => (oldK y e).2.1)) hox (fun y e => by
      rcases e with e | e
      · exact (rvl y e).2.1
      · omega)
end
end Go.Proofs.Qxb6500417aGreat
