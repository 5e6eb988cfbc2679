/-
  OWN WORK. THE GRAPH LAW's WALK: what is asked of the state; the start.
-/
import Derived.Test.Qxb6500417aGreatGWk0
namespace Go.Proofs.Qxb6500417aGreat
open Go.RowKit Go.PlainAid
set_option linter.unusedSimpArgs false
set_option linter.unusedVariables false

section
variable {q : GS} {w0 w1 wr wm w2 w3 w4 w5 wx : World} {vb g m mb mb' m2 : Nat} {ex ex2 : Bool} {rv rv2 : Value} {N : Nat}
theorem GRd.quiet {lo3 : Nat} (h : GRd q w0 vb g m mb rv lo3 w3) (ho : Only (fun _ => False) w3 w4) : GRd q w0 vb g m mb rv lo3 w4 := by
  have hs := ho.size
  refine ⟨h.gj.quiet ho, (h.mb.quiet ho).mono (fun y hy => ⟨hy.1, by omega⟩) (fun y hy => hy.2), ⟨h.rg.own.keep ho (fun _ _ h => h), h.rg.len, h.rg.off⟩, h.kv.keep ho (fun h => h), Only.bel h.bel ho (fun _ h => h.elim)⟩
theorem GV.steps (h : GV q w0 vb g m mb ex rv N wr) : Calls Tryz.prog 14 #[.agg #[.pointer (some ⟨q.d, 0, none⟩), .pointer (some ⟨q.t, 0, none⟩)]] wr fun e w' => e = .returned (.int .i64 q.recs.length) ∧ Only (fun _ => False) wr w' := glsteps_any h.gr.ts.dev q.t
theorem GV.free (h : GV q w0 vb g m mb ex rv N wr) : Calls Tryz.prog 15 #[.agg #[.pointer (some ⟨q.d, 0, none⟩), .pointer (some ⟨q.t, 0, none⟩)]] wr fun e w' => e = .returned (.int .i64 (frJ q.J : Nat)) ∧ Only (fun _ => False) wr w' := glfree_any h.gr.ts q.d
theorem GV.roomC (h : GV q w0 vb g m mb ex rv N wr) : roomC (frJ q.J) q.r ex = true := by
  unfold Go.Proofs.Qxb6500417aGreat.roomC
  cases ex with
  | true => rw [if_pos rfl]; exact decide_eq_true (h.exa rfl).1.symm
  | false => rw [if_neg (by simp)]; exact decide_eq_true h.lo
theorem GV.room (h : GV q w0 vb g m mb ex rv N wr) : Calls Tryz.prog 17 #[.agg #[.pointer (some ⟨q.d, 0, none⟩), .pointer (some ⟨q.t, 0, none⟩)], .pointer (some ⟨m, 0, none⟩), .bool ex] wr fun e w' => e = .returned (.bool true) ∧ Only (fun _ => False) wr w' := by
  obtain ⟨hz, hm⟩ := h.mg
  have := glRoom_any h.gr.ts hm q.d ex
  rw [h.roomC] at this
  exact this
theorem GV.alike (h : GV q w0 vb g m mb ex rv N wr) : Calls Tryz.prog 18 #[.agg #[.pointer (some ⟨q.d, 0, none⟩), .pointer (some ⟨q.t, 0, none⟩)], .pointer (some ⟨g, 0, none⟩), .pointer (some ⟨m, 0, none⟩), .bool ex] wr fun e w' => e = .returned (.bool true) ∧ Only (fun _ => False) wr w' := by
  obtain ⟨hz, hm⟩ := h.mg
  refine (galike_any h.gr hm h.gr.asm h.gr.gi.seqs q.d ex).mono ?_
  rintro e w' ⟨b, rfl, hb, ho⟩
  exact ⟨by rw [hb.2 ⟨rfl, h.roomC⟩], ho⟩
theorem GV.up (h : GV q w0 vb g m mb ex rv N wr) : GV q w0 vb g m mb ex rv (N + 1) wr := { h with bd := h.bd.step, b0 := h.b0.step }
section
variable {lo3 : Nat} {k : Int} {full : Bool} {J' : Nat → Sl} {rt' : Nat} {R : List Rec} {F' : Nat → Prop} {T' : Gt} {S' A' S2 : GA} {r' sr' : Int} {H' : Nat → Prop}
theorem GV_off (hr : GRd q w0 vb g m mb' rv lo3 w3) (hp : PlP w3 w5 g q.t q.s q.d m (replayB q.B q.recs) q.J q.rt q.F q.T q.S q.r q.sr q.H k full J' rt' R F' T' S' A' r' S2 sr' H') {y : Nat} (hy : y = q.t ∨ y = q.s ∨ F' y) : ¬ (rv.ownBlock = some y ∨ w5.heap.size ≤ y) := by
  obtain ⟨t1, t2, t3⟩ := hp.gr.ts.ts_lt
  intro e
  rcases e with e | e
  · rcases hy with h | h | h
    · exact hr.rg.off y e (.inr (.inl h))
    · exact hr.rg.off y e (.inr (.inr (.inl h)))
    · rcases hp.fp y (.inl h) with h | h | h
      · exact hr.rg.off y e (.inr (.inr (.inr (.inl h))))
      · exact hr.rg.off y e (.inr (.inr (.inr (.inr h))))
      · have := ownsRow_lt hr.rg.own y e
        omega
  · rcases hy with h | h | h
    · omega
    · omega
    · have := t3 y h; omega
theorem GV_mb (h : GV q w0 vb g m mb ex rv N wr) (hlo3 : wr.heap.size ≤ lo3) (hr : GRd q w0 vb g m mb' rv lo3 w3) (hp : PlP w3 w5 g q.t q.s q.d m (replayB q.B q.recs) q.J q.rt q.F q.T q.S q.r q.sr q.H k full J' rt' R F' T' S' A' r' S2 sr' H') (hox : Only (fun y => rv.ownBlock = some y ∨ w5.heap.size ≤ y) w5 wx) : MG wx mb' true (absG q.J q.T) q.r q.S q.sr true (fun y => lo3 ≤ y ∧ y < w3.heap.size) := by
  have hs5 := hp.only.size
  refine (hr.mb.keep hp.only (fun y hy e => ?_)).keep hox (fun y hy e => ?_)
  · have hl : y < wr.heap.size := h.lt y (by
      rcases e with e | e | e | e | e
      · exact .inl (GS.K4 (.inl e))
      · exact .inl (GS.K4 (.inr (.inl e)))
      · exact .inl (GS.K4 (.inr (.inr (.inl e))))
      · exact .inl (GS.K4 (.inr (.inr (.inr e))))
      · exact .inr (.inl e))
    omega
  · rcases e with e | e
    · have := h.lt y (.inr (.inr (.inr e))); omega
    · omega
/-- Behind a full step: the model is the clone of the one ahead of it, and has paid. -/
theorem GV.paid (h : GV q w0 vb g m mb ex rv N wr) (hlo3 : wr.heap.size ≤ lo3) (hsz3 : wr.heap.size ≤ w3.heap.size) (hr : GRd q w0 vb g m mb' rv lo3 w3)
    (hp : PlP w3 w5 g q.t q.s q.d m (replayB q.B q.recs) q.J q.rt q.F q.T q.S q.r q.sr q.H k true J' rt' R F' T' S' A' r' S2 sr' H') {w8 w9 : World} (ho8 : Only (fun y => rv.ownBlock = some y ∨ w5.heap.size ≤ y) w5 w8) {l2 : List Fl}
    (hrv : OwnF w8 rv2 l2) (hl2 : l2.length ≤ 9) (hrb : ∀ y, rv2.ownBlock = some y → rv.ownBlock = some y ∨ w5.heap.size ≤ y) (h9 : Only (fun _ => False) w8 w9) {x : Int} (hx : (if k = 8 ∨ k = 12 then 0 else q.r - r') = x) {hz2 : Bool} (hm : MG wx m2 true (absG q.J q.T) (q.r - x) q.S q.sr hz2 (fun y => w8.heap.size ≤ y ∧ y < w9.heap.size)) (hox : Only (fun y => y = m2) w9 wx) :
    GV (q.next R J' rt' F' T' S' (q.r - x) q.sr (fun y => w8.heap.size ≤ y ∧ y < w9.heap.size) lo3 w3.heap.size l2) w0 vb g m2 mb' false rv2 (N + 1) wx := by
  obtain ⟨n1, n2, n3, n4, n5, n6, n7, n8⟩ := hp.no rfl
  have hm2 : w8.heap.size ≤ m2 ∧ m2 < w9.heap.size := hm.hm
  have s8 := ho8.size
  have hlo := h.lo
  have hls := h.ls
  have hnx : T'.nx = q.T.nx := by
    have : (absG J' T').nx = (absG q.J q.T).nx := by rw [n1]
    exact this
  have hrl : ∀ y, rv2.ownBlock = some y → y < w8.heap.size := ownsRow_lt hrv
  refine h.after hlo3 hsz3 hr hp ((ho8.trans (h9.mono (fun _ _ h => h.elim)) (fun _ _ e => e)).trans (hox.mono (T := fun y => rv.ownBlock = some y ∨ w5.heap.size ≤ y) (fun y _ e => .inr (by have e' : y = m2 := e; omega))) (fun _ _ e => e)) (by rw [n1, n2]; exact hm) (fun y hy => .inr (by omega)) ((hrv.keep h9 (fun _ _ h => h)).keep hox (fun y hy e => by have := hrl y hy; have e' : y = m2 := e; omega)) hl2 hrb (fun y hy e => by have := hrl y hy; omega) ?_ (by rw [n3]; exact hls) (fun e => Bool.noConfusion e) ?_
  · rw [← hx]
    by_cases e : k = 8 ∨ k = 12
    · rw [if_pos e]; have := n6 e; omega
    · rw [if_neg e]; have := n7 (fun h => e (.inl h)) (fun h => e (.inr h)); omega
  · rw [hnx, n2, ← hx]
    have hb := h.bd.step
    by_cases e : k = 8 ∨ k = 12
    · rw [if_pos e]
      exact ⟨by have := hb.r1; omega, by have := hb.r2; omega, hb.s1, hb.s2, hb.n, hb.sn⟩
    · rw [if_neg e]
      have hb2 := hp.bd N h.bd (.inr ⟨fun h => e (.inl h), fun h => e (.inr h)⟩)
      exact ⟨by have := hb2.r1; omega, by have := hb2.r2; omega, hb.s1, hb.s2, hb.n, hb.sn⟩
/-- Behind a step that found room. -/
theorem GV.went (h : GV q w0 vb g m mb ex rv N wr) (hlo3 : wr.heap.size ≤ lo3) (hsz3 : wr.heap.size ≤ w3.heap.size) (hr : GRd q w0 vb g m mb' rv lo3 w3)
    (hp : PlP w3 w5 g q.t q.s q.d m (replayB q.B q.recs) q.J q.rt q.F q.T q.S q.r q.sr q.H k false J' rt' R F' T' S' A' r' S2 sr' H') (hox : Only (fun y => rv.ownBlock = some y ∨ w5.heap.size ≤ y) w5 wx) {l2 : List Fl}
    (hrv : OwnF wx rv2 l2) (hl2 : l2.length ≤ 9) (hrb : ∀ y, rv2.ownBlock = some y → rv.ownBlock = some y ∨ w5.heap.size ≤ y) (hRH : ∀ y, rv.ownBlock = some y → ¬ H' y) {hz2 : Bool} (hm : MG wx m true A' r' S2 sr' hz2 H') (hx : (if chgK k = true then (k == 12 && true) else ex) = ex2) :
    GV (q.next R J' rt' F' T' S' r' sr' H' lo3 w3.heap.size l2) w0 vb g m mb' ex2 rv2 (N + 1) wx := by
  obtain ⟨n1, n2, n3, n4, n5, n6, n7, n8⟩ := hp.ok rfl
  obtain ⟨hz, hm5⟩ := hp.mg
  refine h.after hlo3 hsz3 hr hp hox (by rw [← n1, ← n2]; exact hm) (fun y hy => .inl hy) hrv hl2 hrb (fun y hy e => ?_) n3 n4 (fun e => ?_) (hp.bd N h.bd (.inl rfl))
  · rcases hrb y hy with e2 | e2
    · exact hRH y e2 e
    · have := hm5.inn y e; omega
  · rw [e] at hx
    by_cases hc : chgK k = true
    · rw [if_pos hc] at hx
      exact n8 (by simpa using hx)
    · rw [if_neg hc] at hx
      obtain ⟨e1, e2, e3, e4⟩ := hp.look (by simpa using hc)
      rw [e1, e3, e4]
      exact h.exa hx
end
/-- The start: the format has just been played. -/
theorem GV.start {W2 w3 w4 w5 w6 : World} {g t s d m mb vb : Nat} {F F' : Nat → Prop} {T : Gt} {R : List Rec} {J' : Nat → Sl} {rt' : Nat} (hO : OpG W2 w3 g t s d (fun _ => 0) (fun _ => 0) [] (fun _ => Sl.free) J' 0 rt' F T GA.fresh R F') (hR : 1 ≤ R.length) (hf : frJ J' = 46) (hg : W2.heap.size ≤ g) (hN : ∀ y, F y ∨ y = s ∨ y = t → w0.heap.size ≤ y) (kv : Has W2 vb (belC d t) 30) (hvF : ∀ y, F y ∨ y = s ∨ y = t → y ≠ vb) (hvb : w0.heap.size ≤ vb) (hbel : Below w0.heap.size w0 W2)
    (h4 : NwM w3 w4 m false GA.fresh 46 GA.fresh 46) (h5 : MG w5 m true GA.fresh 46 GA.fresh 46 true (fun y => w3.heap.size ≤ y ∧ y < w4.heap.size)) (ho5 : Only (fun y => y = m) w4 w5) (h6 : NwM w5 w6 mb true GA.fresh 46 GA.fresh 46) :
    GV ⟨t, s, d, fun _ => 0, R, J', rt', F', T, GA.fresh, 46, 46, fun y => w3.heap.size ≤ y ∧ y < w4.heap.size, GA.fresh, 46, GA.fresh, 46, fun y => w5.heap.size ≤ y ∧ y < w6.heap.size, abortJ (fun _ => Sl.free), 0, []⟩ w0 vb g m mb false (.slice none 0 0) 0 w6 := by
  have s34 := h4.ho.size
  have s45 := ho5.size
  have s56 := h6.ho.size
  have sW3 := hO.went.only.size
  have hw0 : w0.heap.size ≤ W2.heap.size := hbel.size
  have hm4 := h4.mg.hm
  have hvl := kv.lt
  obtain ⟨t1, t2, t3⟩ := hO.gr.ts.ts_lt
  have hgl := hO.gr.gh.lt
  have hK : ∀ y, F' y ∨ y = s ∨ y = t ∨ y = g → y < w3.heap.size ∧ w0.heap.size ≤ y ∧ y ≠ vb := fun y hy => by
    rcases hy with e | e | e | e
    · have := t3 y e
      rcases hO.went.ext y e with e1 | e1
      · exact ⟨this, hN y (.inl e1), hvF y (.inl e1)⟩
      · exact ⟨this, by omega, by omega⟩
    · exact ⟨by omega, hN y (.inr (.inl e)), hvF y (.inr (.inl e))⟩
    · exact ⟨by omega, hN y (.inr (.inr e)), hvF y (.inr (.inr e))⟩
    · exact ⟨by omega, by omega, by omega⟩
  have o35 : Only (fun y => y = m) w3 w5 := (h4.ho.mono (fun _ _ h => h.elim)).trans ho5 (fun _ _ h => h)
  have gx := ((hO.gr.keep o35 (fun y hy e => by
    have := (hK y (by rcases hy with e | e | e | e; exact .inr (.inr (.inr e)); exact .inr (.inr (.inl e)); exact .inr (.inl e); exact .inl e)).1
    have h1 : w3.heap.size ≤ m := hm4.1
    omega)).quiet h6.ho)
  rw [List.nil_append] at gx
  have ha : absG J' T = GA.fresh := hO.abs
  have hT : T.nx = 1 := by
    have : (absG J' T).nx = 1 := by rw [ha]; rfl
    exact this
  have hla := frJ_abort J'
  have kx := ((kv.keep hO.went.only (fun e => by
    rcases e with e | e | e | e
    · omega
    · exact hvF vb (.inr (.inr e)) rfl
    · exact hvF vb (.inr (.inl e)) rfl
    · exact hvF vb (.inl e) rfl)).keep o35 (fun e => by have h1 : w3.heap.size ≤ m := hm4.1; have e' : vb = m := e; omega)).keep h6.ho (fun h => h)
  have belx := Only.bel (Only.bel (Only.bel hbel hO.went.only (fun y e => by
    rcases e with e | e | e | e
    · omega
    · exact hN y (.inr (.inr e))
    · exact hN y (.inr (.inl e))
    · exact hN y (.inl e))) o35 (fun y e => by have h1 : w3.heap.size ≤ m := hm4.1; have e' : y = m := e; omega)) h6.ho (fun _ h => h.elim)
  refine ⟨gx, ⟨true, by rw [ha]; exact h5.quiet h6.ho⟩, ⟨true, h6.mg⟩, OwnF.nil _, by simp, kx, hO.went.keys, ?_, hO.went.cuts, ⟨inv_free.abort, .blank (fun i hi => rfl) rfl rfl, fun _ => (show (46 : Int) ≤ 46 by decide), fun e => absurd rfl e⟩, fun e => ?_, ?_, ?_, fun e => Bool.noConfusion e, ?_, (show Bd 0 46 46 GA.fresh.nx GA.fresh.nx from ⟨by decide, by decide, by decide, by decide, by decide, by decide⟩), ⟨ASm.fresh, ASm.fresh, fun x hx => by simp [GA.fresh] at hx⟩, fun y hy => ?_, fun y hy e => ?_, fun y hy => ⟨fun e => ?_, fun e => ?_⟩, fun y hy => by simp [Value.ownBlock] at hy, belx, hvb, fun _ => rfl⟩
  · have := hO.went.len
    have := frJ_le (fun _ => Sl.free)
    show R.length ≤ 600
    omega
  · have e' : R = [] := e
    rw [e'] at hR; simp at hR
  · show (46 : Int) ≤ (frJ J' : Int); omega
  · show (46 : Int) ≤ (frJ (abortJ J') : Int); omega
  · show Bd 0 46 46 T.nx GA.fresh.nx
    rw [hT]
    exact ⟨by decide, by decide, by decide, by decide, by decide, by decide⟩
  · rcases hy with e | e | e | e
    · have := hK y e; exact this.2
    · have e' : w3.heap.size ≤ y ∧ y < w4.heap.size := e
      exact ⟨by omega, by omega⟩
    · have e' : w5.heap.size ≤ y ∧ y < w6.heap.size := e
      exact ⟨by omega, by omega⟩
    · simp [Value.ownBlock] at e
  · have := hK y e
    have hy' : w3.heap.size ≤ y ∧ y < w4.heap.size := hy
    omega
  · have := hK y e
    have hy' : w5.heap.size ≤ y ∧ y < w6.heap.size := hy
    omega
  · have hy' : w5.heap.size ≤ y ∧ y < w6.heap.size := hy
    have e' : w3.heap.size ≤ y ∧ y < w4.heap.size := e
    omega
end
end Go.Proofs.Qxb6500417aGreat
