/-
  OWN WORK. THE GRAPH's MODEL: SetBranch, DelBranch, SetHead, SetAux (written by tools/gen_hmd5.py).
-/
import Derived.Test.Qxb6500417aGreatHMd4
namespace Go.Proofs.Qxb6500417aGreat
open Go.RowKit Go.PlainAid
set_option linter.unusedSimpArgs false
set_option linter.unusedVariables false

section
variable {w w' : World} {nv rv av : Value} {A S : GA} {O P H : Nat → Prop} {m : Nat} {lx hz : Bool} {r sr : Int}
/-- New branches. -/
theorem MG.putRefs {l : List Rf} (h : MG w m lx A r S sr hz H) (hM : RM w rv l w') : MG (w'.setCell ⟨m, 2, none⟩ rv) m lx { A with refs := l } r S sr hz (Ext H w (w'.setCell ⟨m, 2, none⟩ rv)) ∧ Only (fun y => y = m) w (w'.setCell ⟨m, 2, none⟩ rv) := by
  obtain ⟨nv0, rv0, av0, nv', rv', av', b, hv0, Q, O, h1, h2, h3, h4, h5, h6, h7⟩ := h.ex
  have ho : Only (fun y => y = m) w' (w'.setCell ⟨m, 2, none⟩ rv) := onlyS (Only.refl _ _) _ _
  have hml := h.lt
  have hs := hM.ho.size
  have hs2 := ho.size
  have hQ : StV w' nv0 rv av0 { A with refs := l } (fun y => Q y ∨ (w.heap.size ≤ y ∧ y < w'.heap.size)) := by
    have q := (h2.quiet hM.ho)
    obtain ⟨rs, e, hL⟩ := q.nd
    exact ⟨⟨rs, e, hL.mono (fun y hy => .inl hy)⟩, hM.own, fun y hy => .inr ⟨hM.hb y hy, ownsRow_lt hM.own y hy⟩, q.ax, fun y hy => .inl (q.axb y hy)⟩
  refine ⟨⟨⟨nv0, rv, av0, nv', rv', av', b, hv0, _, O, (h1.keep hM.ho (fun h => h)).setCell 2 rv, hQ.keep ho (fun y hy e => ?_), (h3.quiet hM.ho).keep ho (fun y hy => (h7 y hy).2), h4, h5, fun k hk => ⟨fun hO => ?_, ?_, ?_⟩, fun k hk => ⟨.inl (h7 k hk).1, (h7 k hk).2⟩⟩, .inl h.hm, fun k hk => ?_⟩, (hM.ho.mono (T := fun y => y = m) (fun _ _ h => h.elim)).trans ho (fun _ _ h => h)⟩
  · rcases hy with hy | hy
    · exact (h6 y hy).2.2 e
    · omega
  · rcases hk with hk | hk
    · exact (h6 k hk).1 hO
    · have := h.inn k (h7 k hO).1; omega
  · rcases hk with hk | hk
    · exact .inl (h6 k hk).2.1
    · exact .inr ⟨hk.1, by omega⟩
  · rcases hk with hk | hk
    · exact (h6 k hk).2.2
    · omega
  · rcases hk with hk | hk
    · have := h.inn k hk; omega
    · exact hk.2
/-- A new aux. -/
theorem MG.putAux {l : List Fl} (h : MG w m lx A r S sr hz H) (hM : FM w av l w') : MG (w'.setCell ⟨m, 6, none⟩ av) m lx { A with aux := l } r S sr hz (Ext H w (w'.setCell ⟨m, 6, none⟩ av)) ∧ Only (fun y => y = m) w (w'.setCell ⟨m, 6, none⟩ av) := by
  obtain ⟨nv0, rv0, av0, nv', rv', av', b, hv0, Q, O, h1, h2, h3, h4, h5, h6, h7⟩ := h.ex
  have ho : Only (fun y => y = m) w' (w'.setCell ⟨m, 6, none⟩ av) := onlyS (Only.refl _ _) _ _
  have hml := h.lt
  have hs := hM.ho.size
  have hs2 := ho.size
  have hQ : StV w' nv0 rv0 av { A with aux := l } (fun y => Q y ∨ (w.heap.size ≤ y ∧ y < w'.heap.size)) := by
    have q := (h2.quiet hM.ho)
    obtain ⟨rs, e, hL⟩ := q.nd
    exact ⟨⟨rs, e, hL.mono (fun y hy => .inl hy)⟩, q.rf, fun y hy => .inl (q.rfb y hy), hM.own, fun y hy => .inr ⟨hM.hb y hy, ownsRow_lt hM.own y hy⟩⟩
  refine ⟨⟨⟨nv0, rv0, av, nv', rv', av', b, hv0, _, O, (h1.keep hM.ho (fun h => h)).setCell 6 av, hQ.keep ho (fun y hy e => ?_), (h3.quiet hM.ho).keep ho (fun y hy => (h7 y hy).2), h4, h5, fun k hk => ⟨fun hO => ?_, ?_, ?_⟩, fun k hk => ⟨.inl (h7 k hk).1, (h7 k hk).2⟩⟩, .inl h.hm, fun k hk => ?_⟩, (hM.ho.mono (T := fun y => y = m) (fun _ _ h => h.elim)).trans ho (fun _ _ h => h)⟩
  · rcases hy with hy | hy
    · exact (h6 y hy).2.2 e
    · omega
  · rcases hk with hk | hk
    · exact (h6 k hk).1 hO
    · have := h.inn k (h7 k hO).1; omega
  · rcases hk with hk | hk
    · exact .inl (h6 k hk).2.1
    · exact .inr ⟨hk.1, by omega⟩
  · rcases hk with hk | hk
    · exact (h6 k hk).2.2
    · omega
  · rcases hk with hk | hk
    · have := h.inn k hk; omega
    · exact hk.2
/-- Another list of commits. -/
theorem MG.putNodes {l : List Nd} (h : MG w m lx A r S sr hz H) (hM : NLM w nv l w') : MG (w'.setCell ⟨m, 0, none⟩ nv) m lx { A with nodes := l } r S sr hz (Ext H w (w'.setCell ⟨m, 0, none⟩ nv)) ∧ Only (fun y => y = m) w (w'.setCell ⟨m, 0, none⟩ nv) := by
  obtain ⟨nv0, rv0, av0, nv', rv', av', b, hv0, Q, O, h1, h2, h3, h4, h5, h6, h7⟩ := h.ex
  have ho : Only (fun y => y = m) w' (w'.setCell ⟨m, 0, none⟩ nv) := onlyS (Only.refl _ _) _ _
  have hml := h.lt
  have hs := hM.ho.size
  have hs2 := ho.size
  have hQ : StV w' nv rv0 av0 { A with nodes := l } (fun y => Q y ∨ (w.heap.size ≤ y ∧ y < w'.heap.size)) := by
    have q := (h2.quiet hM.ho)
    obtain ⟨rs, e, hL⟩ := hM.ex
    exact ⟨⟨rs, e, hL.lt.mono (fun y hy => .inr hy)⟩, q.rf, fun y hy => .inl (q.rfb y hy), q.ax, fun y hy => .inl (q.axb y hy)⟩
  refine ⟨⟨⟨nv, rv0, av0, nv', rv', av', b, hv0, _, O, (h1.keep hM.ho (fun h => h)).setCell 0 nv, hQ.keep ho (fun y hy e => ?_), (h3.quiet hM.ho).keep ho (fun y hy => (h7 y hy).2), h4, h5, fun k hk => ⟨fun hO => ?_, ?_, ?_⟩, fun k hk => ⟨.inl (h7 k hk).1, (h7 k hk).2⟩⟩, .inl h.hm, fun k hk => ?_⟩, (hM.ho.mono (T := fun y => y = m) (fun _ _ h => h.elim)).trans ho (fun _ _ h => h)⟩
  · rcases hy with hy | hy
    · exact (h6 y hy).2.2 e
    · omega
  · rcases hk with hk | hk
    · exact (h6 k hk).1 hO
    · have := h.inn k (h7 k hO).1; omega
  · rcases hk with hk | hk
    · exact .inl (h6 k hk).2.1
    · exact .inr ⟨hk.1, by omega⟩
  · rcases hk with hk | hk
    · exact (h6 k hk).2.2
    · omega
  · rcases hk with hk | hk
    · have := h.inn k hk; omega
    · exact hk.2
/-- Another head. -/
theorem MG.putHead (h : MG w m lx A r S sr hz H) (nm : ByteArray) (sq mq : Nat) : MG (((w.setCell ⟨m, 3, none⟩ (.string nm)).setCell ⟨m, 4, none⟩ (.int .i64 (sq : Int))).setCell ⟨m, 5, none⟩ (.int .i64 (mq : Int))) m lx { A with hn := nm, hs := sq, hm := mq } r S sr hz H ∧ Only (fun y => y = m) w (((w.setCell ⟨m, 3, none⟩ (.string nm)).setCell ⟨m, 4, none⟩ (.int .i64 (sq : Int))).setCell ⟨m, 5, none⟩ (.int .i64 (mq : Int))) := by
  obtain ⟨nv0, rv0, av0, nv', rv', av', b, hv0, Q, O, h1, h2, h3, h4, h5, h6, h7⟩ := h.ex
  have ho : Only (fun y => y = m) w (((w.setCell ⟨m, 3, none⟩ (.string nm)).setCell ⟨m, 4, none⟩ (.int .i64 (sq : Int))).setCell ⟨m, 5, none⟩ (.int .i64 (mq : Int))) := onlyS (onlyS (onlyS (Only.refl _ _) _ _) _ _) _ _
  exact ⟨⟨⟨nv0, rv0, av0, nv', rv', av', b, hv0, Q, O, ((h1.setCell 3 (.string nm)).setCell 4 (.int .i64 (sq : Int))).setCell 5 (.int .i64 (mq : Int)), (h2.keep ho (fun y hy => (h6 y hy).2.2)).congr rfl rfl rfl, h3.keep ho (fun y hy => (h7 y hy).2), h4, h5, h6, h7⟩, h.hm, fun k hk => Nat.lt_of_lt_of_le (h.inn k hk) ho.size⟩, ho⟩
theorem MG.next (h : MG w m lx A r S sr hz H) (x : Nat) : MG (w.setCell ⟨m, 1, none⟩ (.int .i64 (x : Int))) m lx { A with nx := x } r S sr hz H ∧ Only (fun y => y = m) w (w.setCell ⟨m, 1, none⟩ (.int .i64 (x : Int))) := by
  obtain ⟨nv0, rv0, av0, nv', rv', av', b, hv0, Q, O, h1, h2, h3, h4, h5, h6, h7⟩ := h.ex
  have ho : Only (fun y => y = m) w (w.setCell ⟨m, 1, none⟩ (.int .i64 (x : Int))) := onlyS (Only.refl _ _) _ _
  exact ⟨⟨⟨nv0, rv0, av0, nv', rv', av', b, hv0, Q, O, h1.setCell 1 _, (h2.keep ho (fun y hy => (h6 y hy).2.2)).congr rfl rfl rfl, h3.keep ho (fun y hy => (h7 y hy).2), h4, h5, h6, h7⟩, h.hm, fun k hk => Nat.lt_of_lt_of_le (h.inn k hk) ho.size⟩, ho⟩
theorem MG.ext (h : MG w m lx A r S sr hz H) (ho : Only P w w') (hP : ∀ k, H k → ¬ P k) : MG w' m lx A r S sr hz (Ext H w w') := (h.keep ho hP).mono (fun k hk => .inl hk) (Ext.in h.inn ho.size)
/-- What a call of the model leaves. -/
structure MT (w w' : World) (m : Nat) (lx : Bool) (A' : GA) (r' : Int) (S' : GA) (sr' : Int) (hz' : Bool) (H : Nat → Prop) : Prop where
  mg : MG w' m lx A' r' S' sr' hz' (Ext H w w')
  ho : Only H w w'
theorem MT.refl (h : MG w m lx A r S sr hz H) : MT w w m lx A r S sr hz H := ⟨h.mono (fun k hk => .inl hk) (Ext.in h.inn (Nat.le_refl _)), Only.refl _ _⟩
theorem MT.quiet (h : MG w m lx A r S sr hz H) (ho : Only (fun _ => False) w w') : MT w w' m lx A r S sr hz H := ⟨h.ext ho (fun _ _ h => h), ho.mono (fun _ _ h => h.elim)⟩
theorem MT.of (hm : H m) (h : MG w' m lx A r S sr hz (Ext H w w') ∧ Only (fun y => y = m) w w') : MT w w' m lx A r S sr hz H := ⟨h.1, h.2.mono (fun y _ e => by rw [e]; exact hm)⟩
theorem MT.of0 (h0 : MG w m lx A r S sr hz H) {A' S' : GA} {r' sr' : Int} {hz' lx' : Bool} (h : MG w' m lx' A' r' S' sr' hz' H ∧ Only (fun y => y = m) w w') : MT w w' m lx' A' r' S' sr' hz' H := ⟨h.1.mono (fun k hk => .inl hk) (Ext.in h0.inn h.2.size), h.2.mono (fun y _ e => by rw [e]; exact h0.hm)⟩
/-- One call behind another. -/
theorem MT.trans {w1 w2 : World} {A1 A2 S1 S2 : GA} {r1 r2 s1 s2 : Int} {z1 z2 : Bool} (h1 : MT w w1 m lx A1 r1 S1 s1 z1 H) (h2 : MT w1 w2 m lx A2 r2 S2 s2 z2 (Ext H w w1)) : MT w w2 m lx A2 r2 S2 s2 z2 H := by
  have e1 := h1.ho.size
  have e2 := h2.ho.size
  exact ⟨h2.mg.mono (fun k hk => Ext.trans e1 e2 k hk) (fun k hk => by
    rcases hk with hk | hk
    · have := h2.mg.inn k (.inl (.inl hk)); omega
    · exact hk.2), h1.ho.step h2.ho⟩
theorem MT.then {w1 w2 : World} {A1 : GA} {r1 : Int} {S1 : GA} {s1 : Int} {z1 : Bool} (h1 : MT w w1 m lx A1 r1 S1 s1 z1 H) (ho : Only (fun _ => False) w1 w2) : MT w w2 m lx A1 r1 S1 s1 z1 H := h1.trans (MT.quiet h1.mg ho)
theorem FrP.has {l : List Rf} {nm : ByteArray} {x : Int} (h : FrP l nm x) : (x = -1 ∧ hasR l nm = false) ∨ (∃ j : Nat, x = j ∧ hasR l nm = true) := by
  rcases h with ⟨e, hn⟩ | ⟨j, e, b, hb, he⟩
  · refine .inl ⟨e, ?_⟩
    cases hh : hasR l nm with
    | false => rfl
    | true =>
      unfold hasR at hh
      rw [List.any_eq_true] at hh
      obtain ⟨b, hb, hd⟩ := hh
      exact absurd (of_decide_eq_true hd) (hn b hb)
  · refine .inr ⟨j, e, ?_⟩
    unfold hasR
    rw [List.any_eq_true]
    exact ⟨b, hb, decide_eq_true he⟩
theorem hasN_nat {q : Int} (h : hasN A q = true) : ∃ n : Nat, q = n := by
  unfold hasN at h
  rw [List.any_eq_true] at h
  obtain ⟨x, _, hd⟩ := h
  exact ⟨x.seq, (of_decide_eq_true hd).symm⟩

set_option maxRecDepth 100000 in
set_option maxHeartbeats 2000000 in
theorem hdelBr_any (h : MG w m lx A r S sr hz H) (hA : ASm A) (nm : ByteArray) :
    Calls Tryz.prog 101 #[.pointer (some ⟨m, 0, none⟩), .string nm] w fun e w' => e = .returned (.int .i64 (dbE A nm : Nat)) ∧ MT w w' m lx (dbA A nm) r S sr hz H := by
  obtain ⟨na, nc, ra, rc, aa, ac, c0, c1, c2, c3, c4, c5, c6, c7, c16, hV⟩ := h.cur
  have C1 := goodName_any nm w
  have C2 := hide (afindR_any hV.rf.in_ (by have := hA.r; omega) nm)
  have C3 := hide (awithout_any hV.rf.in_ (by have := hA.r; omega) nm)
  have H0 := hide h
  have hml := h.lt
  have hA' : (if dbE A nm = 0 then { A with refs := withoutR A.refs nm } else A) = dbA A nm := rfl
  obtain ⟨X, hX⟩ : ∃ X, dbA A nm = X := ⟨_, rfl⟩
  obtain ⟨E, hE⟩ : ∃ E, dbE A nm = E := ⟨_, rfl⟩
  rw [hX, hE] at hA'
  rw [hX, hE]
  clear hX
  unfold dbE at hE
  clear h hV hA c0 c1 c3 c4 c5 c6 c7 c16
  cases hg : goodN nm with
  | false =>
    rw [if_pos hg] at hE
    subst hE
    rw [if_neg (by omega)] at hA'
    subst hA'
    rw [hg] at C1
    have C1 := hide C1
    clear C2 C3 hg
    go_enter Tryz.func101, Tryz.ntmps101
    go_wp2_with fail
    refine (unhide C1).mono ?_
    rintro e w1 ⟨rfl, rfl⟩
    clear C1
    go_wp2_with fail
    go_ret
    exact ⟨rfl, MT.refl (unhide H0)⟩
  | true =>
    rw [if_neg (by rw [hg]; simp)] at hE
    rw [hg] at C1
    have C1 := hide C1
    have HE := hide hE
    have HA := hide hA'
    clear hE hA' hg
    go_enter Tryz.func101, Tryz.ntmps101
    go_wp2_with fail
    refine (unhide C1).mono ?_
    rintro e w1 ⟨rfl, rfl⟩
    clear C1
    go_wp2_with fail
    refine (unhide C2).mono ?_
    rintro e w1 ⟨x, rfl, hF, rfl⟩
    clear C2
    rcases hF.has with ⟨rfl, hh⟩ | ⟨j, rfl, hh⟩
    · have hE := unhide HE
      have hA' := unhide HA
      clear HE HA
      rw [if_pos hh] at hE
      subst hE
      rw [if_neg (by omega)] at hA'
      subst hA'
      clear C3 hF hh
      go_wp2_with fail
      go_ret
      exact ⟨rfl, MT.refl (unhide H0)⟩
    · have hE := unhide HE
      have hA' := unhide HA
      clear HE HA
      rw [if_neg (by rw [hh]; simp)] at hE
      subst hE
      rw [if_pos rfl] at hA'
      subst hA'
      have d1 : decide ((j : Int) < 0) = false := decide_eq_false (by omega)
      clear hF hh
      go_wp2_with fail
      refine (unhide C3).mono ?_
      rintro e w1 ⟨v', rfl, hM⟩
      have h1 := (unhide H0).quiet hM.ho
      obtain ⟨_, _, _, _, _, _, _, _, e2, _, _, _, _, _, _, _⟩ := h1.cur
      have z2 := h1.free 2
      have hP := (unhide H0).putRefs hM
      have HP := hide (MT.of (unhide H0).hm hP)
      have hm1 := h1.lt
      obtain ⟨oa, oc, rfl⟩ := ownsRow_shape hM.own
      clear C3 h1 hP hM
      go_wp2_with fail
      go_ret
      exact ⟨rfl, unhide HP⟩
set_option maxRecDepth 100000 in
set_option maxHeartbeats 4000000 in
theorem hsetBr_any (h : MG w m lx A r S sr hz H) (hA : ASm A) (nm : ByteArray) (q : Int) :
    Calls Tryz.prog 99 #[.pointer (some ⟨m, 0, none⟩), .string nm, .int .i64 q] w fun e w' => e = .returned (.int .i64 (sbE A nm q : Nat)) ∧ MT w w' m lx (sbA A nm q) r S sr hz H := by
  obtain ⟨na, nc, ra, rc, aa, ac, c0, c1, c2, c3, c4, c5, c6, c7, c16, hV⟩ := h.cur
  have C1 := goodName_any nm w
  have CH := hhas_any h hA q
  have C2 := hide (afindR_any hV.rf.in_ (by have := hA.r; omega) nm)
  have C3 := hide (fun sq => awith_any hV.rf.in_ (by have := hA.r; omega) nm sq)
  have H0 := hide h
  have hml := h.lt
  have hrl := hA.r
  have hA' : (if sbE A nm q = 0 then { A with refs := withR A.refs nm q.toNat } else A) = sbA A nm q := rfl
  obtain ⟨X, hX⟩ : ∃ X, sbA A nm q = X := ⟨_, rfl⟩
  obtain ⟨E, hE⟩ : ∃ E, sbE A nm q = E := ⟨_, rfl⟩
  rw [hX, hE] at hA'
  rw [hX, hE]
  clear hX
  unfold sbE at hE
  clear h hV hA c0 c1 c3 c4 c5 c6 c7 c16
  cases hg : goodN nm with
  | false =>
    rw [if_pos hg] at hE
    subst hE
    rw [if_neg (by omega)] at hA'
    subst hA'
    rw [hg] at C1
    have C1 := hide C1
    clear C2 C3 hg CH
    go_enter Tryz.func99, Tryz.ntmps99
    go_wp2_with fail
    refine (unhide C1).mono ?_
    rintro e w1 ⟨rfl, rfl⟩
    clear C1
    go_wp2_with fail
    go_ret
    exact ⟨rfl, MT.refl (unhide H0)⟩
  | true =>
    rw [if_neg (by rw [hg]; simp)] at hE
    rw [hg] at C1
    have C1 := hide C1
    clear hg
    cases hh : hasN A q with
    | false =>
      rw [if_pos hh] at hE
      subst hE
      rw [if_neg (by omega)] at hA'
      subst hA'
      rw [hh] at CH
      have CH := hide CH
      clear C2 C3 hh
      go_enter Tryz.func99, Tryz.ntmps99
      go_wp2_with fail
      refine (unhide C1).mono ?_
      rintro e w1 ⟨rfl, rfl⟩
      clear C1
      go_wp2_with fail
      refine (unhide CH).mono ?_
      rintro e w1 ⟨rfl, rfl⟩
      clear CH
      go_wp2_with fail
      go_ret
      exact ⟨rfl, MT.refl (unhide H0)⟩
    | true =>
      rw [if_neg (by rw [hh]; simp)] at hE
      rw [hh] at CH
      have CH := hide CH
      obtain ⟨sq, rfl⟩ := hasN_nat hh
      have C3 := hide (unhide C3 sq)
      have HE := hide hE
      rw [Int.toNat_natCast] at hA'
      have HA := hide hA'
      clear hE hA' hh
      go_enter Tryz.func99, Tryz.ntmps99
      go_wp2_with fail
      refine (unhide C1).mono ?_
      rintro e w1 ⟨rfl, rfl⟩
      clear C1
      go_wp2_with fail
      refine (unhide CH).mono ?_
      rintro e w1 ⟨rfl, rfl⟩
      clear CH
      go_wp2_with fail
      refine (unhide C2).mono ?_
      rintro e w1 ⟨x, rfl, hF, rfl⟩
      clear C2
      have hfull : ((x = -1 ∧ hasR A.refs nm = false) ∧ 4 ≤ A.refs.length) ∨ ((x = -1 ∧ A.refs.length < 4) ∨ (∃ j : Nat, x = j)) ∧ ¬ (hasR A.refs nm = false ∧ 4 ≤ A.refs.length) := by
        rcases hF.has with ⟨e, hh⟩ | ⟨j, e, hh⟩
        · by_cases h4 : 4 ≤ A.refs.length
          · exact .inl ⟨⟨e, hh⟩, h4⟩
          · exact .inr ⟨.inl ⟨e, by omega⟩, fun z => h4 z.2⟩
        · exact .inr ⟨.inr ⟨j, e⟩, fun z => by rw [hh] at z; cases z.1⟩
      have hE := unhide HE
      have hA' := unhide HA
      clear HE HA hF
      rcases hfull with ⟨⟨rfl, hh⟩, h4⟩ | ⟨hx, hno⟩
      · rw [if_pos ⟨hh, h4⟩] at hE
        subst hE
        rw [if_neg (by omega)] at hA'
        subst hA'
        have d4 : decide ((4 : Int) ≤ (A.refs.length : Int)) = true := decide_eq_true (by omega)
        have d4n : decide (4 ≤ A.refs.length) = true := decide_eq_true h4
        clear C3 hh
        go_wp2_with fail
        go_ret
        exact ⟨rfl, MT.refl (unhide H0)⟩
      · rw [if_neg hno] at hE
        subst hE
        rw [if_pos rfl] at hA'
        subst hA'
        clear hno
        have HX : Hid (∀ (v' : Value) (w1 : World), RM w v' (withR A.refs nm sq) w1 → MT w (w1.setCell ⟨m, 2, none⟩ v') m lx { A with refs := withR A.refs nm sq } r S sr hz H) := hide (fun v' w1 hM => MT.of (unhide H0).hm ((unhide H0).putRefs hM))
        rcases hx with ⟨rfl, h4⟩ | ⟨j, rfl⟩
        · have d4 : decide ((4 : Int) ≤ (A.refs.length : Int)) = false := decide_eq_false (by omega)
          have d4n : decide (4 ≤ A.refs.length) = false := decide_eq_false (by omega)
          go_wp2_with fail
          refine (unhide C3).mono ?_
          rintro e w1 ⟨v', rfl, hM⟩
          have h1 := (unhide H0).quiet hM.ho
          obtain ⟨_, _, _, _, _, _, _, _, e2, _, _, _, _, _, _, _⟩ := h1.cur
          have z2 := h1.free 2
          have HP := hide (unhide HX v' w1 hM)
          have hm1 := h1.lt
          obtain ⟨oa, oc, rfl⟩ := ownsRow_shape hM.own
          clear C3 h1 hM HX
          go_wp2_with fail
          go_ret
          exact ⟨rfl, unhide HP⟩
        · have d1 : decide ((j : Int) < 0) = false := decide_eq_false (by omega)
          go_wp2_with fail
          refine (unhide C3).mono ?_
          rintro e w1 ⟨v', rfl, hM⟩
          have h1 := (unhide H0).quiet hM.ho
          obtain ⟨_, _, _, _, _, _, _, _, e2, _, _, _, _, _, _, _⟩ := h1.cur
          have z2 := h1.free 2
          have HP := hide (unhide HX v' w1 hM)
          have hm1 := h1.lt
          obtain ⟨oa, oc, rfl⟩ := ownsRow_shape hM.own
          clear C3 h1 hM HX
          go_wp2_with fail
          go_ret
          exact ⟨rfl, unhide HP⟩
end
end Go.Proofs.Qxb6500417aGreat
