/-
  OWN WORK. THE GRAPH LAW: both sides; what a step leaves.
-/
import Derived.Test.Qxb6500417aGreatGL5
import Derived.Test.Qxb6500417aGreatGAx
import Derived.Test.Qxb6500417aGreatGBr4
import Derived.Test.Qxb6500417aGreatGOpn
import Derived.Test.Qxb6500417aGreatTJ6
namespace Go.Proofs.Qxb6500417aGreat
open Go.RowKit Go.PlainAid
set_option linter.unusedSimpArgs false
set_option linter.unusedVariables false

theorem abort_st0 {s : Sl} (h : s.st = 0) : (abortS s).st = 0 := by
  unfold abortS
  rw [if_neg (by omega), if_neg (by omega)]; exact h
theorem frJ_abort (J : Nat → Sl) : frJ J ≤ frJ (abortJ J) := frJ_mono (fun i _ h => abort_st0 h)
theorem abort_twice (J : Nat → Sl) : abortJ (abortJ J) = abortJ J := by
  funext i
  show abortS (abortS (J i)) = abortS (J i)
  have h1 : (abortS (J i)).st ≠ 1 := by
    unfold abortS
    split
    · simp [Sl.free]
    · split
      · simp [stS]
      · assumption
  have h3 : (abortS (J i)).st ≠ 3 := by
    unfold abortS
    split
    · simp [Sl.free]
    · split
      · simp [stS]
      · assumption
  generalize abortS (J i) = a at *
  unfold abortS
  rw [if_neg h1, if_neg h3]
theorem frJ_eq {J J' : Nat → Sl} (h : JEq J J') : frJ J = frJ J' := frJ_congr (fun i hi => by rw [h i hi])
/-- Bytes of whatever lies in the store. -/
theorem TS.byt {w : World} {t s d rt : Nat} {D B : Nat → Nat} {recs : List Rec} {J : Nat → Sl} {F : Nat → Prop} (h : TS w t s d D B recs J rt F) : ∀ i, In i → (J i).st ≠ 0 → (J i).dat.length ≤ 180 := fun i h1 l1 => by
  obtain ⟨ob, hO, hR⟩ := h.ex
  obtain ⟨⟨tab, hd, us, nf, bk, hs, hi⟩, _, _⟩ := hO
  obtain ⟨b1, b2, b3⟩ := hR i h1
  have hh := hi.rows.held _ h1 (by rw [b1]; exact l1)
  rw [← b3]
  exact hh.n180
theorem snap_S2 {J : Nat → Sl} (hI : Inv J) (hB : ∀ i, In i → liveS (J i) = true → (J i).dat.length ≤ 180) {i : Nat} (hi : IsT J i) : (snapJ J i).length ≤ 9 ∧ ∀ f ∈ snapJ J i, FlS f := by
  have hT := (hI.tr i hi.1 (liveS_ne hi.2.1) hi.2.2).fine
  refine ⟨by unfold snapJ; rw [List.length_map]; have := hT.cnt; omega, fun f hf => ?_⟩
  obtain ⟨e, he, rfl⟩ := List.mem_map.1 hf
  have hb := hI.blobsT hi e he
  have h12 := hT.len e he
  have hm := hT.md e he
  have h180 := hB _ hb.1 hb.2.1
  refine ⟨?_, ?_, hm.1, ?_⟩
  · show (sb e.path).size ≤ _
    have : (sb e.path).size = e.path.length := by rw [← ls_size, ls_sb]
    rw [this]; omega
  · show (bsOf (J e.id.toNat).dat).size ≤ _
    have : (bsOf (J e.id.toNat).dat).size = (J e.id.toNat).dat.length := by rw [← ls_size]; simp [bsOf, ls]
    rw [this]; omega
  · show e.mode ≤ _
    omega
theorem GI.asm2 {J : Nat → Sl} {rt : Nat} {T : Gt} (h : GI J rt T) (hB : ∀ i, In i → liveS (J i) = true → (J i).dat.length ≤ 180) : ASm (absG J T) := by
  have hn := h.ord.n40
  have hall : ∀ l ∈ (absG J T).nodes.map Nd.files ++ [(absG J T).aux], l.length ≤ 9 ∧ ∀ f ∈ l, FlS f := fun l hl => by
    rw [snaps_eq] at hl
    obtain ⟨i, hi, rfl⟩ := List.mem_map.1 hl
    exact snap_S2 h.inv hB (h.rootsT i hi)
  refine ⟨by rw [abs_len]; exact hn, ?_, ⟨?_, fun l hl => (hall l hl).1, fun l hl => (hall l hl).2⟩, fun x hx => ?_, ?_⟩
  · unfold NdS
    rw [List.pairwise_iff_getElem]
    intro a b ha hb hab
    rw [abs_len] at ha hb
    have e : ∀ k (hk : k < T.n) (hk' : k < (absG J T).nodes.length), ((absG J T).nodes[k]).seq = (T.c (T.o k)).seq := fun k hk hk' => by simp [absG, Gt.os, nodeJ]
    rw [e a ha, e b hb]
    exact h.ord.srt a b hab hb
  · rw [List.length_append, List.length_map, abs_len]
    simp; omega
  · obtain ⟨i, hi, rfl⟩ := List.mem_map.1 hx
    have hw := h.tab.cw i (h.os_iff.1 hi)
    show ((T.c i).pars.map _).length ≤ 1000
    rw [List.length_map, Cr.pars_len _ hw.np]
    have := hw.np
    omega
  · show (T.bs.map _).length ≤ 100
    rw [List.length_map]
    have := h.ref.b4
    simp [Gt.bs]; omega
theorem GI.seqs {J : Nat → Sl} {rt : Nat} {T : Gt} (h : GI J rt T) : ∀ x ∈ (absG J T).nodes, x.seq < 4611686018427387904 := fun x hx => by
  obtain ⟨i, hi, rfl⟩ := List.mem_map.1 hx
  have := (h.tab.cs i (h.os_iff.1 hi)).2
  have := h.nx
  show (T.c i).seq < _
  omega
section
variable {w w' w1 w2 : World} {g t s d m : Nat} {D B : Nat → Nat} {recs : List Rec} {J J' : Nat → Sl} {rt rt' : Nat} {F F' : Nat → Prop} {T T' : Gt} {S S' A A' S2 : GA} {lx hz : Bool} {r sr r' sr' : Int} {H H' : Nat → Prop} {R : List Rec} {k : Int} {full : Bool}
/-- The saved state is small. -/
theorem SavI.asm (h : SavI J rt S) (hb : ∀ i, In i → (J i).st ≠ 0 → (J i).dat.length ≤ 180) : ASm S ∧ ∀ x ∈ S.nodes, x.seq < 4611686018427387904 := by
  obtain ⟨T0, h1, h2, h3⟩ := h.ex
  rw [← h3]
  refine ⟨h1.asm2 (fun i hi hl => ?_), h1.seqs⟩
  have hst : (J i).st ≠ 0 := fun e => by
    have := abort_st0 e
    have h2 : (abortJ J i).st ≠ 0 := liveS_ne hl
    exact h2 this
  have hd : (abortJ J i).dat = (J i).dat := by
    have hne : (abortJ J i).st ≠ 0 := liveS_ne hl
    unfold abortJ abortS at hne ⊢
    by_cases h1 : (J i).st = 1
    · rw [if_pos h1] at hne; exact absurd rfl hne
    · rw [if_neg h1]
      by_cases h3 : (J i).st = 3
      · rw [if_pos h3]; rfl
      · rw [if_neg h3]
  rw [hd]
  exact hb i hi hst
theorem GR.asmS (h : GR w g t s d D B recs J rt F T S) : ASm S := (h.sv.asm h.ts.byt).1
theorem GR.seqS (h : GR w g t s d D B recs J rt F T S) : ∀ x ∈ S.nodes, x.seq < 4611686018427387904 := (h.sv.asm h.ts.byt).2
/-- Bounds that grow by the step. -/
structure Bd (N : Nat) (r sr : Int) (nx sx : Nat) : Prop where
  r1 : -((N : Int) * 20000) ≤ r
  r2 : r ≤ 48
  s1 : -((N : Int) * 20000) ≤ sr
  s2 : sr ≤ 48
  n : nx ≤ N + 1
  sn : sx ≤ N + 1
theorem Bd.step {N : Nat} {nx sx : Nat} (h : Bd N r sr nx sx) : Bd (N + 1) r sr nx sx := by
  have := h.r1; have := h.s1; have := h.n; have := h.sn
  exact ⟨by omega, h.r2, by omega, h.s2, by omega, by omega⟩
/-- Both sides, right behind a mark. -/
structure GJ (w : World) (g t s d m : Nat) (D : Nat → Nat) (J : Nat → Sl) (rt : Nat) (F : Nat → Prop) (T : Gt) (S : GA) (r sr : Int) (H : Nat → Prop) : Prop where
  gr : GR w g t s d D D [] J rt F T S
  mg : MG w m true (absG J T) r S sr true H
  off : ∀ k, H k → ¬ (F k ∨ k = s ∨ k = t ∨ k = g)
  lo : r ≤ (frJ J : Int)
  ls : sr ≤ (frJ (abortJ J) : Int)
  rb : -3000000000000000000 < r ∧ r < 1000
  srb : -3000000000000000000 < sr ∧ sr < 1000
  nxb : T.nx < 4611686018427387000
theorem GJ.quiet (h : GJ w g t s d m D J rt F T S r sr H) (ho : Only (fun _ => False) w w') : GJ w' g t s d m D J rt F T S r sr H :=
  ⟨h.gr.quiet ho, h.mg.quiet ho, h.off, h.lo, h.ls, h.rb, h.srb, h.nxb⟩
/-- The kinds that change something. -/
def chgK (k : Int) : Bool := k == 2 || k == 4 || k == 5 || k == 6 || k == 7 || k == 8 || k == 9 || k == 12
/-- What a step leaves. -/
structure PlP (w w' : World) (g t s d m : Nat) (D : Nat → Nat) (J : Nat → Sl) (rt : Nat) (F : Nat → Prop) (T : Gt) (S : GA) (r sr : Int) (H : Nat → Prop) (k : Int) (full : Bool) (J' : Nat → Sl) (rt' : Nat) (R : List Rec) (F' : Nat → Prop) (T' : Gt) (S' A' : GA) (r' : Int) (S2 : GA) (sr' : Int) (H' : Nat → Prop) : Prop where
  gr : GR w' g t s d (replayB D R) D R J' rt' F' T' S'
  mg : ∃ hz, MG w' m true A' r' S2 sr' hz H'
  fp : ∀ y, F' y ∨ H' y → F y ∨ H y ∨ w.heap.size ≤ y
  off : ∀ y, H' y → ¬ (F' y ∨ y = s ∨ y = t ∨ y = g)
  cuts : ∀ kk, kk < R.length → Shows (replayB D (R.take kk)) rt (abortJ J)
  keys : ∀ x ∈ R, x.1 < 145
  len : R.length ≤ 200
  still : R = [] → rt' = rt ∧ S' = S ∧ frJ (abortJ J') = frJ (abortJ J)
  only : Only (fun y => y = g ∨ y = t ∨ y = s ∨ F y ∨ H y) w w'
  bd : ∀ N, Bd N r sr T.nx S.nx → (full = false ∨ (k ≠ 8 ∧ k ≠ 12)) → Bd (N + 1) r' sr' T'.nx S'.nx
  rb : -4000000000000000000 < r' ∧ r' < 2000
  ok : full = false → A' = absG J' T' ∧ S2 = S' ∧ r' ≤ (frJ J' : Int) ∧ sr' ≤ (frJ (abortJ J') : Int) ∧ (k = 9 → frJ J ≤ frJ J') ∧ (k ≠ 9 → k ≠ 12 → (frJ J : Int) - frJ J' ≤ r - r') ∧ (k = 8 ∨ k = 12 → 1 ≤ R.length) ∧ (k = 12 → r' = (frJ J' : Int) ∧ sr' = (frJ (abortJ J') : Int))
  no : full = true → absG J' T' = absG J T ∧ S' = S ∧ frJ (abortJ J') = frJ (abortJ J) ∧ (k = 12 → frJ J < 1) ∧ (k ≠ 12 → (frJ J : Int) < r - r') ∧ (k = 8 ∨ k = 12 → frJ J ≤ frJ J') ∧ (k ≠ 8 → k ≠ 12 → (frJ J : Int) - frJ J' ≤ r - r') ∧ chgK k = true
  look : chgK k = false → J' = J ∧ S' = S ∧ r' = r ∧ sr' = sr
def PlX (w w' : World) (g t s d m : Nat) (D : Nat → Nat) (J : Nat → Sl) (rt : Nat) (F : Nat → Prop) (T : Gt) (S : GA) (r sr : Int) (H : Nat → Prop) (k : Int) (full : Bool) : Prop := ∃ J' rt' R F' T' S' A' r' S2 sr' H', PlP w w' g t s d m D J rt F T S r sr H k full J' rt' R F' T' S' A' r' S2 sr' H'
theorem MG.notG (h : ∀ k, H k → ¬ (F k ∨ k = s ∨ k = t ∨ k = g)) : ∀ y, y = g ∨ y = t ∨ y = s ∨ F y → ¬ H y := fun y hy hH => by
  rcases hy with e | e | e | e
  · exact h y hH (.inr (.inr (.inr e)))
  · exact h y hH (.inr (.inr (.inl e)))
  · exact h y hH (.inr (.inl e))
  · exact h y hH (.inl e)
/-- An observer. -/
theorem PlX.look (h : GJ w g t s d m D J rt F T S r sr H) (ho : Only (fun _ => False) w w') (hk : chgK k = false) : PlX w w' g t s d m D J rt F T S r sr H k false := by
  have hk12 : k ≠ 12 := fun e => by rw [e] at hk; exact absurd hk (by decide)
  have hk8 : k ≠ 8 := fun e => by rw [e] at hk; exact absurd hk (by decide)
  have hk9 : k ≠ 9 := fun e => by rw [e] at hk; exact absurd hk (by decide)
  have rb := h.rb
  refine ⟨J, rt, [], F, T, S, absG J T, r, S, sr, H, by simpa [replayB] using h.gr.quiet ho, ⟨true, h.mg.quiet ho⟩, fun y hy => hy.elim .inl (fun e => .inr (.inl e)), h.off, fun kk hk => absurd hk (by simp), by simp, by simp, fun _ => ⟨rfl, rfl, rfl⟩, ho.mono (fun _ _ h => h.elim), fun N hN _ => hN.step, ⟨by omega, by omega⟩, fun _ => ⟨rfl, rfl, h.lo, h.ls, fun e => absurd e hk9, fun _ _ => by omega, fun e => (e.elim hk8 hk12).elim, fun e => absurd e hk12⟩, fun e => Bool.noConfusion e, fun _ => ⟨rfl, rfl, rfl, rfl⟩⟩
/-- A call that turns the tables alone. -/
theorem PlX.tab (h : GJ w g t s d m D J rt F T S r sr H) (hT : TabP w w1 g t s d D D [] J rt F S A) (hM : MT w1 w2 m true A r S sr true H) (hnx : A.nx = (absG J T).nx) (hk : k ≠ 12 ∧ k ≠ 8 ∧ k ≠ 9) (hc : chgK k = true) : PlX w w2 g t s d m D J rt F T S r sr H k false := by
  obtain ⟨T', hg, ha⟩ := hT.ex
  have rb := h.rb
  have hgl := h.gr.gh.lt
  have s1 := hT.only.size
  have s2 := hM.ho.size
  have hnx' : T'.nx = T.nx := by
    have : (absG J T').nx = (absG J T).nx := by rw [ha]; exact hnx
    exact this
  refine ⟨J, rt, [], F, T', S, A, r, S, sr, Ext H w1 w2, by simpa [replayB] using hg.keep hM.ho (MG.notG h.off), ⟨true, hM.mg⟩, fun y hy => ?_, fun y hy => ?_, fun kk hk => absurd hk (by simp), by simp, by simp, fun _ => ⟨rfl, rfl, rfl⟩, ?_, fun N hN _ => by rw [hnx']; exact hN.step, ⟨by omega, by omega⟩, fun _ => ⟨ha.symm, rfl, h.lo, h.ls, fun e => absurd e hk.2.2, fun _ _ => by omega, fun e => (e.elim hk.2.1 hk.1).elim, fun e => absurd e hk.1⟩, fun e => Bool.noConfusion e, fun e => by rw [hc] at e; cases e⟩
  · rcases hy with hy | hy | hy
    · exact .inl hy
    · exact .inr (.inl hy)
    · exact .inr (.inr (by omega))
  · rcases hy with hy | hy
    · exact h.off y hy
    · intro e
      obtain ⟨t1, t2, t3⟩ := h.gr.ts.ts_lt
      rcases e with e | e | e | e
      · have := t3 y e; omega
      · omega
      · omega
      · omega
  · refine (hT.only.mono (T := fun y => y = g ∨ y = t ∨ y = s ∨ F y ∨ H y) (fun y _ e => .inl e)).trans (hM.ho.mono (T := fun y => y = g ∨ y = t ∨ y = s ∨ F y ∨ H y) (fun y _ e => .inr (.inr (.inr (.inr e))))) (fun _ _ h => h)
/-- Something was made ahead of it. -/
theorem PlX.pre (ho : Only (fun _ => False) w w1) (h : PlX w1 w2 g t s d m D J rt F T S r sr H k full) : PlX w w2 g t s d m D J rt F T S r sr H k full := by
  obtain ⟨J', rt', R, F', T', S', A', r', S2, sr', H', hp⟩ := h
  have hs := ho.size
  exact ⟨J', rt', R, F', T', S', A', r', S2, sr', H', hp.gr, hp.mg, fun y hy => (hp.fp y hy).imp id (fun e => e.imp id (fun e => by omega)), hp.off, hp.cuts, hp.keys, hp.len, hp.still, (ho.mono (T := fun y => y = g ∨ y = t ∨ y = s ∨ F y ∨ H y) (fun _ _ h => h.elim)).trans hp.only (fun _ _ h => h), hp.bd, hp.rb, hp.ok, hp.no, hp.look⟩
/-- The store went, then the model. -/
theorem PlP.went (h : GJ w g t s d m D J rt F T S r sr H) (hW : Went w w1 g t s d D D [] J J' rt rt' F R F') (hG : GR w1 g t s d (replayB D R) D R J' rt' F' T' S') (hM : MT w1 w2 m true A' r' S2 sr' hz H) :
    GR w2 g t s d (replayB D R) D R J' rt' F' T' S' ∧ (∃ hz, MG w2 m true A' r' S2 sr' hz (Ext H w1 w2)) ∧ (∀ y, F' y ∨ Ext H w1 w2 y → F y ∨ H y ∨ w.heap.size ≤ y) ∧ (∀ y, Ext H w1 w2 y → ¬ (F' y ∨ y = s ∨ y = t ∨ y = g)) ∧ R.length ≤ 200 ∧ Only (fun y => y = g ∨ y = t ∨ y = s ∨ F y ∨ H y) w w2 := by
  have s1 := hW.only.size
  have s2 := hM.ho.size
  have hHl := h.mg.inn
  have offF : ∀ y, H y → ¬ (F' y ∨ y = s ∨ y = t ∨ y = g) := fun y hy e => by
    rcases e with e | e | e | e
    · rcases hW.ext y e with e | e
      · exact h.off y hy (.inl e)
      · have := hHl y hy; omega
    · exact h.off y hy (.inr (.inl e))
    · exact h.off y hy (.inr (.inr (.inl e)))
    · exact h.off y hy (.inr (.inr (.inr e)))
  obtain ⟨t1, t2, t3⟩ := hG.ts.ts_lt
  have hgl := hG.gh.lt
  have hfj := frJ_le J
  have hl := hW.len
  refine ⟨hG.keep hM.ho (MG.notG offF), ⟨hz, hM.mg⟩, fun y hy => ?_, fun y hy => ?_, by omega, ?_⟩
  · rcases hy with hy | hy | hy
    · rcases hW.ext y hy with e | e
      · exact .inl e
      · exact .inr (.inr e)
    · exact .inr (.inl hy)
    · exact .inr (.inr (by omega))
  · rcases hy with hy | hy
    · exact offF y hy
    · intro e
      rcases e with e | e | e | e
      · have := t3 y e; omega
      · omega
      · omega
      · omega
  · refine (hW.only.mono (T := fun y => y = g ∨ y = t ∨ y = s ∨ F y ∨ H y) (fun y _ e => ?_)).trans (hM.ho.mono (T := fun y => y = g ∨ y = t ∨ y = s ∨ F y ∨ H y) (fun y _ e => .inr (.inr (.inr (.inr e))))) (fun _ _ h => h)
    rcases e with e | e | e | e
    · exact .inl e
    · exact .inr (.inl e)
    · exact .inr (.inr (.inl e))
    · exact .inr (.inr (.inr (.inl e)))
end
end Go.Proofs.Qxb6500417aGreat
