/-
  OWN WORK. THE TREE: Put of an object that is no tree, walked.
-/
import Derived.Test.Qxb6500417aGreatTPut
namespace Go.Proofs.Qxb6500417aGreat
open Go.RowKit Go.PlainAid
set_option linter.unusedSimpArgs false
set_option linter.unusedVariables false

/-- What a step that writes leaves: the state, the writes, what a cut shows. -/
structure Wrote (w w' : World) (t s d : Nat) (D B : Nat → Nat) (recs : List Rec) (J J' : Nat → Sl) (rt : Nat) (F : Nat → Prop) (news : List Rec) (F' : Nat → Prop) : Prop where
  ts : TS w' t s d (replayB D news) B (recs ++ news) J' rt F'
  cuts : Cuts D news rt (abortJ J)
  same : JEq (abortJ J') (abortJ J)
  ext : ∀ y, F' y → F y ∨ w.heap.size ≤ y
  only : Only (fun y => y = t ∨ y = s ∨ F y) w w'
  pot : news.length + 3 * frJ J' ≤ 3 * frJ J
  keys : ∀ r ∈ news, r.1 < 145
section
variable {w w' : World} {t s d : Nat} {D B : Nat → Nat} {recs : List Rec} {J : Nat → Sl} {rt : Nat} {F : Nat → Prop}
theorem Wrote.none (h : TS w t s d D B recs J rt F) {w' : World} (hT : TS w' t s d D B recs J rt F) (ho : Only (fun y => y = t ∨ y = s ∨ F y) w w') : Wrote w w' t s d D B recs J J rt F [] F :=
  ⟨by simpa [replayB] using hT, Cuts.nil h.shows, JEq.refl _, fun y hy => .inl hy, ho, by simp, by simp⟩
/-- The store has taken an object in: before the tables follow. -/
theorem TS.new (h : TS w t s d D B recs J rt F) {ob : Nat → Ob} (hR : Rep ob J) (hO : OS w s d D B recs ob rt F) {w1 : World} {i k : Nat} {dat L : List Nat} (hi : In i) (h0 : (ob i).st = 0) (hL : L.length = nB dat.length) (hd : dat.length ≤ 180) (hLb : ∀ b ∈ L, 1 ≤ b ∧ b < 145 ∧ ∀ j, In j → b ∉ (ob j).ch)
    (hs : OS w1 s d (replayB D (newsOf k dat L L.length)) B (recs ++ newsOf k dat L L.length) (updT ob i ⟨1, k, dat, L⟩) rt (Ext F w w1)) (ho : Only (fun k => k = s ∨ F k) w w1) {x : Sl} (hx : x.st = 1) (hxk : x.kd = k) (hxd : x.dat = dat) (hI : Inv (updT J i x))
    {w2 : World} (hT : TAt w2 t s (kindJ (updT J i x)) (cntZ (updT J i x))) (ho2 : Only (fun y => y = t) w1 w2) : Wrote w w2 t s d D B recs J (updT J i x) rt F (newsOf k dat L L.length) (Ext F w w1) := by
  have hj0 : (J i).st = 0 := by rw [← (hR i hi).1]; exact h0
  have htl := Has.lt h.tab
  have hE : ¬ Ext F w w1 t := fun e => by
    rcases e with e | e
    · exact h.tF e
    · omega
  refine ⟨⟨hT, ⟨_, hs.keep ho2 (fun e => h.ts e.symm) (fun y hy e => hE (e ▸ hy)), fun j hj => ?_⟩, hI, h.ts, hE⟩, fun kk => ?_, abort_new h.inv hi hj0 hx, fun y hy => ?_, ?_, ?_, fun r hr => (hLb _ (newsOf_key k dat L _ (Nat.le_refl _) r hr)).2.1⟩
  · by_cases e : j = i
    · rw [e, updJ_self, updT_same]
      exact ⟨hx.symm, hxk.symm, hxd.symm⟩
    · rw [updT_other _ _ _ _ e, updT_other _ _ _ _ e]
      exact hR j hj
  · exact ⟨_, (hO.img).put k dat L hLb kk, hR.abort⟩
  · rcases hy with e | e
    · exact .inl e
    · exact .inr e.1
  · exact (ho.mono (fun y _ hy => .inr hy)).trans ho2 (fun y _ hy => .inl hy)
  · have h1 := frJ_upd hi hj0 hx
    have h2 := (nB_le dat.length).2
    rw [newsOf_len]
    omega
set_option maxRecDepth 100000 in
set_option maxHeartbeats 2000000 in
theorem tput_any (h : TS w t s d D B recs J rt F) (k : Nat) (hk1 : 1 ≤ k) (hk4 : k ≤ 4) (hk2 : k ≠ 2) (dat : List Nat) (v : Value) (hdat : BytesAt w v dat.length (dF dat)) (hd180 : dat.length ≤ 180) (h8 : ∀ j, j < dat.length → dF dat j < 256) (hvs : ∀ y, v.ownBlock = some y → ¬ F y ∧ y ≠ s) (hrl : recs.length ≤ 900) :
    Calls Tryz.prog 119 #[.pointer (some ⟨t, 0, none⟩), .int .i64 k, v] w fun e w' => e = .returned (.tuple #[.int .i64 ((putJ J k dat).2.1 : Nat), .int .i64 ((putJ J k dat).2.2 : Nat)]) ∧ ∃ news F', Wrote w w' t s d D B recs J (putJ J k dat).1 rt F news F' := by
  obtain ⟨ob, hO, hR⟩ := h.ex
  have C := hide (put_any hO k hk1 hk4 dat v hdat hd180 h8 hvs hrl)
  have c0 := h.tab.store.1
  have htl := Has.lt h.tab
  have e2 : ((k : Int) == 2) = false := by simp; omega
  obtain ⟨va, vc, rfl, _⟩ := hdat
  have H := hide h
  have HO := hide hO
  have HR := hide hR
  clear h hO hR h8 hvs
  go_enter Tryz.func119, Tryz.ntmps119
  go_wp2_with fail
  refine (unhide C).mono ?_
  intro e w1 hP
  cases hP with
  | found r hr hl hk hd he ho =>
    subst he
    have hJl : liveS (J r) = true := by rw [← (unhide HR).live hr]; exact hl
    have hJk : (J r).kd = k := by rw [← ((unhide HR) r hr).2.1]; exact hk
    have hJd : (J r).dat = dat := by rw [← ((unhide HR) r hr).2.2]; exact hd
    have hp : putJ J k dat = (J, r, 0) := by
      unfold putJ
      cases hq : findB J k dat with
      | none => exact absurd ⟨hJk, hJd⟩ (findB_none hq r hr hJl)
      | some i =>
        obtain ⟨g1, g2, g3, g4⟩ := findB_some hq
        have tw : Tw liveO ob := by
          obtain ⟨⟨tab, hd, us, nf, bk, hs, hi⟩, _, _⟩ := unhide HO
          exact hi.twl
        have := tw i r g1 hr (by rw [(unhide HR).live g1]; exact g2) hl (by rw [((unhide HR) i g1).2.1, g3, hk]) (by rw [((unhide HR) i g1).2.2, g4, hd])
        rw [this]
    have Hp := hide hp
    have h1 := (unhide H).quiet ho
    have q := h1.tab.kind r (by have := hr.2; omega)
    have hN : TAt (w1.setCell ⟨t, 1 + r, none⟩ (.int .i64 (k : Int))) t s (kindJ J) (cntZ J) := (h1.tab.setKind r (by have := hr.2; omega) k).congr (fun i _ => by
      unfold updT
      by_cases e : i = r
      · rw [if_pos e, e, kindJ_live hr hJl, hJk]
      · rw [if_neg e]) (fun _ _ => rfl)
    have o1 := only1 (w := w1) (p := t) (1 + r) (.int .i64 (k : Int))
    have hT : TS (w1.setCell ⟨t, 1 + r, none⟩ (.int .i64 (k : Int))) t s d D B recs J rt F := by
      obtain ⟨ob', hO', hR'⟩ := h1.ex
      exact ⟨hN, ⟨ob', hO'.keep o1 (fun e => h1.ts e.symm) (fun y hy e => h1.tF (e ▸ hy)), hR'⟩, h1.inv, h1.ts, h1.tF⟩
    have RR := hide (Wrote.none (unhide H) hT ((ho.mono (T := fun y => y = t ∨ y = s ∨ F y) (fun _ _ h => h.elim)).trans o1 (fun y _ e => .inl e)))
    obtain ⟨q1, q2⟩ := q
    have r49 : (r : Int) < 49 := by have := hr.2; omega
    have htl1 := Has.lt h1.tab
    clear hl hk hd ho hJl hJk hJd hp h1 hN o1 hT H HO HR C
    go_wp2_with fail
    go_ret2
    rw [unhide Hp]
    exact ⟨rfl, _, _, unhide RR⟩
  | full hno hf he ho =>
    subst he
    have hp : putJ J k dat = (J, 0, 5) := by
      unfold putJ
      cases hq : findB J k dat with
      | some i =>
        obtain ⟨g1, g2, g3, g4⟩ := findB_some hq
        exact absurd ⟨by rw [((unhide HR) i g1).2.1, g3], by rw [((unhide HR) i g1).2.2, g4]⟩ (hno i g1 (by rw [(unhide HR).live g1]; exact g2))
      | none => rw [lowJ_full (fun j hj => by rw [← ((unhide HR) j hj).1]; exact hf j hj)]
    have Hp := hide hp
    have RR := hide (Wrote.none (unhide H) ((unhide H).quiet ho) (ho.mono (fun _ _ h => h.elim)))
    clear hno hf ho hp H HO HR C
    go_wp2_with fail
    go_ret2
    rw [unhide Hp]
    exact ⟨rfl, _, _, unhide RR⟩
  | new i L hno hi h0 hlow hL hLb he hs ho =>
    subst he
    have hj0 : (J i).st = 0 := by rw [← ((unhide HR) i hi).1]; exact h0
    have hp : putJ J k dat = (updT J i ⟨1, k, dat, [], []⟩, i, 0) := by
      unfold putJ
      cases hq : findB J k dat with
      | some i =>
        obtain ⟨g1, g2, g3, g4⟩ := findB_some hq
        exact absurd ⟨by rw [((unhide HR) i g1).2.1, g3], by rw [((unhide HR) i g1).2.2, g4]⟩ (hno i g1 (by rw [(unhide HR).live g1]; exact g2))
      | none => rw [lowJ_eq hi hj0 (fun j hj hlt => by rw [← ((unhide HR) j hj).1]; exact hlow j hj hlt)]
    have Hp := hide hp
    have h := unhide H
    have i48 := hi.2
    have hT1 := h.tab.keep ho (fun e => by
      rcases e with e | e
      · exact h.ts e
      · exact h.tF e)
    have q := hT1.kind i (by omega)
    have hN : TAt (w1.setCell ⟨t, 1 + i, none⟩ (.int .i64 (k : Int))) t s (kindJ (updT J i ⟨1, k, dat, [], []⟩)) (cntZ (updT J i ⟨1, k, dat, [], []⟩)) := (hT1.setKind i (by omega) k).congr (fun j _ => kindJ_upd hi rfl j) (fun j _ => by
      unfold cntZ
      rw [cntJ_upd hi hj0 rfl j 49]
      simp [occ])
    have o1 := only1 (w := w1) (p := t) (1 + i) (.int .i64 (k : Int))
    have hI := (h.inv.add hi hj0 (s := ⟨1, k, dat, [], []⟩) rfl ⟨hk1, hk4⟩ (fun e => absurd e hk2) (fun _ => ⟨rfl, rfl⟩) (fun r hr => by simp at hr) (fun e => absurd e hk2)).1
    have RR := hide (h.new (unhide HR) (unhide HO) hi h0 hL hd180 hLb hs ho rfl rfl rfl hI hN o1)
    obtain ⟨q1, q2⟩ := q
    have r49 : (i : Int) < 49 := by omega
    have htl1 := Has.lt hT1
    clear hno h0 hlow hL hLb hs ho hj0 hp hT1 hN o1 hI h H HO HR C hi
    go_wp2_with fail
    go_ret2
    rw [unhide Hp]
    exact ⟨rfl, _, _, unhide RR⟩
end
end Go.Proofs.Qxb6500417aGreat
