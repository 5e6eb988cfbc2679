/-
  OWN WORK. THE GRAPH: a new commit, plain.
-/
import Derived.Test.Qxb6500417aGreatGP3
import Derived.Test.Qxb6500417aGreatGLdP
namespace Go.Proofs.Qxb6500417aGreat
open Go.RowKit Go.PlainAid
set_option linter.unusedSimpArgs false
set_option linter.unusedVariables false

def newC (J : Nat → Sl) (id : Nat) (r : Cr) (msg : ByteArray) : Nat → Sl := updT J id ⟨1, 3, cdat r msg, [], []⟩
def Gt.addC (T : Gt) (id : Nat) (r : Cr) : Gt := { T with c := updT T.c id r, o := insO T.o T.n id T.n, n := T.n + 1, nx := T.nx + 1 }
def GA.addN (A : GA) (x : Nd) : GA := { A with nodes := A.nodes ++ [x], nx := A.nx + 1 }
theorem addC_os (T : Gt) (id : Nat) (r : Cr) : (T.addC id r).os = T.os ++ [id] := by
  unfold Gt.os Gt.addC
  simp only
  rw [List.range_succ, List.map_append]
  congr 1
  · apply List.map_congr_left
    intro k hk
    exact insO_lo (by simpa using hk)
  · simp [insO_at]
structure NewC (J : Nat → Sl) (T : Gt) (r : Cr) (msg : ByteArray) : Prop where
  n40 : T.n < 40
  wf : r.Wf
  sq : r.seq = T.nx
  tr : IsT J r.tree
  pr : ∀ p ∈ r.pars, IsC T.c p
  ms : msg.size ≤ 16
  nx : T.nx + 1 < 4611686018427387904
section
variable {J : Nat → Sl} {rt : Nat} {T : Gt} {r : Cr} {msg : ByteArray}
/-- No live object is that commit. -/
theorem GI.noTwin (h : GI J rt T) (hc : NewC J T r msg) : ∀ j, In j → liveS (J j) = true → ¬ ((J j).kd = 3 ∧ (J j).dat = cdat r msg) := fun j hj hl ⟨hk, hd⟩ => by
  have hu : IsC T.c j := ⟨hj, (h.tab.cu j hj).2 ⟨hl, hk⟩⟩
  obtain ⟨m, _, hm⟩ := h.tab.cd j hu
  rw [hm] at hd
  have := (cdat_inj (h.tab.cw j hu) hc.wf hd).1
  have h2 := (h.tab.cs j hu).2
  rw [this, hc.sq] at h2
  omega
theorem GI.addC (h : GI J rt T) (hc : NewC J T r msg) {id : Nat} (hi : In id) (h0 : (J id).st = 0) : GI (newC J id r msg) rt (T.addC id r) ∧ absG (newC J id r msg) (T.addC id r) = (absG J T).addN ⟨T.nx, snapJ J r.tree, r.pars.map (fun p => (T.c p).seq), msg⟩ := by
  obtain ⟨hI, hg⟩ := h.inv.putNew (k := 3) (dat := cdat r msg) hi h0 (by omega) (by omega) (by omega)
  have hR : Res J (newC J id r msg) (fun _ => True) := hg.res
  have hself : newC J id r msg id = ⟨1, 3, cdat r msg, [], []⟩ := updT_same _ _ _
  have hoth : ∀ j, j ≠ id → newC J id r msg j = J j := fun j hj => updT_other _ _ _ _ hj
  have hcs : (T.addC id r).c id = r := updT_same _ _ _
  have hco : ∀ j, j ≠ id → (T.addC id r).c j = T.c j := fun j hj => updT_other _ _ _ _ hj
  have hnu : (T.c id).used = false := by
    cases hu : (T.c id).used with
    | false => rfl
    | true => have := ((h.tab.cu id hi).1 hu).1; exact absurd h0 (liveS_ne this)
  have hne : ∀ j, IsC T.c j → j ≠ id := fun j hj e => by have := hj.2; rw [e, hnu] at this; cases this
  have hC : ∀ j, IsC (T.addC id r).c j → j = id ∨ (j ≠ id ∧ IsC T.c j) := fun j hj => by
    by_cases e : j = id
    · exact .inl e
    · exact .inr ⟨e, hj.1, by have := hj.2; rw [hco j e] at this; exact this⟩
  have hC' : ∀ j, IsC T.c j → IsC (T.addC id r).c j := fun j hj => ⟨hj.1, by rw [hco j (hne j hj)]; exact hj.2⟩
  have hid0 : id ≠ 0 := by have := hi.1; omega
  have hnx : (T.addC id r).nx = T.nx + 1 := rfl
  have tab : TabI (newC J id r msg) (T.addC id r).c (T.addC id r).nx := by
    refine ⟨by rw [hco 0 (fun e => hid0 e.symm)]; exact h.tab.c0, fun j hj => ?_, fun j hj hu => ?_, fun j hj => ?_, fun j hj => ?_, fun j hj => ?_, fun j hj => ?_, fun j hj => ?_, fun i j hi' hj hs => ?_⟩
    · by_cases e : j = id
      · rw [e, hcs, hself]; exact ⟨fun _ => ⟨rfl, rfl⟩, fun _ => hc.wf.us⟩
      · rw [hco j e, hoth j e]; exact h.tab.cu j hj
    · by_cases e : j = id
      · rw [e, hcs, hc.wf.us] at hu; cases hu
      · rw [hco j e] at hu ⊢; exact h.tab.cz j hj hu
    · rcases hC j hj with e | ⟨e, hj'⟩
      · rw [e, hcs]; exact hc.wf
      · rw [hco j e]; exact h.tab.cw j hj'
    · rcases hC j hj with e | ⟨e, hj'⟩
      · rw [e, hcs, hself]; exact ⟨msg, hc.ms, rfl⟩
      · rw [hco j e, hoth j e]; exact h.tab.cd j hj'
    · rcases hC j hj with e | ⟨e, hj'⟩
      · rw [e, hcs]; exact (hR.snap h.inv hc.tr trivial).2
      · rw [hco j e]; exact (hR.snap h.inv (h.tab.ct j hj') trivial).2
    · rcases hC j hj with e | ⟨e, hj'⟩
      · rw [e, hcs, hnx, hc.sq]; exact ⟨h.n1, by omega⟩
      · rw [hco j e, hnx]; have := h.tab.cs j hj'; exact ⟨this.1, by omega⟩
    · rcases hC j hj with e | ⟨e, hj'⟩
      · rw [e, hcs]
        intro p hp
        have := hc.pr p hp
        refine ⟨hC' p this, ?_⟩
        rw [hco p (hne p this), hc.sq]
        exact (h.tab.cs p this).2
      · rw [hco j e]
        intro p hp
        have := h.tab.cp j hj' p hp
        exact ⟨hC' p this.1, by rw [hco p (hne p this.1)]; exact this.2⟩
    · rcases hC i hi' with e | ⟨e, hi2⟩
      · rcases hC j hj with f | ⟨f, hj2⟩
        · rw [e, f]
        · rw [e, hcs, hco j f, hc.sq] at hs
          have := (h.tab.cs j hj2).2; omega
      · rcases hC j hj with f | ⟨f, hj2⟩
        · rw [f, hcs, hco i e, hc.sq] at hs
          have := (h.tab.cs i hi2).2; omega
        · rw [hco i e, hco j f] at hs; exact h.tab.ci i j hi2 hj2 hs
  have ordk : OrdI (T.addC id r).c (T.addC id r).o (T.addC id r).n := by
    have o1 : ∀ k, k < T.n → (T.addC id r).o k = T.o k := fun k hk => insO_lo hk
    have o2 : (T.addC id r).o T.n = id := insO_at
    refine ⟨by have := hc.n40; show T.n + 1 ≤ 40; omega, fun k hk => ?_, fun k l hkl hl => ?_, fun i hi' => ?_, fun k hk => ?_⟩
    · have hk' : k < T.n + 1 := hk
      by_cases e : k = T.n
      · rw [e, o2]; exact ⟨hi, by rw [hcs]; exact hc.wf.us⟩
      · rw [o1 k (by omega)]; exact hC' _ (h.ord.oin k (by omega))
    · have hl' : l < T.n + 1 := hl
      have hk1 := h.ord.oin k (by omega)
      rw [o1 k (by omega), hco _ (hne _ hk1)]
      by_cases e : l = T.n
      · rw [e, o2, hcs, hc.sq]; exact (h.tab.cs _ hk1).2
      · have hl1 := h.ord.oin l (by omega)
        rw [o1 l (by omega), hco _ (hne _ hl1)]
        exact h.ord.srt k l hkl (by omega)
    · rcases hC i hi' with e | ⟨e, hj⟩
      · exact ⟨T.n, by show T.n < T.n + 1; omega, by rw [o2, e]⟩
      · obtain ⟨k, hk, ek⟩ := h.ord.all i hj
        exact ⟨k, by show k < T.n + 1; omega, by rw [o1 k hk]; exact ek⟩
    · have hk' : T.n + 1 ≤ k := hk
      show insO T.o T.n id T.n k = 0
      unfold insO
      rw [if_neg (by omega), if_neg (by omega), if_neg (by omega)]
      exact h.ord.z k (by omega)
  have ref : RefI (T.addC id r).c T.b T.nb T.name T.at_ T.mg := by
    refine ⟨h.ref.b4, fun k hk => ⟨(h.ref.bn k hk).1, hC' _ (h.ref.bn k hk).2⟩, h.ref.bo, h.ref.bz, h.ref.hn, fun hz => hC' _ (h.ref.h0 hz), ?_⟩
    rcases h.ref.mg with e | e
    · exact .inl e
    · exact .inr (hC' _ e)
  have hroot : RootI (newC J id r msg) rt := by
    have hrn : rt ≠ id := fun e => by have := liveS_ne h.rut.rlv; rw [e] at this; exact this h0
    refine ⟨h.rut.rin, by rw [hoth rt hrn]; exact h.rut.rlv, by rw [hoth rt hrn]; exact h.rut.rkd, fun j hj hl hk => ?_⟩
    by_cases e : j = id
    · rw [e, hself] at hk; exact absurd (show 3 = 4 from hk) (by decide)
    · rw [hoth j e] at hl hk; exact h.rut.r1 j hj hl hk
  have hsq : ∀ j, j = 0 ∨ IsC T.c j → ((T.addC id r).c j).seq = (T.c j).seq := fun j hj => by
    rcases hj with e | e
    · rw [e, hco 0 (fun e => hid0 e.symm)]
    · rw [hco j (hne j e)]
  refine ⟨⟨hI, tab, ordk, ref, hroot, (hR.snap h.inv h.ax trivial).2, by show 1 ≤ T.nx + 1; omega, hc.nx⟩, ?_⟩
  have hnode : ∀ i, IsC T.c i → nodeJ (newC J id r msg) (T.addC id r).c i = nodeJ J T.c i := fun i hi' => by
    have e1 : nodeJ (newC J id r msg) (T.addC id r).c i = nodeJ (newC J id r msg) T.c i := by
      unfold nodeJ
      rw [hco i (hne i hi')]
      congr 1
      apply List.map_congr_left
      intro p hp
      exact hsq p (.inr (h.tab.cp i hi' p hp).1)
    rw [e1]
    exact Res.node h.tab h.inv hR hi' ⟨trivial, trivial⟩
  have hnew : nodeJ (newC J id r msg) (T.addC id r).c id = ⟨T.nx, snapJ J r.tree, r.pars.map (fun p => (T.c p).seq), msg⟩ := by
    unfold nodeJ
    rw [hcs, hself, (hR.snap h.inv hc.tr trivial).1, hc.sq, msgOf_cdat hc.wf.np]
    congr 1
    apply List.map_congr_left
    intro p hp
    exact hsq p (.inr (hc.pr p hp))
  have hat : ((T.addC id r).c T.at_).seq = (T.c T.at_).seq := by
    apply hsq
    by_cases hz : T.name.size = 0
    · exact .inr (h.ref.h0 hz)
    · exact .inl (h.ref.hn hz).2
  have hmg : ((T.addC id r).c T.mg).seq = (T.c T.mg).seq := hsq _ h.ref.mg
  unfold absG GA.addN
  rw [addC_os, List.map_append, List.map_singleton, hnew]
  have hbs : (T.addC id r).bs = T.bs := rfl
  have e2 : T.os.map (nodeJ (newC J id r msg) (T.addC id r).c) = T.os.map (nodeJ J T.c) := by
    apply List.map_congr_left
    intro i hi'
    exact hnode i (h.os_iff.1 hi')
  have e3 : T.bs.map (refJ (T.addC id r).c) = T.bs.map (refJ T.c) := by
    apply List.map_congr_left
    intro b hb
    obtain ⟨k, hk, rfl⟩ := mem_bs.1 hb
    unfold refJ
    rw [hsq _ (.inr (h.ref.bn k hk).2)]
  rw [e2, hbs, e3]
  show GA.mk _ _ _ _ ((T.addC id r).c T.at_).seq ((T.addC id r).c T.mg).seq _ = _
  have hax : snapJ (newC J id r msg) (T.addC id r).aux = snapJ J T.aux := (hR.snap h.inv h.ax trivial).1
  rw [hat, hmg, hax]
  rfl
/-- The place of a new commit is the last. -/
theorem GI.atLast (h : GI J rt T) (hc : NewC J T r msg) {id p : Nat} (hi : In id) (h0 : (J id).st = 0) (hp : AtP (T.setC id r) id p) : p = T.n := by
  have hle : p ≤ T.n := hp.le
  have hnu : ¬ IsC T.c id := fun hu => by have := ((h.tab.cu id hi).1 hu.2).1; exact absurd h0 (liveS_ne this)
  by_cases e : p = T.n
  · exact e
  · exfalso
    have hlt : p < T.n := by omega
    have := hp.hi p (Nat.le_refl _) hlt
    have hC := h.ord.oin p hlt
    have e1 : (T.setC id r).c id = r := updT_same _ _ _
    have e2 : (T.setC id r).c ((T.setC id r).o p) = T.c (T.o p) := updT_other _ _ _ _ (fun e => hnu (e ▸ hC))
    rw [e1, e2, hc.sq] at this
    have := (h.tab.cs _ hC).2
    omega
end
end Go.Proofs.Qxb6500417aGreat
