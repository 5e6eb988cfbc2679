/-
  OWN WORK. THE GRAPH: the tables behind a collection, plain.
-/
import Derived.Test.Qxb6500417aGreatGCo1
namespace Go.Proofs.Qxb6500417aGreat
open Go.RowKit Go.PlainAid
set_option linter.unusedSimpArgs false
set_option linter.unusedVariables false

/-- What is marked: the commits x, the refs i, what their trees and aux name. -/
def MrkP (J : Nat → Sl) (T : Gt) (x i j : Nat) : Prop := x.testBit j = true ∨ j = i ∨ (∃ c, x.testBit c = true ∧ Desc J (T.c c).tree j) ∨ Desc J T.aux j
/-- The store as a collection finds it, the refs object put. -/
structure ColI (J : Nat → Sl) (T : Gt) (x i m : Nat) : Prop where
  inv : Inv J
  tab : TabI J T.c T.nx
  ord : OrdI T.c T.o T.n
  ref : RefI T.c T.b T.nb T.name T.at_ T.mg
  ax : IsT J T.aux
  n1 : 1 ≤ T.nx
  nx : T.nx < 4611686018427387904
  hi : In i
  li : liveS (J i) = true
  ki : (J i).kd = 4
  di : (J i).dat = rdat T
  kC : ∀ j, x.testBit j = true → IsC T.c j
  kp : ∀ j, x.testBit j = true → ∀ p ∈ (T.c j).pars, x.testBit p = true
  kr : ∀ j, (rootX T).testBit j = true → x.testBit j = true
  mrk : ∀ j, m.testBit j = true ↔ MrkP J T x i j
section
variable {J J2 : Nat → Sl} {rt : Nat} {T : Gt} {x i m : Nat}
theorem Desc.kind (hI : Inv J) {a b : Nat} (ha : IsT J a) (h : Desc J a b) : (J b).kd = 1 ∨ (J b).kd = 2 := by
  induction h with
  | self => exact .inr ha.2.2
  | step hd hr ih =>
    have := hd.live hI ⟨ha.1, ha.2.1⟩
    exact hI.rowKind this.1 this.2 hr
theorem ColI.treeT (h : ColI J T x i m) {c : Nat} (hc : x.testBit c = true) : IsT J (T.c c).tree := h.tab.ct c (h.kC c hc)
theorem ColI.live (h : ColI J T x i m) {j : Nat} (hj : m.testBit j = true) : In j ∧ liveS (J j) = true := by
  rcases (h.mrk j).1 hj with e | e | ⟨c, hc, e⟩ | e
  · have := h.kC j e
    exact ⟨this.1, ((h.tab.cu j this.1).1 this.2).1⟩
  · rw [e]; exact ⟨h.hi, h.li⟩
  · have := h.treeT hc
    exact e.live h.inv ⟨this.1, this.2.1⟩
  · exact e.live h.inv ⟨h.ax.1, h.ax.2.1⟩
theorem ColI.clos (h : ColI J T x i m) : ClosM J m := fun j hj hl hm r hr => by
  rw [h.mrk]
  have nt : (J j).kd ≠ 2 → False := fun hk => by rw [(h.inv.nt j hj (liveS_ne hl) hk).2] at hr; simp at hr
  rcases (h.mrk j).1 hm with e | e | ⟨c, hc, e⟩ | e
  · exact (nt (by have := h.kC j e; rw [((h.tab.cu j this.1).1 this.2).2]; omega)).elim
  · exact (nt (by rw [e, h.ki]; omega)).elim
  · exact .inr (.inr (.inl ⟨c, hc, .step e hr⟩))
  · exact .inr (.inr (.inr (.step e hr)))
/-- A marked commit is one that is kept. -/
theorem ColI.mk3 (h : ColI J T x i m) {j : Nat} (hj : m.testBit j = true) (hk : (J j).kd = 3) : x.testBit j = true := by
  rcases (h.mrk j).1 hj with e | e | ⟨c, hc, e⟩ | e
  · exact e
  · rw [e, h.ki] at hk; omega
  · have := e.kind h.inv (h.treeT hc); omega
  · have := e.kind h.inv h.ax; omega
theorem ColI.mk4 (h : ColI J T x i m) {j : Nat} (hj : m.testBit j = true) (hk : (J j).kd = 4) : j = i := by
  rcases (h.mrk j).1 hj with e | e | ⟨c, hc, e⟩ | e
  · have := h.kC j e
    have := ((h.tab.cu j this.1).1 this.2).2
    omega
  · exact e
  · have := e.kind h.inv (h.treeT hc); omega
  · have := e.kind h.inv h.ax; omega
/-- The tables' rows behind forget. -/
theorem ColI.cyes (h : ColI J T x i m) {j : Nat} (hj : x.testBit j = true) : (fgT T x).c j = T.c j := by
  show fcs T x T.n j = _
  unfold fcs
  rw [hj]; simp
theorem ColI.czero (h : ColI J T x i m) {j : Nat} (hin : In j) (hj : x.testBit j = false) : (fgT T x).c j = Cr.zero := by
  show fcs T x T.n j = _
  unfold fcs
  have e1 : T.os.take T.n = T.os := List.take_of_length_le (by rw [os_len]; exact Nat.le_refl _)
  rw [e1, hj]
  by_cases hm : j ∈ T.os
  · rw [List.contains_iff_mem.2 hm]; simp
  · have e2 : T.os.contains j = false := by
      cases e : T.os.contains j with
      | false => rfl
      | true => exact absurd (List.contains_iff_mem.1 e) hm
    rw [e2]
    simp only [Bool.false_and]
    rw [if_neg (by simp)]
    refine h.tab.cz j hin ?_
    cases e : (T.c j).used with
    | false => rfl
    | true =>
      obtain ⟨k, hk, e3⟩ := h.ord.all j ⟨hin, e⟩
      exact absurd (mem_os.2 ⟨k, hk, e3⟩) hm
theorem ColI.c0 (h : ColI J T x i m) : (fgT T x).c 0 = Cr.zero := by
  show fcs T x T.n 0 = _
  unfold fcs
  split
  · rfl
  · exact h.tab.c0
theorem ColI.isC (h : ColI J T x i m) {j : Nat} : IsC (fgT T x).c j ↔ x.testBit j = true := by
  constructor
  · rintro ⟨h1, h2⟩
    cases e : x.testBit j with
    | true => rfl
    | false => rw [h.czero h1 e] at h2; cases h2
  · intro e
    have := h.kC j e
    exact ⟨this.1, by rw [h.cyes e]; exact this.2⟩
theorem ColI.mem_fks (h : ColI J T x i m) {j : Nat} : j ∈ fks T x T.n ↔ x.testBit j = true := by
  unfold fks
  have e1 : T.os.take T.n = T.os := List.take_of_length_le (by rw [os_len]; exact Nat.le_refl _)
  rw [e1, List.mem_filter]
  constructor
  · exact fun e => e.2
  · intro e
    obtain ⟨k, hk, e3⟩ := h.ord.all j (h.kC j e)
    exact ⟨mem_os.2 ⟨k, hk, e3⟩, e⟩
theorem os_sorted {c : Nat → Cr} (h : OrdI c T.o T.n) : T.os.Pairwise (fun a b => (c a).seq < (c b).seq) := by
  rw [List.pairwise_iff_getElem]
  intro a b ha hb hab
  rw [os_len] at ha hb
  simp only [Gt.os, List.getElem_map, List.getElem_range]
  exact h.srt a b hab hb
theorem fg_os (T : Gt) (x : Nat) : (fgT T x).os = fks T x T.n := by
  apply List.ext_getElem
  · rw [os_len]; rfl
  · intro k h1 h2
    simp only [Gt.os, List.getElem_map, List.getElem_range]
    show (fks T x T.n).getD k 0 = _
    rw [List.getD_eq_getElem?_getD, List.getElem?_eq_getElem h2]; rfl
theorem ColI.ordI (h : ColI J T x i m) : OrdI (fgT T x).c (fgT T x).o (fgT T x).n := by
  have at_ : ∀ k (hk : k < (fks T x T.n).length), (fgT T x).o k = (fks T x T.n)[k] := fun k hk => by
    show (fks T x T.n).getD k 0 = _
    rw [List.getD_eq_getElem?_getD, List.getElem?_eq_getElem hk]; rfl
  refine ⟨?_, fun k hk => ?_, fun k l hkl hl => ?_, fun j hj => ?_, fun k hk => ?_⟩
  · have := fks_lenN T x T.n
    have := h.ord.n40
    show (fks T x T.n).length ≤ 40
    omega
  · rw [at_ k hk, h.isC, ← h.mem_fks]
    exact List.getElem_mem hk
  · have hl' : l < (fks T x T.n).length := hl
    rw [at_ k (by omega), at_ l hl']
    rw [h.cyes (h.mem_fks.1 (List.getElem_mem _)), h.cyes (h.mem_fks.1 (List.getElem_mem _))]
    have hp : (fks T x T.n).Pairwise (fun a b => (T.c a).seq < (T.c b).seq) := ((os_sorted h.ord).sublist (List.take_sublist _ _)).sublist List.filter_sublist
    exact (List.pairwise_iff_getElem.1 hp) k l (by omega) hl' hkl
  · obtain ⟨k, hk, e⟩ := List.getElem_of_mem (h.mem_fks.2 (h.isC.1 hj))
    exact ⟨k, hk, by rw [at_ k hk]; exact e⟩
  · show (fks T x T.n).getD k 0 = 0
    rw [List.getD_eq_getElem?_getD, List.getElem?_eq_none hk]; rfl
theorem ColI.refI (h : ColI J T x i m) : RefI (fgT T x).c (fgT T x).b (fgT T x).nb (fgT T x).name (fgT T x).at_ (fgT T x).mg := by
  have r := h.ref
  refine ⟨r.b4, fun k hk => ⟨(r.bn k hk).1, h.isC.2 (h.kr _ ((rootX_bit T _).2 (.inl ⟨k, hk, rfl⟩)))⟩, r.bo, r.bz, r.hn, fun e => h.isC.2 (h.kr _ ((rootX_bit T _).2 (.inr (.inl ⟨e, rfl⟩)))), ?_⟩
  by_cases e : T.mg = 0
  · exact .inl e
  · exact .inr (h.isC.2 (h.kr _ ((rootX_bit T _).2 (.inr (.inr ⟨e, rfl⟩)))))
/-- What the sweep and the store's Commit leave. -/
theorem ColI.back (h : ColI J T x i m) (hs : Swp J J2 m) (hp : pot J2 m = 0) {j : Nat} (hj : In j) (hl : liveS (comJ J2 j) = true) : m.testBit j = true ∧ liveS (J j) = true ∧ Kept (J j) (comJ J2 j) := by
  unfold comJ at hl ⊢
  rw [(comK_live _).1] at hl
  have hm := pot_zero hp hj hl
  have e := hs.back j hj hl
  rw [e] at hl ⊢
  exact ⟨hm, hl, (comK_live _).2 hl⟩
theorem ColI.stay (h : ColI J T x i m) (hs : Swp J J2 m) {j : Nat} (hj : In j) (hm : m.testBit j = true) (hl : liveS (J j) = true) : liveS (comJ J2 j) = true ∧ Kept (J j) (comJ J2 j) := by
  unfold comJ
  rw [hs.stay j hj hm, (comK_live _).1]
  exact ⟨hl, (comK_live _).2 hl⟩
theorem ColI.res (h : ColI J T x i m) (hs : Swp J J2 m) : Res J (comJ J2) (fun j => m.testBit j = true) :=
  ⟨fun j hj hm hl => h.stay hs hj hm hl, fun j hj hm hl r hr => h.clos j hj hl hm r hr⟩
theorem ColI.tabI (h : ColI J T x i m) (hs : Swp J J2 m) (hp : pot J2 m = 0) : TabI (comJ J2) (fgT T x).c T.nx := by
  have mC : ∀ j, x.testBit j = true → m.testBit j = true := fun j hj => (h.mrk j).2 (.inl hj)
  refine ⟨h.c0, fun j hj => ⟨fun hu => ?_, fun hu => ?_⟩, fun j hj hu => ?_, fun j hj => ?_, fun j hj => ?_, fun j hj => ?_, fun j hj => ?_, fun j hj p hpp => ?_, fun j k hj hk he => ?_⟩
  · have hx := h.isC.1 ⟨hj, hu⟩
    have hC := h.kC j hx
    obtain ⟨a, b⟩ := (h.tab.cu j hj).1 hC.2
    obtain ⟨c, d⟩ := h.stay hs hj (mC j hx) a
    exact ⟨c, d.kd.trans b⟩
  · obtain ⟨a, b, c⟩ := h.back hs hp hj hu.1
    exact (h.isC.2 (h.mk3 a (by rw [← c.kd]; exact hu.2))).2
  · cases e : x.testBit j with
    | true => have := (h.isC.2 e).2; rw [hu] at this; cases this
    | false => exact h.czero hj e
  · have hx := h.isC.1 hj
    rw [h.cyes hx]; exact h.tab.cw j (h.kC j hx)
  · have hx := h.isC.1 hj
    have hC := h.kC j hx
    obtain ⟨msg, h1, h2⟩ := h.tab.cd j hC
    refine ⟨msg, h1, ?_⟩
    rw [h.cyes hx, (h.stay hs hj.1 (mC j hx) ((h.tab.cu j hj.1).1 hC.2).1).2.dat]; exact h2
  · have hx := h.isC.1 hj
    rw [h.cyes hx]
    exact ((h.res hs).snap h.inv (h.treeT hx) ((h.mrk _).2 (.inr (.inr (.inl ⟨j, hx, .self⟩))))).2
  · have hx := h.isC.1 hj
    rw [h.cyes hx]; exact h.tab.cs j (h.kC j hx)
  · have hx := h.isC.1 hj
    rw [h.cyes hx] at hpp ⊢
    have hxp := h.kp j hx p hpp
    rw [h.cyes hxp]
    exact ⟨h.isC.2 hxp, (h.tab.cp j (h.kC j hx) p hpp).2⟩
  · have hx := h.isC.1 hj
    have hy := h.isC.1 hk
    rw [h.cyes hx, h.cyes hy] at he
    exact h.tab.ci j k (h.kC j hx) (h.kC k hy) he
theorem ColI.gi (h : ColI J T x i m) (hs : Swp J J2 m) (hp : pot J2 m = 0) (hI2 : Inv J2) : GI (comJ J2) i (fgT T x) := by
  refine ⟨hI2.commit, h.tabI hs hp, h.ordI, h.refI, ⟨h.hi, ?_, ?_, fun j hj hl hk => ?_⟩, ?_, h.n1, h.nx⟩
  · exact (h.stay hs h.hi ((h.mrk i).2 (.inr (.inl rfl))) h.li).1
  · exact (h.stay hs h.hi ((h.mrk i).2 (.inr (.inl rfl))) h.li).2.kd.trans h.ki
  · obtain ⟨a, b, c⟩ := h.back hs hp hj hl
    exact h.mk4 a (by rw [← c.kd]; exact hk)
  · exact ((h.res hs).snap h.inv h.ax ((h.mrk _).2 (.inr (.inr (.inr .self))))).2
theorem ColI.node (h : ColI J T x i m) (hs : Swp J J2 m) {j : Nat} (hx : x.testBit j = true) : nodeJ (comJ J2) (fgT T x).c j = nodeJ J T.c j := by
  have hC := h.kC j hx
  unfold nodeJ
  rw [h.cyes hx, ((h.res hs).snap h.inv (h.treeT hx) ((h.mrk _).2 (.inr (.inr (.inl ⟨j, hx, .self⟩))))).1, (h.stay hs hC.1 ((h.mrk j).2 (.inl hx)) ((h.tab.cu j hC.1).1 hC.2).1).2.dat]
  congr 1
  apply List.map_congr_left
  intro p hp
  rw [h.cyes (h.kp j hx p hp)]
theorem ColI.abs (h : ColI J T x i m) (hs : Swp J J2 m) (hc : Corr T x (keptA (absG J T))) : absG (comJ J2) (fgT T x) = collA (absG J T) := by
  unfold collA
  have e1 : (fgT T x).os.map (nodeJ (comJ J2) (fgT T x).c) = keepI (absG J T).nodes (keptA (absG J T)) (absG J T).nodes.length := by
    rw [fg_os, abs_len, ← fks_keep J T hc T.n (Nat.le_refl _)]
    apply List.map_congr_left
    intro j hj
    exact h.node hs (h.mem_fks.1 hj)
  have e2 : (fgT T x).bs.map (refJ (fgT T x).c) = T.bs.map (refJ T.c) := by
    show T.bs.map (refJ (fgT T x).c) = _
    apply List.map_congr_left
    intro b hb
    obtain ⟨k, hk, rfl⟩ := mem_bs.1 hb
    unfold refJ
    rw [h.cyes (h.kr _ ((rootX_bit T _).2 (.inl ⟨k, hk, rfl⟩)))]
  have e3 : ((fgT T x).c T.at_).seq = (T.c T.at_).seq := by
    by_cases e : T.name.size = 0
    · rw [h.cyes (h.kr _ ((rootX_bit T _).2 (.inr (.inl ⟨e, rfl⟩))))]
    · rw [(h.ref.hn e).2, h.c0, h.tab.c0]
  have e4 : ((fgT T x).c T.mg).seq = (T.c T.mg).seq := by
    by_cases e : T.mg = 0
    · rw [e, h.c0, h.tab.c0]
    · rw [h.cyes (h.kr _ ((rootX_bit T _).2 (.inr (.inr ⟨e, rfl⟩))))]
  have e5 := ((h.res hs).snap h.inv h.ax ((h.mrk _).2 (.inr (.inr (.inr .self))))).1
  show GA.mk _ _ _ _ _ _ _ = GA.mk _ _ _ _ _ _ _
  rw [e1, e2]
  show GA.mk _ _ _ _ ((fgT T x).c T.at_).seq ((fgT T x).c T.mg).seq (snapJ (comJ J2) T.aux) = _
  rw [e3, e4, e5]
  rfl
theorem ColI.sav (h : ColI J T x i m) (hs : Swp J J2 m) (hp : pot J2 m = 0) (hI2 : Inv J2) (hc : Corr T x (keptA (absG J T))) : SavI (comJ J2) i (collA (absG J T)) := by
  have a := h.gi hs hp hI2
  have he := abort_comJ hI2
  obtain ⟨c, e⟩ := a.congr he.symm a.inv.abort
  refine ⟨fgT T x, c, ?_, e.trans (h.abs hs hc)⟩
  rw [he i h.hi, (h.stay hs h.hi ((h.mrk i).2 (.inr (.inl rfl))) h.li).2.dat, h.di]
  rfl
/-- The refs object put, new or old. -/
theorem GI.colI (h : GI J rt T) {J1 : Nat → Sl} (hI : Inv J1) (hg : Grow J J1) (hb : ∀ j, In j → liveS (J1 j) = true → (J1 j).kd = 3 → liveS (J j) = true ∧ (J j).kd = 3) (hi : In i) (hl : liveS (J1 i) = true) (hk : (J1 i).kd = 4) (hd : (J1 i).dat = rdat T) (hm : ∀ j, m.testBit j = true ↔ MrkP J1 T (upN T T.n (rootX T)) i j) : ColI J1 T (upN T T.n (rootX T)) i m ∧ absG J1 T = absG J T := by
  have hR := hg.res
  have hs := hR.snap h.inv h.ax trivial
  refine ⟨⟨hI, h.tab.res h.inv hR (fun _ _ => ⟨trivial, trivial⟩) hb, h.ord, h.ref, hs.2, h.n1, h.nx, hi, hl, hk, hd, ?_, ?_, ?_, hm⟩, ?_⟩
  · exact up_isC h.tab h.ord T.n _ (Nat.le_refl _) (fun j hj => h.ref.rootC hj)
  · intro j hj p hp
    have hC := up_isC h.tab h.ord T.n _ (Nat.le_refl _) (fun j hj => h.ref.rootC hj) j hj
    obtain ⟨k, hk, rfl⟩ := h.ord.all j hC
    exact up_clos h.tab h.ord T.n _ k (Nat.le_refl _) hk hj p hp
  · exact fun j hj => up_mono h.tab h.ord T.n _ j (Nat.le_refl _) hj
  · unfold absG
    rw [hs.1]
    congr 1
    apply List.map_congr_left
    intro j hj
    exact Res.node h.tab h.inv hR (h.os_iff.1 hj) ⟨trivial, trivial⟩
end
end Go.Proofs.Qxb6500417aGreat
