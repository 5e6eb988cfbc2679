/-
  OWN WORK. THE GRAPH: the invariant of its tables, and the history that they show.
-/
import Derived.Test.Qxb6500417aGreatGP0
namespace Go.Proofs.Qxb6500417aGreat
open Go.RowKit Go.PlainAid
set_option linter.unusedSimpArgs false
set_option linter.unusedVariables false

/-- A commit as the layer shows it. -/
structure Nd where
  seq : Nat
  files : List Fl
  par : List Nat
  msg : ByteArray
/-- A branch as the layer shows it. -/
structure Rf where
  name : ByteArray
  seq : Nat
/-- THE STATE. -/
structure GA where
  nodes : List Nd
  nx : Nat
  refs : List Rf
  hn : ByteArray
  hs : Nat
  hm : Nat
  aux : List Fl
def flJ (J : Nat → Sl) (e : En) : Fl := ⟨sb e.path, bsOf (J e.id.toNat).dat, e.mode⟩
def snapJ (J : Nat → Sl) (i : Nat) : List Fl := (J i).lst.map (flJ J)
def nodeJ (J : Nat → Sl) (c : Nat → Cr) (i : Nat) : Nd := ⟨(c i).seq, snapJ J (c i).tree, (c i).pars.map (fun p => (c p).seq), msgOf (c i) (J i).dat⟩
def refJ (c : Nat → Cr) (b : Br) : Rf := ⟨b.name, (c b.id).seq⟩
def absG (J : Nat → Sl) (T : Gt) : GA := ⟨T.os.map (nodeJ J T.c), T.nx, T.bs.map (refJ T.c), T.name, (T.c T.at_).seq, (T.c T.mg).seq, snapJ J T.aux⟩
/-- i is a live tree. -/
def IsT (J : Nat → Sl) (i : Nat) : Prop := In i ∧ liveS (J i) = true ∧ (J i).kd = 2
/-- i is a commit of the table. -/
def IsC (c : Nat → Cr) (i : Nat) : Prop := In i ∧ (c i).used = true
structure TabI (J : Nat → Sl) (c : Nat → Cr) (nx : Nat) : Prop where
  c0 : c 0 = Cr.zero
  cu : ∀ i, In i → ((c i).used = true ↔ liveS (J i) = true ∧ (J i).kd = 3)
  cz : ∀ i, In i → (c i).used = false → c i = Cr.zero
  cw : ∀ i, IsC c i → (c i).Wf
  cd : ∀ i, IsC c i → ∃ msg : ByteArray, msg.size ≤ 16 ∧ (J i).dat = cdat (c i) msg
  ct : ∀ i, IsC c i → IsT J (c i).tree
  cs : ∀ i, IsC c i → 1 ≤ (c i).seq ∧ (c i).seq < nx
  cp : ∀ i, IsC c i → ∀ p ∈ (c i).pars, IsC c p ∧ (c p).seq < (c i).seq
  ci : ∀ i j, IsC c i → IsC c j → (c i).seq = (c j).seq → i = j
structure OrdI (c : Nat → Cr) (o : Nat → Nat) (n : Nat) : Prop where
  n40 : n ≤ 40
  oin : ∀ k, k < n → IsC c (o k)
  srt : ∀ k l, k < l → l < n → (c (o k)).seq < (c (o l)).seq
  all : ∀ i, IsC c i → ∃ k, k < n ∧ o k = i
  z : ∀ k, n ≤ k → o k = 0
structure RefI (c : Nat → Cr) (b : Nat → Br) (nb : Nat) (name : ByteArray) (at_ mg : Nat) : Prop where
  b4 : nb ≤ 4
  bn : ∀ k, k < nb → goodN (b k).name = true ∧ IsC c (b k).id
  bo : ∀ k l, k < l → l < nb → ltS (b k).name (b l).name = true
  bz : ∀ k, nb ≤ k → b k = Br.zero
  hn : name.size ≠ 0 → goodN name = true ∧ at_ = 0
  h0 : name.size = 0 → IsC c at_
  mg : mg = 0 ∨ IsC c mg
structure RootI (J : Nat → Sl) (rt : Nat) : Prop where
  rin : In rt
  rlv : liveS (J rt) = true
  rkd : (J rt).kd = 4
  r1 : ∀ i, In i → liveS (J i) = true → (J i).kd = 4 → i = rt
/-- The tables stand for what the store holds. -/
structure GI (J : Nat → Sl) (rt : Nat) (T : Gt) : Prop where
  inv : Inv J
  tab : TabI J T.c T.nx
  ord : OrdI T.c T.o T.n
  ref : RefI T.c T.b T.nb T.name T.at_ T.mg
  rut : RootI J rt
  ax : IsT J T.aux
  n1 : 1 ≤ T.nx
  nx : T.nx < 4611686018427387904
theorem getD_os {T : Gt} {k : Nat} (hk : k < T.n) : T.os[k]? = some (T.o k) := by simp [Gt.os, hk]
theorem mem_os {T : Gt} {i : Nat} : i ∈ T.os ↔ ∃ k, k < T.n ∧ T.o k = i := by simp [Gt.os]
theorem mem_bs {T : Gt} {b : Br} : b ∈ T.bs ↔ ∃ k, k < T.nb ∧ T.b k = b := by simp [Gt.bs]
theorem GI.os_iff {J : Nat → Sl} {rt : Nat} {T : Gt} (h : GI J rt T) {i : Nat} : i ∈ T.os ↔ IsC T.c i := by
  rw [mem_os]
  constructor
  · rintro ⟨k, hk, rfl⟩; exact h.ord.oin k hk
  · exact h.ord.all i
/-- Every file of a listing is a live blob. -/
theorem Inv.blobs {J : Nat → Sl} (hI : Inv J) : ∀ (n i : Nat), IsT J i → Deep n (J i).lst → Blobs J (J i).lst
  | 0, i, h, hd => fun e he => by
    have := hd e he
    omega
  | n + 1, i, h, hd => fun e he => by
    have hT := hI.tr i h.1 (liveS_ne h.2.1) h.2.2
    rw [← tp_flat (J i).lst] at he
    obtain ⟨t, ht, he⟩ := List.mem_flatMap.1 he
    obtain ⟨k, hk, rfl⟩ := List.getElem_of_mem ht
    have hl := hT.rel.len
    have hr := hT.rel.get k hk (by omega)
    have hlv := hI.lv i h.1 h.2.1 _ (List.getElem_mem (by omega : k < (J i).rws.length))
    cases hq : (tp (J i).lst)[k] with
    | f e' =>
      rw [hq] at he hr
      simp only [untop, List.mem_singleton] at he
      subst he
      obtain ⟨_, _, h3, _, h5⟩ := hr
      have e1 : e.id.toNat = ((J i).rws[k]'(by omega)).id := by omega
      rw [e1]
      exact ⟨hlv.1, hlv.2, h5⟩
    | d a sub =>
      rw [hq] at he hr
      obtain ⟨_, _, _, h4, h5⟩ := hr
      simp only [untop, List.mem_map] at he
      obtain ⟨e', he', rfl⟩ := he
      have hdd : Deep n (J ((J i).rws[k]'(by omega)).id).lst := by
        rw [h5]
        exact Deep.sub hd (hq ▸ List.getElem_mem hk)
      have := Inv.blobs hI n ((J i).rws[k]'(by omega)).id ⟨hlv.1, hlv.2, h4⟩ hdd
      rw [h5] at this
      exact this e' he'
theorem Inv.blobsT {J : Nat → Sl} (hI : Inv J) {i : Nat} (h : IsT J i) : Blobs J (J i).lst :=
  hI.blobs 6 i h (hI.tr i h.1 (liveS_ne h.2.1) h.2.2).fine.deep
/-- What of J lives in K lives on in J', as it was. -/
structure Res (J J' : Nat → Sl) (K : Nat → Prop) : Prop where
  stay : ∀ i, In i → K i → liveS (J i) = true → liveS (J' i) = true ∧ Kept (J i) (J' i)
  clo : ∀ i, In i → K i → liveS (J i) = true → ∀ r ∈ (J i).rws, K r.id
theorem Res.blobs {J J' : Nat → Sl} {K : Nat → Prop} (hR : Res J J' K) (hI : Inv J) : ∀ (n i : Nat), IsT J i → K i → Deep n (J i).lst → ∀ e ∈ (J i).lst, K e.id.toNat
  | 0, i, h, hK, hd => fun e he => by
    have := hd e he
    omega
  | n + 1, i, h, hK, hd => fun e he => by
    have hT := hI.tr i h.1 (liveS_ne h.2.1) h.2.2
    rw [← tp_flat (J i).lst] at he
    obtain ⟨t, ht, he⟩ := List.mem_flatMap.1 he
    obtain ⟨k, hk, rfl⟩ := List.getElem_of_mem ht
    have hl := hT.rel.len
    have hr := hT.rel.get k hk (by omega)
    have hm := List.getElem_mem (by omega : k < (J i).rws.length)
    have hlv := hI.lv i h.1 h.2.1 _ hm
    have hc := hR.clo i h.1 hK h.2.1 _ hm
    cases hq : (tp (J i).lst)[k] with
    | f e' =>
      rw [hq] at he hr
      simp only [untop, List.mem_singleton] at he
      subst he
      obtain ⟨_, _, h3, _, h5⟩ := hr
      have e1 : e.id.toNat = ((J i).rws[k]'(by omega)).id := by omega
      rw [e1]
      exact hc
    | d a sub =>
      rw [hq] at he hr
      obtain ⟨_, _, _, h4, h5⟩ := hr
      simp only [untop, List.mem_map] at he
      obtain ⟨e', he', rfl⟩ := he
      have hdd : Deep n (J ((J i).rws[k]'(by omega)).id).lst := by
        rw [h5]
        exact Deep.sub hd (hq ▸ List.getElem_mem hk)
      have := Res.blobs hR hI n ((J i).rws[k]'(by omega)).id ⟨hlv.1, hlv.2, h4⟩ hc hdd
      rw [h5] at this
      exact this e' he'
theorem Res.snap {J J' : Nat → Sl} {K : Nat → Prop} (hR : Res J J' K) (hI : Inv J) {i : Nat} (h : IsT J i) (hK : K i) : snapJ J' i = snapJ J i ∧ IsT J' i := by
  obtain ⟨h1, h2⟩ := hR.stay i h.1 hK h.2.1
  refine ⟨?_, h.1, h1, h2.kd.trans h.2.2⟩
  unfold snapJ
  rw [h2.lst]
  apply List.map_congr_left
  intro e he
  have hb := hI.blobsT h e he
  have hk := hR.blobs hI 6 i h hK (hI.tr i h.1 (liveS_ne h.2.1) h.2.2).fine.deep e he
  have := (hR.stay _ hb.1 hk hb.2.1).2
  unfold flJ
  rw [this.dat]
theorem TabI.res {J J' : Nat → Sl} {c : Nat → Cr} {nx : Nat} {K : Nat → Prop} (h : TabI J c nx) (hI : Inv J) (hR : Res J J' K) (hK : ∀ i, IsC c i → K i ∧ K (c i).tree) (hb : ∀ i, In i → liveS (J' i) = true → (J' i).kd = 3 → liveS (J i) = true ∧ (J i).kd = 3) : TabI J' c nx := by
  have st : ∀ i, IsC c i → liveS (J' i) = true ∧ Kept (J i) (J' i) := fun i hi => hR.stay i hi.1 (hK i hi).1 ((h.cu i hi.1).1 hi.2).1
  refine ⟨h.c0, fun i hi => ⟨fun hu => ?_, fun hu => ?_⟩, h.cz, h.cw, fun i hi => ?_, fun i hi => ?_, h.cs, h.cp, h.ci⟩
  · obtain ⟨h1, h2⟩ := st i ⟨hi, hu⟩
    exact ⟨h1, h2.kd.trans ((h.cu i hi).1 hu).2⟩
  · exact (h.cu i hi).2 (hb i hi hu.1 hu.2)
  · obtain ⟨msg, h1, h2⟩ := h.cd i hi
    exact ⟨msg, h1, (st i hi).2.dat.trans h2⟩
  · exact (hR.snap hI (h.ct i hi) (hK i hi).2).2
theorem Res.node {J J' : Nat → Sl} {c : Nat → Cr} {nx : Nat} {K : Nat → Prop} (h : TabI J c nx) (hI : Inv J) (hR : Res J J' K) {i : Nat} (hi : IsC c i) (hK : K i ∧ K (c i).tree) : nodeJ J' c i = nodeJ J c i := by
  unfold nodeJ
  rw [(hR.snap hI (h.ct i hi) hK.2).1, (hR.stay i hi.1 hK.1 ((h.cu i hi.1).1 hi.2).1).2.dat]
theorem GI.res {J J' : Nat → Sl} {rt rt' : Nat} {T : Gt} {K : Nat → Prop} (h : GI J rt T) (hR : Res J J' K) (hI' : Inv J') (hK : ∀ i, IsC T.c i → K i ∧ K (T.c i).tree) (ha : K T.aux) (hb : ∀ i, In i → liveS (J' i) = true → (J' i).kd = 3 → liveS (J i) = true ∧ (J i).kd = 3) (hr : RootI J' rt') : GI J' rt' T ∧ absG J' T = absG J T := by
  have h1 := hR.snap h.inv h.ax ha
  refine ⟨⟨hI', h.tab.res h.inv hR hK hb, h.ord, h.ref, hr, h1.2, h.n1, h.nx⟩, ?_⟩
  unfold absG
  rw [h1.1]
  congr 1
  apply List.map_congr_left
  intro i hi
  have := h.os_iff.1 hi
  exact Res.node h.tab h.inv hR this (hK i this)
/-- A step that only takes blobs and trees in. -/
structure Fed (J J' : Nat → Sl) : Prop where
  inv : Inv J'
  grow : Grow J J'
  kind : ∀ i, In i → (J i).st = 0 → (J' i).st ≠ 0 → (J' i).kd = 1 ∨ (J' i).kd = 2
theorem Fed.refl {J : Nat → Sl} (h : Inv J) : Fed J J := ⟨h, Grow.refl J, fun _ _ h0 h1 => absurd h0 h1⟩
theorem Fed.trans {J J1 J2 : Nat → Sl} (h1 : Fed J J1) (h2 : Fed J1 J2) : Fed J J2 := by
  refine ⟨h2.inv, h1.grow.trans h2.grow, fun i hi h0 h3 => ?_⟩
  by_cases h : (J1 i).st = 0
  · exact h2.kind i hi h h3
  · rw [h2.grow i hi h]; exact h1.kind i hi h0 h
theorem Grow.res {J J' : Nat → Sl} (h : Grow J J') : Res J J' (fun _ => True) :=
  ⟨fun i hi _ hl => by rw [h i hi (liveS_ne hl)]; exact ⟨hl, Kept.refl _⟩, fun _ _ _ _ _ _ => trivial⟩
theorem Fed.back {J J' : Nat → Sl} (h : Fed J J') {k : Nat} (h1 : k ≠ 1) (h2 : k ≠ 2) : ∀ i, In i → liveS (J' i) = true → (J' i).kd = k → liveS (J i) = true ∧ (J i).kd = k := fun i hi hl hk => by
  by_cases h0 : (J i).st = 0
  · rcases h.kind i hi h0 (liveS_ne hl) with e | e <;> omega
  · rw [h.grow i hi h0] at hl hk; exact ⟨hl, hk⟩
theorem RootI.fed {J J' : Nat → Sl} {rt : Nat} (h : RootI J rt) (hF : Fed J J') : RootI J' rt := by
  have e := hF.grow rt h.rin (liveS_ne h.rlv)
  refine ⟨h.rin, by rw [e]; exact h.rlv, by rw [e]; exact h.rkd, fun i hi hl hk => ?_⟩
  obtain ⟨a, b⟩ := hF.back (by omega) (by omega) i hi hl hk
  exact h.r1 i hi a b
theorem GI.fed {J J' : Nat → Sl} {rt : Nat} {T : Gt} (h : GI J rt T) (hF : Fed J J') : GI J' rt T ∧ absG J' T = absG J T :=
  h.res hF.grow.res hF.inv (fun _ _ => ⟨trivial, trivial⟩) trivial (hF.back (by omega) (by omega)) (h.rut.fed hF)
/-- Commit of the store. -/
theorem comK_live (s : Sl) : liveS (comS s) = liveS s ∧ (liveS s = true → Kept s (comS s)) := by
  unfold comS
  by_cases h1 : s.st = 1
  · rw [if_pos h1]
    refine ⟨?_, fun _ => Kept.st s 2⟩
    simp [liveS, stS, h1]
  · rw [if_neg h1]
    by_cases h3 : s.st = 3
    · rw [if_pos h3]
      have : liveS s = false := by simp [liveS, h3]
      exact ⟨by rw [this]; rfl, fun h => by rw [this] at h; cases h⟩
    · rw [if_neg h3]; exact ⟨rfl, fun _ => Kept.refl s⟩
theorem com_res (J : Nat → Sl) : Res J (comJ J) (fun _ => True) :=
  ⟨fun i _ _ hl => ⟨by unfold comJ; rw [(comK_live (J i)).1]; exact hl, (comK_live (J i)).2 hl⟩, fun _ _ _ _ _ _ => trivial⟩
theorem com_back (J : Nat → Sl) (k : Nat) : ∀ i, In i → liveS (comJ J i) = true → (comJ J i).kd = k → liveS (J i) = true ∧ (J i).kd = k := fun i _ hl hk => by
  unfold comJ at hl hk
  rw [(comK_live (J i)).1] at hl
  exact ⟨hl, by rw [← hk, ((comK_live (J i)).2 hl).kd]⟩
theorem RootI.com {J : Nat → Sl} {rt : Nat} (h : RootI J rt) : RootI (comJ J) rt := by
  refine ⟨h.rin, ?_, ?_, fun i hi hl hk => ?_⟩
  · unfold comJ; rw [(comK_live (J rt)).1]; exact h.rlv
  · exact ((comK_live (J rt)).2 h.rlv).kd.trans h.rkd
  · obtain ⟨a, b⟩ := com_back J 4 i hi hl hk
    exact h.r1 i hi a b
theorem GI.com {J : Nat → Sl} {rt : Nat} {T : Gt} (h : GI J rt T) : GI (comJ J) rt T ∧ absG (comJ J) T = absG J T :=
  h.res (com_res J) h.inv.commit (fun _ _ => ⟨trivial, trivial⟩) trivial (com_back J 3) h.rut.com
theorem GI.congr {J J' : Nat → Sl} {rt : Nat} {T : Gt} (h : GI J rt T) (hE : JEq J J') (hI : Inv J') : GI J' rt T ∧ absG J' T = absG J T := by
  have hg : Grow J J' := fun i hi _ => (hE i hi).symm
  refine h.fed ⟨hI, hg, fun i hi h0 h1 => ?_⟩
  rw [← hE i hi] at h1
  exact absurd h0 h1
/-- The state as last saved. -/
structure SavI (J : Nat → Sl) (rt : Nat) (S : GA) : Prop where
  ex : ∃ T0, GI (abortJ J) rt T0 ∧ (abortJ J rt).dat = rdat T0 ∧ absG (abortJ J) T0 = S
theorem SavI.congr {J J' : Nat → Sl} {rt : Nat} {S : GA} (h : SavI J rt S) (hE : JEq (abortJ J') (abortJ J)) (hI : Inv J') : SavI J' rt S := by
  obtain ⟨T0, h1, h2, h3⟩ := h.ex
  obtain ⟨a, b⟩ := h1.congr hE.symm hI.abort
  exact ⟨T0, a, by rw [hE rt h1.rut.rin]; exact h2, b.trans h3⟩
end Go.Proofs.Qxb6500417aGreat
