/-
  OWN WORK. THE TREE: WriteTree's plain law.
-/
import Derived.Test.Qxb6500417aGreatTJ3
namespace Go.Proofs.Qxb6500417aGreat
open Go.RowKit Go.PlainAid
set_option linter.unusedSimpArgs false
set_option linter.unusedVariables false

structure BOk (J J' : Nat → Sl) (l : List En) (i e : Nat) : Prop where
  inv : Inv J'
  grow : Grow J J'
  err : e = 0 ∨ (e = 5 ∧ i = 0)
  ok : e = 0 → In i ∧ liveS (J' i) = true ∧ (J' i).kd = 2 ∧ (J' i).lst = l
def Blobs (J : Nat → Sl) (l : List En) : Prop := ∀ e ∈ l, In e.id.toNat ∧ liveS (J e.id.toNat) = true ∧ (J e.id.toNat).kd = 1
theorem Blobs.grow {J J' : Nat → Sl} {l : List En} (h : Blobs J l) (hg : Grow J J') : Blobs J' l := fun e he => by
  obtain ⟨h1, h2, h3⟩ := h e he
  rw [hg _ h1 (liveS_ne h2)]
  exact ⟨h1, h2, h3⟩
theorem Blobs.sub {J : Nat → Sl} {l : List En} (h : Blobs J l) {a : Str} {sub : List En} (hm : Tp.d a sub ∈ tp l) : Blobs J sub := fun e he => h (under a e) (tp_mem hm _ (List.mem_map.2 ⟨e, he, rfl⟩))
/-- Rows that a directory may have, so far. -/
structure RowsOk (J : Nat → Sl) (ts : List Tp) (rows : List Rw) : Prop where
  rel : RelL J ts rows
  wf : ∀ r ∈ rows, WfR r
  lv : ∀ r ∈ rows, In r.id ∧ liveS (J r.id) = true
theorem RowsOk.nil (J : Nat → Sl) : RowsOk J [] [] := ⟨trivial, by simp, by simp⟩
theorem RowsOk.grow {J J' : Nat → Sl} {ts : List Tp} {rows : List Rw} (h : RowsOk J ts rows) (hg : Grow J J') : RowsOk J' ts rows := by
  have e : ∀ r ∈ rows, J' r.id = J r.id := fun r hr => hg _ (h.lv r hr).1 (liveS_ne (h.lv r hr).2)
  exact ⟨h.rel.congr (fun r hr => by rw [e r hr]; exact ⟨rfl, rfl⟩), h.wf, fun r hr => by rw [e r hr]; exact h.lv r hr⟩
theorem RowsOk.snoc {J : Nat → Sl} {ts : List Tp} {rows : List Rw} (h : RowsOk J ts rows) {t : Tp} {r : Rw} (h1 : RelT J t r) (h2 : WfR r) (h3 : In r.id ∧ liveS (J r.id) = true) : RowsOk J (ts ++ [t]) (rows ++ [r]) :=
  ⟨RelL.snoc h1 h.rel, fun x hx => by
    rcases List.mem_append.1 hx with e | e
    · exact h.wf x e
    · have : x = r := by simpa using e
      rw [this]; exact h2, fun x hx => by
    rcases List.mem_append.1 hx with e | e
    · exact h.lv x e
    · have : x = r := by simpa using e
      rw [this]; exact h3⟩
theorem RowsOk.file {J : Nat → Sl} {ts : List Tp} {rows : List Rw} (h : RowsOk J ts rows) {l : List En} (hf : Fine l) (hb : Blobs J l) {e : En} (hm : Tp.f e ∈ tp l) : RowsOk J (ts ++ [.f e]) (rows ++ [fileR e]) := by
  obtain ⟨h1, h2, h3, h4⟩ := hf.file hm
  have hi := hf.ids e h1
  have hm' := hf.md e h1
  obtain ⟨b1, b2, b3⟩ := hb e h1
  have : 1 ≤ e.path.length := List.length_pos_iff.2 h2
  refine h.snoc ⟨rfl, rfl, ?_, ?_, b3⟩ ⟨b1.1, b1.2, this, h3, ?_, fun e => by cases e⟩ ⟨b1, b2⟩
  · show ((e.id.toNat : Nat) : Int) = e.id; omega
  · show ((e.mode.toNat : Nat) : Int) = e.mode; omega
  · show e.mode.toNat ≤ 3; omega
theorem RowsOk.dir {J : Nat → Sl} {ts : List Tp} {rows : List Rw} (h : RowsOk J ts rows) {l : List En} (hf : Fine l) {a : Str} {sub : List En} (hm : Tp.d a sub ∈ tp l) {i : Nat} (hi : In i ∧ liveS (J i) = true ∧ (J i).kd = 2 ∧ (J i).lst = sub) : RowsOk J (ts ++ [.d a sub]) (rows ++ [⟨true, 0, i, a⟩]) := by
  obtain ⟨_, h2, h3, h4, _⟩ := hf.sub hm
  have : 1 ≤ a.length := List.length_pos_iff.2 h2
  exact h.snoc ⟨rfl, rfl, rfl, hi.2.2.1, hi.2.2.2⟩ ⟨hi.1.1, hi.1.2, this, h3, by simp, fun _ => rfl⟩ ⟨hi.1, hi.2.1⟩
theorem RowsOk.tree {J : Nat → Sl} {l : List En} {rows : List Rw} (h : RowsOk J (tp l) rows) (hf : Fine l) : TreeOk J ⟨1, 2, encs rows, l, rows⟩ := ⟨h.rel, h.wf, rfl, hf⟩
/-- What the store finds is what the listing finds. -/
theorem find_same {J : Nat → Sl} (hI : Inv J) {l : List En} {rows : List Rw} (h : RowsOk J (tp l) rows) {r : Nat} (hr : In r) (hl : liveS (J r) = true) (hk : (J r).kd = 2) : (J r).dat = encs rows ↔ (J r).lst = l := by
  have ht := hI.tr r hr (liveS_ne hl) hk
  constructor
  · intro e
    rw [ht.dat] at e
    have e2 := encs_inj ht.wf h.wf e
    have h2 := ht.rel
    rw [e2] at h2
    have := RelL.tops h2 h.rel
    rw [← tp_flat (J r).lst, this, tp_flat]
  · intro e
    have h2 := ht.rel
    rw [e] at h2
    rw [ht.dat, RelL.det hI h2 h.rel (hI.lv r hr hl) h.lv]
theorem fin_found {J : Nat → Sl} (hI : Inv J) {l : List En} {rows : List Rw} (h : RowsOk J (tp l) rows) {r : Nat} (hr : In r) (hl : liveS (J r) = true) (hk : (J r).kd = 2) (hd : (J r).dat = encs rows) : finJ J l rows = (J, r, 0) := by
  have e := (find_same hI h hr hl hk).1 hd
  unfold finJ
  cases hf : findT J l with
  | none => exact absurd e (findT_none hf r hr hl hk)
  | some k =>
    obtain ⟨h1, h2, h3, h4⟩ := findT_some hf
    rw [hI.ul k r h1 hr h2 hl h3 hk (h4.trans e.symm)]
theorem fin_none {J : Nat → Sl} (hI : Inv J) {l : List En} {rows : List Rw} (h : RowsOk J (tp l) rows) (hno : ∀ j, In j → liveS (J j) = true → ¬ ((J j).kd = 2 ∧ (J j).dat = encs rows)) : findT J l = none := by
  cases hf : findT J l with
  | none => rfl
  | some k =>
    obtain ⟨h1, h2, h3, h4⟩ := findT_some hf
    exact absurd ⟨h3, (find_same hI h h1 h2 h3).2 h4⟩ (hno k h1 h2)
theorem fin_ok {J : Nat → Sl} (hI : Inv J) {l : List En} {rows : List Rw} (h : RowsOk J (tp l) rows) (hf : Fine l) : BOk J (finJ J l rows).1 l (finJ J l rows).2.1 (finJ J l rows).2.2 := by
  unfold finJ
  cases hq : findT J l with
  | some i =>
    obtain ⟨h1, h2, h3, h4⟩ := findT_some hq
    exact ⟨hI, Grow.refl J, .inl rfl, fun _ => ⟨h1, h2, h3, h4⟩⟩
  | none =>
    simp only
    cases hw : lowJ J with
    | none => exact ⟨hI, Grow.refl J, .inr ⟨rfl, rfl⟩, fun e => by cases e⟩
    | some i =>
      obtain ⟨h1, h2, h3⟩ := lowJ_some hw
      obtain ⟨a, b⟩ := hI.add h1 h2 (s := ⟨1, 2, encs rows, l, rows⟩) rfl ⟨by simp, by simp⟩ (fun _ => h.tree hf) (fun e => absurd rfl e) h.lv (fun _ => findT_none hq)
      have e := updJ_self (J := J) (i := i) (s := ⟨1, 2, encs rows, l, rows⟩)
      exact ⟨a, b, .inl rfl, fun _ => ⟨h1, (congrArg liveS e).trans rfl, congrArg Sl.kd e, congrArg Sl.lst e⟩⟩
theorem bldL_ok {rec : (Nat → Sl) → List En → (Nat → Sl) × Nat × Nat} {l : List En} (hf : Fine l) (hrec : ∀ a sub, Tp.d a sub ∈ tp l → ∀ J, Inv J → Blobs J sub → BOk J (rec J sub).1 sub (rec J sub).2.1 (rec J sub).2.2) :
    ∀ (ts done : List Tp) (J : Nat → Sl) (acc : List Rw), done ++ ts = tp l → Inv J → Blobs J l → RowsOk J done acc → Inv (bldL rec J ts acc).1 ∧ Grow J (bldL rec J ts acc).1 ∧ ((bldL rec J ts acc).2.2 = 0 ∨ (bldL rec J ts acc).2.2 = 5) ∧ ((bldL rec J ts acc).2.2 = 0 → RowsOk (bldL rec J ts acc).1 (tp l) (bldL rec J ts acc).2.1)
  | [], done, J, acc, hd, hI, hb, hR => by
    rw [List.append_nil] at hd
    subst hd
    exact ⟨hI, Grow.refl J, .inl rfl, fun _ => hR⟩
  | .f e :: ts, done, J, acc, hd, hI, hb, hR => by
    unfold bldL
    exact bldL_ok hf hrec ts (done ++ [.f e]) J _ (by rw [← hd]; simp) hI hb (hR.file hf hb (by rw [← hd]; simp))
  | .d a sub :: ts, done, J, acc, hd, hI, hb, hR => by
    have hm : Tp.d a sub ∈ tp l := by rw [← hd]; simp
    have hB := hrec a sub hm J hI (hb.sub hm)
    unfold bldL
    by_cases he : (rec J sub).2.2 = 0
    · rw [if_pos he]
      have := bldL_ok hf hrec ts (done ++ [.d a sub]) _ _ (by rw [← hd]; simp) hB.inv (hb.grow hB.grow) ((hR.grow hB.grow).dir hf hm (hB.ok he))
      exact ⟨this.1, hB.grow.trans this.2.1, this.2.2⟩
    · rw [if_neg he]
      refine ⟨hB.inv, hB.grow, ?_, fun e => absurd e he⟩
      rcases hB.err with e | e
      · exact absurd e he
      · exact .inr e.1
theorem bld_ok : ∀ (n : Nat) (J : Nat → Sl) (l : List En), Inv J → Fine l → Deep n l → Blobs J l → BOk J (bld n J l).1 l (bld n J l).2.1 (bld n J l).2.2
  | 0, J, l, hI, _, _, _ => ⟨hI, Grow.refl J, .inr ⟨rfl, rfl⟩, fun e => by cases e⟩
  | n + 1, J, l, hI, hf, hd, hb => by
    have hL := bldL_ok (rec := bld n) hf (fun a sub hm J hI hb => bld_ok n J sub hI (hf.sub hm).1 (hd.sub hm) hb) (tp l) [] J [] rfl hI hb (RowsOk.nil J)
    unfold bld
    by_cases he : (bldL (bld n) J (tp l) []).2.2 = 0
    · rw [if_pos he]
      have := fin_ok hL.1 (hL.2.2.2 he) hf
      exact ⟨this.inv, hL.2.1.trans this.grow, this.err, this.ok⟩
    · rw [if_neg he]
      refine ⟨hL.1, hL.2.1, ?_, fun e => absurd e he⟩
      rcases hL.2.2.1 with e | e
      · exact absurd e he
      · exact .inr ⟨e, rfl⟩
end Go.Proofs.Qxb6500417aGreat
