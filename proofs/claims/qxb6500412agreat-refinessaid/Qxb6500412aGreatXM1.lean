/-
  OWN WORK. TXN's MODEL, plain: what its changes show, in the words of the state; a table stored in place.
-/
import Derived.Test.Qxb6500412aGreatXM0
namespace Go.Proofs.Qxb6500412aGreat
open Go.RowKit Go.PlainAid
set_option linter.unusedSimpArgs false
set_option linter.unusedVariables false

/-- A table stored in the place of another of the same name. -/
theorem ML.setT {w w3 : World} {l : List GE} {b cap i : Nat} {e e' : GE} (h : ML w (.slice (some ⟨b, 0, none⟩) l.length cap) l) (hi : l[i]? = some e) (o3 : Only (fun _ => False) w w3) (E : GEl w3 e') (hn : e'.t.nm = e.t.nm) (hf : ∀ k, GEm e' k ∨ GEi e' k → w.heap.size ≤ k) : ML (st5 w3 b i e') (.slice (some ⟨b, 0, none⟩) l.length cap) (l.set i e') ∧ Only (fun k => k = b) w (st5 w3 b i e') := by
  have oo := st5_only w3 b i e'
  have bl : b < w.heap.size := h.lt b (.inl (.inl rfl))
  have o2 : Only (fun k => k = b) w (st5 w3 b i e') := (o3.mono (fun _ _ e => e.elim)).trans oo (fun _ _ e => e)
  have R := ownsRow_keep h.own o3 (fun _ _ e => e)
  refine ⟨h.upd hi (o2.mono (fun k _ e => .inl e)) ?_ (E.keep oo (fun k hk e => ?_) (fun k hk e => ?_)) hn (fun k hk => .inr (hf k (.inl hk))), o2⟩
  · rw [gcs_set]
    unfold st5
    exact gbrowset (gbrowset (gbrowset (gbrowset (gbrowset R _) _) _) _) _
  · have := hf k (.inl hk); have e' : k = b := e; omega
  · have := hf k (.inr hk); have e' : k = b := e; omega
theorem DOk.gd {D : Db} (h : DOk D) : DGd D := ⟨h.tb, h.srt, h.len⟩
/-- A found table stands at a place. -/
theorem find_at {D : Db} {nm : ByteArray} {t : Tb} (h : findD D nm = some t) : ∃ i : Nat, D[i]? = some t ∧ t.nm = nm := by
  obtain ⟨h1, h2⟩ := findD_mem h
  obtain ⟨i, hi⟩ := List.getElem?_of_mem h1
  exact ⟨i, hi, h2⟩
theorem nms_at {A B : Db} (h : nmsD A = nmsD B) {i : Nat} {t : Tb} (hi : B[i]? = some t) : ∃ u, A[i]? = some u ∧ u.nm = t.nm := by
  have e : (nmsD A)[i]? = (nmsD B)[i]? := by rw [h]
  unfold nmsD at e
  rw [List.getElem?_map, List.getElem?_map, hi] at e
  cases c : A[i]? with
  | none => rw [c] at e; cases e
  | some u =>
    rw [c] at e
    exact ⟨u, rfl, by simpa using e⟩
def Mm.endS (Z : Mm) (s : Nat) : Mm := ((((Z.setA s false).setK s 0 0).setK s 1 0).setK s 2 0).setV (1 + s) (.slice none 0 0) []
theorem Mm.endS_lk (Z : Mm) (s o i : Nat) (hi : i < 3) : (Z.endS s).lk o i = if o = s then 0 else Z.lk o i := by
  show (if o = s ∧ i = 2 then (0 : Int) else if o = s ∧ i = 1 then 0 else if o = s ∧ i = 0 then 0 else Z.lk o i) = _
  by_cases c : o = s
  · rw [if_pos c]
    by_cases c2 : i = 2
    · rw [if_pos ⟨c, c2⟩]
    · rw [if_neg (fun x => c2 x.2)]
      by_cases c1 : i = 1
      · rw [if_pos ⟨c, c1⟩]
      · rw [if_neg (fun x => c1 x.2), if_pos ⟨c, by omega⟩]
  · rw [if_neg c, if_neg (fun x => c x.1), if_neg (fun x => c x.1), if_neg (fun x => c x.1)]
theorem Mm.setV_db (Z : Mm) (j : Nat) (v : Value) (l : List GE) (i : Nat) : (Z.setV j v l).db i = if i = j then l.map (·.t) else Z.db i := by
  show (if i = j then l else Z.l i).map (·.t) = _
  by_cases c : i = j
  · rw [if_pos c, if_pos c]
  · rw [if_neg c, if_neg c]; rfl
theorem Mm.endS_db (Z : Mm) (s i : Nat) : (Z.endS s).db i = if i = 1 + s then [] else Z.db i := by
  unfold Mm.endS
  rw [Mm.setV_db]
  rfl
theorem DOk.nil : DOk [] := ⟨fun _ h => (by simp at h), List.Pairwise.nil, Nat.zero_le _⟩
section
variable {Z : Mm} {M : Mu} {s : Nat}
theorem MmS.cok (h : MmS Z M) : DOk M.com := by rw [← h.com]; exact h.ok 0 (by omega)
theorem MmS.i3 (h : MmS Z M) {i : Nat} {t : Tb} (hi : M.com[i]? = some t) : i < 3 := by
  have := (List.getElem?_eq_some_iff.mp hi).1
  have := h.cok.len
  omega
theorem MmS.free (h : MmS Z M) (hs : s < 4) (ha : M.act s = false) (nm : ByteArray) : M.lk s nm = 0 := by
  cases c : findD M.com nm with
  | none => exact h.lk0 s nm hs c
  | some t =>
    obtain ⟨i, hi, rfl⟩ := find_at c
    rw [h.lk s i t hs hi]
    exact h.idle s i hs (h.i3 hi) ha
theorem MmS.isAct (h : MmS Z M) (hs : s < 4) {nm : ByteArray} (hz : M.lk s nm ≠ 0) : M.act s = true := by
  cases c : M.act s with
  | true => rfl
  | false => exact absurd (h.free hs c nm) hz
theorem MmS.roll (h : MmS Z M) (hs : s < 4) : MmS (Z.endS s) (M.roll s) := by
  refine ⟨?_, fun j hj => ?_, fun o ho => ?_, fun o i t ho hi => ?_, fun o nm ho hn => ?_, fun o ho ha => ?_, fun o i ho hi ha => ?_, fun o ho => ?_⟩
  · rw [Mm.endS_db, if_neg (by omega)]; exact h.com
  · rw [Mm.endS_db]
    by_cases c : j = 1 + s
    · rw [if_pos c]; exact DOk.nil
    · rw [if_neg c]; exact h.ok j hj
  · show (if o = s then false else M.act o) = if o = s then false else Z.act o
    by_cases c : o = s
    · rw [if_pos c, if_pos c]
    · rw [if_neg c, if_neg c]; exact h.act o ho
  · have hi : M.com[i]? = some t := hi
    rw [Mm.endS_lk _ _ _ _ (h.i3 hi)]
    show (if o = s then 0 else M.lk o t.nm) = _
    by_cases c : o = s
    · rw [if_pos c, if_pos c]
    · rw [if_neg c, if_neg c]; exact h.lk o i t ho hi
  · show (if o = s then 0 else M.lk o nm) = 0
    by_cases c : o = s
    · rw [if_pos c]
    · rw [if_neg c]; exact h.lk0 o nm ho hn
  · have ha : (if o = s then false else M.act o) = true := ha
    by_cases c : o = s
    · rw [if_pos c] at ha; cases ha
    · rw [if_neg c] at ha
      rw [Mm.endS_db, if_neg (by omega)]
      exact h.nms o ho ha
  · rw [Mm.endS_lk _ _ _ _ hi]
    have ha : (if o = s then false else M.act o) = false := ha
    by_cases c : o = s
    · rw [if_pos c]
    · rw [if_neg c] at ha ⊢; exact h.idle o i ho hi ha
  · show (if o = s then M.com else M.see o) = mixD (fun n => if o = s then 0 else M.lk o n) ((Z.endS s).db (1 + o)) M.com
    by_cases c : o = s
    · rw [if_pos c, mix_zero (fun nm => by rw [if_pos c]; omega)]
    · rw [if_neg c, Mm.endS_db, if_neg (by omega)]
      simp only [if_neg c]
      exact h.see o ho
theorem MmS.begin (h : MmS Z M) (hs : s < 4) (ha : M.act s = false) {v : Value} {l : List GE} (hl : l.map (·.t) = M.com) : MmS ((Z.setA s true).setV (1 + s) v l) (M.begin s) := by
  refine ⟨?_, fun j hj => ?_, fun o ho => ?_, fun o i t ho hi => h.lk o i t ho hi, fun o nm ho hn => h.lk0 o nm ho hn, fun o ho ha2 => ?_, fun o i ho hi ha2 => ?_, fun o ho => ?_⟩
  · rw [Mm.setV_db, if_neg (by omega)]; exact h.com
  · rw [Mm.setV_db]
    by_cases c : j = 1 + s
    · rw [if_pos c, hl]; exact h.cok
    · rw [if_neg c]; exact h.ok j hj
  · show (if o = s then true else M.act o) = if o = s then true else Z.act o
    by_cases c : o = s
    · rw [if_pos c, if_pos c]
    · rw [if_neg c, if_neg c]; exact h.act o ho
  · have ha2 : (if o = s then true else M.act o) = true := ha2
    rw [Mm.setV_db]
    by_cases c : o = s
    · rw [if_pos (by omega), hl]; rfl
    · rw [if_neg c] at ha2
      rw [if_neg (by omega)]; exact h.nms o ho ha2
  · have ha2 : (if o = s then true else M.act o) = false := ha2
    by_cases c : o = s
    · rw [if_pos c] at ha2; cases ha2
    · rw [if_neg c] at ha2; exact h.idle o i ho hi ha2
  · show M.see o = mixD (M.lk o) (((Z.setA s true).setV (1 + s) v l).db (1 + o)) M.com
    rw [Mm.setV_db]
    by_cases c : o = s
    · have e : ∀ nm, M.lk o nm ≠ 2 := fun nm => by rw [c, h.free hs ha nm]; omega
      rw [h.see o ho, mix_zero e, mix_zero e]
    · rw [if_neg (by omega)]; exact h.see o ho
theorem Mu.setL_same {M : Mu} {s : Nat} {nm : ByteArray} {mode : Int} (h : ¬ M.lk s nm < mode) : M.setL s nm mode = M := by
  unfold Mu.setL
  congr 1
  funext o n
  rw [if_neg (fun x => h x.2.2)]
/-- A lock taken. -/
theorem MmS.lock (h : MmS Z M) (hs : s < 4) (ha : M.act s = true) {i : Nat} {t : Tb} (hi : M.com[i]? = some t) {mode : Int} (hm : Z.lk s i < mode) (h2 : mode = 2 → (Z.db (1 + s))[i]? = some t) (h12 : mode = 1 ∨ mode = 2) : MmS (Z.setK s i mode) (M.setL s t.nm mode) := by
  have hlt : M.lk s t.nm < mode := by rw [h.lk s i t hs hi]; exact hm
  have hne : ∀ (j : Nat) (u : Tb), M.com[j]? = some u → (u.nm = t.nm ↔ j = i) := fun j u hj => by
    constructor
    · intro e
      have hu := List.mem_of_getElem? hj
      have ht := List.mem_of_getElem? hi
      have hnd := h.cok.srt
      have hjl := (List.getElem?_eq_some_iff.mp hj)
      have hil := (List.getElem?_eq_some_iff.mp hi)
      obtain ⟨hj1, hj2⟩ := hjl
      obtain ⟨hi1, hi2⟩ := hil
      rcases Nat.lt_trichotomy j i with c | c | c
      · have := List.pairwise_iff_getElem.mp hnd j i hj1 hi1 c
        rw [hj2, hi2, e] at this
        rw [lt_irr] at this
        cases this
      · exact c
      · have := List.pairwise_iff_getElem.mp hnd i j hi1 hj1 c
        rw [hj2, hi2, e] at this
        rw [lt_irr] at this
        cases this
    · intro e
      subst e
      rw [hi] at hj
      cases hj
      rfl
  refine ⟨h.com, h.ok, h.act, fun o j u ho hj => ?_, fun o nm ho hn => ?_, h.nms, fun o j ho hj ha2 => ?_, fun o ho => ?_⟩
  · show (if o = s ∧ u.nm = t.nm ∧ M.lk s t.nm < mode then mode else M.lk o u.nm) = if o = s ∧ j = i then mode else Z.lk o j
    by_cases c : o = s ∧ j = i
    · rw [if_pos c, if_pos ⟨c.1, (hne j u hj).mpr c.2, hlt⟩]
    · rw [if_neg c, if_neg (fun x => c ⟨x.1, (hne j u hj).mp x.2.1⟩)]
      exact h.lk o j u ho hj
  · show (if o = s ∧ nm = t.nm ∧ M.lk s t.nm < mode then mode else M.lk o nm) = 0
    rw [if_neg (fun x => findD_none (D := M.com) hn (List.mem_of_getElem? hi) x.2.1.symm)]
    exact h.lk0 o nm ho hn
  · have ha2 : M.act o = false := ha2
    show (if o = s ∧ j = i then mode else Z.lk o j) = 0
    rw [if_neg (fun x => by rw [x.1, ha] at ha2; cases ha2)]
    exact h.idle o j ho hj ha2
  · show M.see o = mixD (fun n => if o = s ∧ n = t.nm ∧ M.lk s t.nm < mode then mode else M.lk o n) (Z.db (1 + o)) M.com
    obtain ⟨K, hK⟩ : ∃ K : ByteArray → Int, (fun n => if o = s ∧ n = t.nm ∧ M.lk s t.nm < mode then mode else M.lk o n) = K := ⟨_, rfl⟩
    rw [hK, h.see o ho]
    show M.com.map (mixT (M.lk o) (Z.db (1 + o))) = M.com.map (mixT K (Z.db (1 + o)))
    refine List.map_congr_left (fun u hu => ?_)
    by_cases c : o = s ∧ u.nm = t.nm
    · have hKu : K u.nm = mode := by rw [← hK]; exact if_pos ⟨c.1, c.2, hlt⟩
      have eu : u = t := h.cok.gd.one hu (List.mem_of_getElem? hi) c.2
      have l2 : ¬ M.lk o u.nm = 2 := by rw [c.1, c.2]; omega
      unfold mixT
      rw [if_neg l2, hKu]
      by_cases m2 : mode = 2
      · rw [if_pos m2]
        have hf : findD (Z.db (1 + o)) u.nm = some t := by
          rw [c.1, c.2]
          exact (h.ok (1 + s) (by omega)).gd.find (List.mem_of_getElem? (h2 m2))
        rw [hf]
        exact eu
      · rw [if_neg m2]
    · have hKu : K u.nm = M.lk o u.nm := by rw [← hK]; exact if_neg (fun x => c ⟨x.1, x.2.1⟩)
      unfold mixT
      rw [hKu]
/-- A copy taken of a table that is not held for writing. -/
theorem MmS.copy (h : MmS Z M) (hs : s < 4) (ha : M.act s = true) {i : Nat} {t : Tb} (hi : M.com[i]? = some t) (hz : Z.lk s i ≠ 2) {v : Value} {l : List GE} (hl : l.map (·.t) = (Z.db (1 + s)).set i t) : MmS (Z.setV (1 + s) v l) M := by
  obtain ⟨u, hu, hun⟩ := nms_at (h.nms s hs ha) hi
  have tok : TbOk t := h.cok.tb t (List.mem_of_getElem? hi)
  have P := h.ok (1 + s) (by omega)
  have hput : putT t (Z.db (1 + s)) = (Z.db (1 + s)).set i t := putT_set P hu hun.symm
  have hD : DOk ((Z.db (1 + s)).set i t) := P.set hu tok hun.symm
  refine ⟨?_, fun j hj => ?_, h.act, h.lk, h.lk0, fun o ho ha2 => ?_, h.idle, fun o ho => ?_⟩
  · rw [Mm.setV_db, if_neg (by omega)]; exact h.com
  · rw [Mm.setV_db]
    by_cases c : j = 1 + s
    · rw [if_pos c, hl]; exact hD
    · rw [if_neg c]; exact h.ok j hj
  · rw [Mm.setV_db]
    by_cases c : o = s
    · rw [if_pos (by omega), hl]
      have e := h.nms s hs ha
      rw [← e]
      unfold nmsD
      rw [List.map_set]
      apply List.ext_getElem?
      intro j
      by_cases d : i = j
      · subst d
        have hl2 := (List.getElem?_eq_some_iff.mp hu).1
        rw [List.getElem?_set_self (by simpa using hl2), List.getElem?_map, hu]
        simp [hun]
      · rw [List.getElem?_set_ne d]
    · rw [if_neg (by omega)]; exact h.nms o ho ha2
  · rw [Mm.setV_db]
    by_cases c : o = s
    · rw [if_pos (by omega), hl, h.see o ho]
      unfold mixD
      refine List.map_congr_left (fun x hx => ?_)
      by_cases l2 : M.lk o x.nm = 2
      · rw [if_pos l2, if_pos l2, ← hput, find_putT P.srt ⟨u, List.mem_of_getElem? hu, hun⟩]
        have hne : ¬ x.nm = t.nm := fun e => by
          rw [e, c, h.lk s i t hs hi] at l2
          exact hz l2
        rw [if_neg hne, c]
      · rw [if_neg l2, if_neg l2]
    · rw [if_neg (by omega)]; exact h.see o ho
/-- A table held for writing is seen in the session's own database. -/
theorem MmS.own (h : MmS Z M) (hs : s < 4) {nm : ByteArray} (h2 : M.lk s nm = 2) : findD (M.see s) nm = findD (Z.db (1 + s)) nm := by
  have ha := h.isAct hs (nm := nm) (by omega)
  have hn := find_nms (h.nms s hs ha) nm
  rw [h.see s hs, find_mix]
  cases c : findD M.com nm with
  | none =>
    rw [c] at hn
    cases d : findD (Z.db (1 + s)) nm with
    | none => rfl
    | some _ => rw [d] at hn; cases hn
  | some t =>
    rw [c] at hn
    obtain ⟨u, hu⟩ := Option.isSome_iff_exists.mp hn
    obtain ⟨_, rfl⟩ := findD_mem c
    rw [Option.map_some]
    unfold mixT
    rw [if_pos h2, hu]
    rfl
theorem MmS.their (h : MmS Z M) (hs : s < 4) {nm : ByteArray} (h2 : M.lk s nm ≠ 2) : findD (M.see s) nm = findD M.com nm := by
  rw [h.see s hs, find_mix]
  cases c : findD M.com nm with
  | none => rfl
  | some t =>
    obtain ⟨_, rfl⟩ := findD_mem c
    rw [Option.map_some]
    unfold mixT
    rw [if_neg h2]
theorem mix_putO {L : ByteArray → Int} {P C : Db} {u : Tb} (hP : P.Pairwise (fun a b => lt a.nm b.nm = true)) (hC : C.Pairwise (fun a b => lt a.nm b.nm = true)) (h2 : L u.nm = 2) (hu : ∃ x ∈ P, x.nm = u.nm) (hc : ∃ x ∈ C, x.nm = u.nm) : mixD L (putT u P) C = putT u (mixD L P C) := by
  have hm : ∃ y ∈ mixD L P C, y.nm = u.nm := by
    obtain ⟨x, hx, e⟩ := hc
    exact ⟨mixT L P x, List.mem_map.mpr ⟨x, hx, rfl⟩, by rw [mixT_nm]; exact e⟩
  refine db_ext (mix_srt hC) (putBy_srt _ (mix_srt hC)) (fun nm => ?_)
  rw [find_putT (mix_srt hC) hm, find_mix, find_mix]
  by_cases c : nm = u.nm
  · rw [if_pos c]
    obtain ⟨x, hx, e⟩ := hc
    cases d : findD C nm with
    | none => exact absurd (e.trans c.symm) (findD_none d hx)
    | some t =>
      obtain ⟨_, hn⟩ := findD_mem d
      rw [Option.map_some]
      unfold mixT
      rw [hn, c, if_pos h2, find_putT hP hu, if_pos rfl]
      rfl
  · rw [if_neg c]
    cases d : findD C nm with
    | none => rfl
    | some t =>
      obtain ⟨_, hn⟩ := findD_mem d
      rw [Option.map_some, Option.map_some]
      unfold mixT
      rw [find_putT hP hu, hn, if_neg c]
/-- A change of the session's own table. -/
theorem MmS.write (h : MmS Z M) (hs : s < 4) {nm : ByteArray} (h2 : M.lk s nm = 2) {f : Tb → Tb × Int} (hf : ∀ t, (f t).1.nm = t.nm) {v : Value} {l : List GE} (hl : l.map (·.t) = (onT (Z.db (1 + s)) nm f).1) (hD : DOk (l.map (·.t))) : MmS (Z.setV (1 + s) v l) (M.setV s (onT (M.see s) nm f).1) ∧ (onT (Z.db (1 + s)) nm f).2 = (onT (M.see s) nm f).2 := by
  have ha := h.isAct hs (nm := nm) (by omega)
  obtain ⟨e1, e2⟩ := on_E (f := f) (h.own hs h2)
  refine ⟨?_, e1.symm⟩
  have P := h.ok (1 + s) (by omega)
  have hmix : mixD (M.lk s) (l.map (·.t)) M.com = (onT (M.see s) nm f).1 := by
    rw [hl]
    rcases e2 with ⟨e, e'⟩ | ⟨t, ht, hz, e, e'⟩
    · rw [e', e, ← h.see s hs]
    · rw [e', e, h.see s hs]
      obtain ⟨htm, htn⟩ := findD_mem ht
      have hn := find_nms (h.nms s hs ha) nm
      rw [ht] at hn
      obtain ⟨c, hc⟩ := Option.isSome_iff_exists.mp hn.symm
      obtain ⟨hcm, hcn⟩ := findD_mem hc
      exact mix_putO P.srt h.cok.srt (by rw [hf, htn]; exact h2) ⟨t, htm, (hf t).symm⟩ ⟨c, hcm, by rw [hf, htn]; exact hcn⟩
  have hnm : nmsD (l.map (·.t)) = nmsD (Z.db (1 + s)) := by
    rw [hl]
    rcases e2 with ⟨_, e'⟩ | ⟨t, ht, hz, _, e'⟩
    · rw [e']
    · rw [e']
      obtain ⟨htm, htn⟩ := findD_mem ht
      rw [putT_map P.srt ⟨t, htm, (hf t).symm⟩]
      unfold nmsD
      rw [List.map_map]
      refine List.map_congr_left (fun x hx => ?_)
      simp only [Function.comp]
      by_cases c : x.nm = (f t).1.nm
      · rw [if_pos c, c]
      · rw [if_neg c]
  refine ⟨?_, fun j hj => ?_, h.act, h.lk, h.lk0, fun o ho ha2 => ?_, h.idle, fun o ho => ?_⟩
  · rw [Mm.setV_db, if_neg (by omega)]; exact h.com
  · rw [Mm.setV_db]
    by_cases c : j = 1 + s
    · rw [if_pos c]; exact hD
    · rw [if_neg c]; exact h.ok j hj
  · rw [Mm.setV_db]
    by_cases c : o = s
    · rw [if_pos (by omega), hnm]; exact h.nms s hs ha
    · rw [if_neg (by omega)]; exact h.nms o ho ha2
  · show (if o = s then (onT (M.see s) nm f).1 else M.see o) = mixD (M.lk o) _ M.com
    rw [Mm.setV_db]
    by_cases c : o = s
    · rw [if_pos c, if_pos (by omega), c, hmix]
    · rw [if_neg c, if_neg (by omega)]; exact h.see o ho
/-- Commit. -/
theorem MmS.commit (h : MmS Z M) (ok : MuOk M) (hs : s < 4) {v : Value} {l : List GE} (hl : l.map (·.t) = M.see s) : MmS ((Z.setV 0 v l).endS s) (M.commit s) := by
  have hnms : nmsD (M.see s) = nmsD M.com := ok.nms s hs
  have hD : DOk (M.see s) := ⟨(ok.gs s hs).tb, (ok.gs s hs).srt, (ok.gs s hs).len⟩
  refine ⟨?_, fun j hj => ?_, fun o ho => ?_, fun o i t ho hi => ?_, fun o nm ho hn => ?_, fun o ho ha => ?_, fun o i ho hi ha => ?_, fun o ho => ?_⟩
  · rw [Mm.endS_db, if_neg (by omega), Mm.setV_db, if_pos rfl]; exact hl
  · rw [Mm.endS_db]
    by_cases c : j = 1 + s
    · rw [if_pos c]; exact DOk.nil
    · rw [if_neg c, Mm.setV_db]
      by_cases d : j = 0
      · rw [if_pos d, hl]; exact hD
      · rw [if_neg d]; exact h.ok j hj
  · show (if o = s then false else M.act o) = if o = s then false else Z.act o
    by_cases c : o = s
    · rw [if_pos c, if_pos c]
    · rw [if_neg c, if_neg c]; exact h.act o ho
  · have hi : (M.see s)[i]? = some t := hi
    obtain ⟨u, hu, hun⟩ := nms_at hnms.symm hi
    rw [Mm.endS_lk _ _ _ _ (h.i3 hu)]
    show (if o = s then 0 else M.lk o t.nm) = if o = s then 0 else Z.lk o i
    by_cases c : o = s
    · rw [if_pos c, if_pos c]
    · rw [if_neg c, if_neg c, ← hun]; exact h.lk o i u ho hu
  · show (if o = s then 0 else M.lk o nm) = 0
    by_cases c : o = s
    · rw [if_pos c]
    · rw [if_neg c]
      have hn : findD (M.see s) nm = none := hn
      have := find_nms hnms nm
      rw [hn] at this
      refine h.lk0 o nm ho ?_
      cases d : findD M.com nm with
      | none => rfl
      | some _ => rw [d] at this; cases this
  · have ha : (if o = s then false else M.act o) = true := ha
    by_cases c : o = s
    · rw [if_pos c] at ha; cases ha
    · rw [if_neg c] at ha
      rw [Mm.endS_db, if_neg (by omega), Mm.setV_db, if_neg (by omega)]
      show _ = nmsD (M.see s)
      rw [hnms]
      exact h.nms o ho ha
  · rw [Mm.endS_lk _ _ _ _ hi]
    have ha : (if o = s then false else M.act o) = false := ha
    by_cases c : o = s
    · rw [if_pos c]
    · rw [if_neg c] at ha ⊢; exact h.idle o i ho hi ha
  · show (if o = s then M.see s else mixD (M.lk o) (M.see o) (M.see s)) = mixD (fun n => if o = s then 0 else M.lk o n) (((Z.setV 0 v l).endS s).db (1 + o)) (M.see s)
    by_cases c : o = s
    · rw [if_pos c, mix_zero (fun nm => by rw [if_pos c]; omega)]
    · rw [if_neg c, Mm.endS_db, if_neg (by omega), Mm.setV_db, if_neg (by omega)]
      simp only [if_neg c]
      unfold mixD
      refine List.map_congr_left (fun t ht => ?_)
      by_cases l2 : M.lk o t.nm = 2
      · rw [if_pos l2, if_pos l2, h.own ho l2]
      · rw [if_neg l2, if_neg l2]
/-- A schema call: nobody is in a transaction. -/
theorem MmS.schema (h : MmS Z M) (hn : ¬ M.any) {v : Value} {l : List GE} {D : Db} (hl : l.map (·.t) = D) (hD : DOk D) : MmS (Z.setV 0 v l) (M.schema D) := by
  have ha : ∀ o, o < 4 → M.act o = false := fun o ho => by
    cases c : M.act o with
    | false => rfl
    | true => exact absurd ⟨o, ho, c⟩ hn
  refine ⟨?_, fun j hj => ?_, h.act, fun o i t ho hi => ?_, fun o nm ho _ => h.free ho (ha o ho) nm, fun o ho ha2 => ?_, fun o i ho hi _ => h.idle o i ho hi (ha o ho), fun o ho => ?_⟩
  · rw [Mm.setV_db, if_pos rfl]; exact hl
  · rw [Mm.setV_db]
    by_cases c : j = 0
    · rw [if_pos c, hl]; exact hD
    · rw [if_neg c]; exact h.ok j hj
  · have hi : D[i]? = some t := hi
    have h3 : i < 3 := by
      have := (List.getElem?_eq_some_iff.mp hi).1
      have := hD.len
      omega
    show M.lk o t.nm = Z.lk o i
    rw [h.free ho (ha o ho), h.idle o i ho h3 (ha o ho)]
  · have ha2 : M.act o = true := ha2
    rw [ha o ho] at ha2; cases ha2
  · show D = mixD (M.lk o) _ D
    rw [mix_zero (fun nm => by rw [h.free ho (ha o ho) nm]; omega)]
end
end Go.Proofs.Qxb6500412aGreat
