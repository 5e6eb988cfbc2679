/-
  OWN WORK. THE B-TREE: the pages settle what the forest shows. No Go in sight.
-/
import Derived.Test.Qxb6500412aGreatBVu
namespace Go.Proofs.Qxb6500412aGreat
open Go.RowKit Go.PlainAid
set_option linter.unusedSimpArgs false
set_option linter.unusedVariables false

theorem bytes_ext {a b : ByteArray} (hs : a.size = b.size) (h : ∀ i, i < a.size → byteAt a i = byteAt b i) : a = b := by
  cases a with | mk x => cases b with | mk y =>
  congr 1
  apply Array.ext
  · exact hs
  · intro i h1 h2
    have := h i h1
    unfold byteAt at this
    rw [List.getD_eq_getElem?_getD, List.getD_eq_getElem?_getD] at this
    simp [h1, h2] at this
    exact UInt8.toNat_inj.mp this
theorem fld_ext {a b : ByteArray} (h : ∀ o, o < 17 → fld a o = fld b o) (ha : a.size ≤ 16) : a = b := by
  have h0 : a.size = b.size := by
    have := h 0 (by omega)
    unfold fld at this
    simpa using this
  refine bytes_ext h0 (fun i hi => ?_)
  have := h (i + 1) (by omega)
  unfold fld at this
  simpa using this
theorem zfld_lt {a : ByteArray} (ha : a.size ≤ 16) (o : Nat) : fld a o < 256 := by
  unfold fld
  split
  · omega
  · exact UInt8.toNat_lt _
theorem strF_inj {f g : Nat → Nat} (h : strF f = strF g) {j : Nat} (hj : j < 128) (hf : f j < 256) (hg : g j < 256) : f j = g j := by
  rw [← strF_at f j hj hf, ← strF_at g j hj hg, h]
/-- A leaf's page settles its entries. -/
theorem page_lf {l l' : List KV} (h : page (.lf l) = page (.lf l')) (hl : l.length ≤ 3) (hl' : l'.length ≤ 3) (h16 : ∀ e ∈ l, e.1.size ≤ 16 ∧ e.2.size ≤ 16) (h16' : ∀ e ∈ l', e.1.size ≤ 16 ∧ e.2.size ≤ 16) : l = l' := by
  unfold page at h
  have e1 : l.length = l'.length := by
    have := strF_inj h (j := 1) (by omega) (by simp [pageF, lfF]; omega) (by simp [pageF, lfF]; omega)
    simpa [pageF, lfF] using this
  apply List.ext_getElem e1
  intro i h1 h2
  have d1 : l.getD i kvD = l[i] := by rw [List.getD_eq_getElem?_getD, List.getElem?_eq_getElem h1]; rfl
  have d2 : l'.getD i kvD = l'[i] := by rw [List.getD_eq_getElem?_getD, List.getElem?_eq_getElem h2]; rfl
  have a1 := h16 l[i] (List.getElem_mem h1)
  have a2 := h16' l'[i] (List.getElem_mem h2)
  have at1 : ∀ (m : List KV) (hm : i < m.length) (o : Nat), o < 17 → pageF (.lf m) (4 + i * 34 + o) = fld (m.getD i kvD).1 o := fun m hm o ho => by
    unfold pageF lfF
    have x1 : (4 + i * 34 + o - 4) / 34 = i := by omega
    have x2 : (4 + i * 34 + o - 4) % 34 = o := by omega
    simp only
    rw [if_neg (by omega), if_neg (by omega), if_neg (by omega), x1, x2, if_pos hm, if_pos ho]
  have at2 : ∀ (m : List KV) (hm : i < m.length) (o : Nat), o < 17 → pageF (.lf m) (4 + i * 34 + 17 + o) = fld (m.getD i kvD).2 o := fun m hm o ho => by
    unfold pageF lfF
    have x1 : (4 + i * 34 + 17 + o - 4) / 34 = i := by omega
    have x2 : (4 + i * 34 + 17 + o - 4) % 34 = 17 + o := by omega
    have x3 : 17 + o - 17 = o := by omega
    simp only
    rw [if_neg (by omega), if_neg (by omega), if_neg (by omega), x1, x2, if_pos hm, if_neg (by omega), x3]
  refine Prod.ext (fld_ext (fun o ho => ?_) a1.1) (fld_ext (fun o ho => ?_) a1.2)
  · have b1 := at1 l h1 o ho
    have b2 := at1 l' h2 o ho
    rw [d1] at b1
    rw [d2] at b2
    have := strF_inj h (j := 4 + i * 34 + o) (by omega) (by rw [b1]; exact zfld_lt a1.1 o) (by rw [b2]; exact zfld_lt a2.1 o)
    rw [b1, b2] at this
    exact this
  · have b1 := at2 l h1 o ho
    have b2 := at2 l' h2 o ho
    rw [d1] at b1
    rw [d2] at b2
    have := strF_inj h (j := 4 + i * 34 + 17 + o) (by omega) (by rw [b1]; exact zfld_lt a1.2 o) (by rw [b2]; exact zfld_lt a2.2 o)
    rw [b1, b2] at this
    exact this
theorem page_kind {l : List KV} {ks : List Nat} {ss : List ByteArray} (h : page (.lf l) = page (.inn ks ss)) : False := by
  unfold page at h
  have := strF_inj h (j := 0) (by omega) (by simp [pageF, lfF]) (by simp [pageF, inF])
  simp [pageF, lfF, inF] at this
theorem page_inn {ks ks' : List Nat} {ss ss' : List ByteArray} (h : page (.inn ks ss) = page (.inn ks' ss')) (hl : ks.length ≤ 4) (hl' : ks'.length ≤ 4) (hk : ∀ n ∈ ks, n < 256) (hk' : ∀ n ∈ ks', n < 256) : ks = ks' := by
  unfold page at h
  have e1 : ks.length = ks'.length := by
    have := strF_inj h (j := 1) (by omega) (by simp [pageF, inF]; omega) (by simp [pageF, inF]; omega)
    simpa [pageF, inF] using this
  apply List.ext_getElem e1
  intro i h1 h2
  have at1 : ∀ (m : List Nat) (s : List ByteArray) (hm : i < m.length), i < 4 → pageF (.inn m s) (4 + i) = m[i] := fun m s hm hi => by
    unfold pageF inF
    have x1 : 4 + i - 4 = i := by omega
    simp only
    rw [if_neg (by omega), if_neg (by omega), if_neg (by omega), if_pos (by omega), x1, if_pos hm, List.getD_eq_getElem?_getD, List.getElem?_eq_getElem hm]
    rfl
  have b1 := at1 ks ss h1 (by omega)
  have b2 := at1 ks' ss' h2 (by omega)
  have := strF_inj h (j := 4 + i) (by omega) (by rw [b1]; exact hk _ (List.getElem_mem h1)) (by rw [b2]; exact hk' _ (List.getElem_mem h2))
  rw [b1, b2] at this
  exact this
theorem sto_lt {N : Nat → Option ByteArray} (hN : ∀ n b, N n = some b → n < 72) {h : Nat} {t : Tr (h + 1)} (s : Sto N (h + 1) t) : pgT t < 72 := hN _ _ s.1
theorem fm2 {α β γ : Type} {f : α → List γ} {g : β → List γ} : ∀ (l : List α) (l' : List β), l.length = l'.length → (∀ i (h : i < l.length) (h' : i < l'.length), f l[i] = g l'[i]) → l.flatMap f = l'.flatMap g
  | [], [], _, _ => rfl
  | a :: l, b :: l', e, h => by
    have h0 : f a = g b := h 0 (by simp) (by simp)
    rw [List.flatMap_cons, List.flatMap_cons, h0]
    congr 1
    exact fm2 l l' (by simpa using e) (fun i h1 h2 => h (i + 1) (by simpa using h1) (by simpa using h2))
  | [], b :: l', e, _ => by simp at e
  | a :: l, [], e, _ => by simp at e
theorem sto_uniq {N : Nat → Option ByteArray} (hN : ∀ n b, N n = some b → n < 72) : ∀ (h h' : Nat) (t : Tr (h + 1)) (t' : Tr (h' + 1)) {lo lo' : Nat}, Sto N (h + 1) t → Sto N (h' + 1) t' → Sz (h + 1) lo t → Sz (h' + 1) lo' t' → pgT t = pgT t' → entsL h (itT t) = entsL h' (itT t') := by
  intro h
  induction h with
  | zero =>
    intro h' t t' lo lo' s s' z z' e
    have hp := s.1
    rw [e, s'.1] at hp
    have hp := (Option.some.inj hp).symm
    cases h' with
    | zero =>
      have := page_lf hp z.2.1 z'.2.1 (fun x hx => z.2.2 x hx) (fun x hx => z'.2.2 x hx)
      rw [this]
    | succ h' => exact (page_kind hp).elim
  | succ h ih =>
    intro h' t t' lo lo' s s' z z' e
    have hp := s.1
    rw [e, s'.1] at hp
    have hp := (Option.some.inj hp).symm
    cases h' with
    | zero => exact (page_kind hp.symm).elim
    | succ h' =>
      have hk := page_inn hp (by rw [List.length_map]; exact z.2.1) (by rw [List.length_map]; exact z'.2.1) (fun n hn => by
        obtain ⟨x, hx, rfl⟩ := List.mem_map.mp hn
        have := sto_lt hN (s.2 x hx)
        omega) (fun n hn => by
        obtain ⟨x, hx, rfl⟩ := List.mem_map.mp hn
        have := sto_lt hN (s'.2 x hx)
        omega)
      have hlen : (itT t).length = (itT t').length := by simpa using congrArg List.length hk
      unfold entsL
      refine fm2 _ _ hlen (fun i h1 h2 => ?_)
      have hpi : pgT (itT t)[i].2 = pgT (itT t')[i].2 := by
        have := congrArg (fun l => l[i]?) hk
        simpa [h1, h2] using this
      show entsL h (itT (itT t)[i].2) = entsL h' (itT (itT t')[i].2)
      exact ih h' _ _ (s.2 _ (List.getElem_mem h1)) (s'.2 _ (List.getElem_mem h2)) (z.2.2 _ (List.getElem_mem h1)).2 (z'.2.2 _ (List.getElem_mem h2)).2 hpi
theorem FI.uniq {N : Nat → Option ByteArray} (hN : ∀ n b, N n = some b → 1 ≤ n ∧ n < 72) {F F' : Fo} (I : FI N F) (I' : FI N F') : vu F = vu F' := by
  funext i
  unfold vu
  by_cases hi : i < 8
  · rw [if_pos hi, if_pos hi]
    obtain ⟨d, hd, D⟩ := I.dir
    obtain ⟨d', hd', D'⟩ := I'.dir
    rw [hd] at hd'
    obtain rfl := Option.some.inj hd'
    have e := (D.rt i hi).symm.trans (D'.rt i hi)
    cases hF : F i with
    | none =>
      cases hF' : F' i with
      | none => rfl
      | some r' =>
        rw [hF, hF'] at e
        have := hN _ _ (I'.gd i r' hi hF').st.1
        simp only [pgR] at e
        omega
    | some r =>
      cases hF' : F' i with
      | none =>
        rw [hF, hF'] at e
        have := hN _ _ (I.gd i r hi hF).st.1
        simp only [pgR] at e
        omega
      | some r' =>
        rw [hF, hF'] at e
        have g := I.gd i r hi hF
        have g' := I'.gd i r' hi hF'
        simp only [lR, Option.map_some]
        rw [sto_uniq (fun n b h => (hN n b h).2) r.h r'.h r.t r'.t g.st g'.st g.sz g'.sz e]
  · rw [if_neg hi, if_neg hi]
theorem ComF.toS {com : List ByteArray} {S : Vu} (h : ComF com S) : ComS com S := .inr h
theorem ComS.uniq {com : List ByteArray} {S S' : Vu} (h : ComS com S) (h' : ComS com S') : S = S' := by
  have hN : ∀ n b, NV (com.take 72) n = some b → 1 ≤ n ∧ n < 72 := fun n b hb => ⟨(NV_some hb).1, (NV_some hb).2.1⟩
  rcases h with ⟨h1, rfl⟩ | ⟨F, I, rfl⟩
  · rcases h' with ⟨_, rfl⟩ | ⟨F', I', rfl⟩
    · rfl
    · obtain ⟨d, hd, _⟩ := I'.dir
      rw [h1] at hd; cases hd
  · rcases h' with ⟨h1, rfl⟩ | ⟨F', I', rfl⟩
    · obtain ⟨d, hd, _⟩ := I.dir
      rw [h1] at hd; cases hd
    · exact I.uniq hN I'
end Go.Proofs.Qxb6500412aGreat
