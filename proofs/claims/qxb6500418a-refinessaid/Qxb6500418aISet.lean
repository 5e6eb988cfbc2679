/-
  OWN WORK. THE INDEX: Set.
-/
import Derived.Test.Qxb6500418aIPut
namespace Go.Proofs.Qxb6500418a
open Go.RowKit Go.PlainAid
set_option linter.unusedSimpArgs false
set_option linter.unusedVariables false

theorem gather_len {F : Fo} : ∀ p q : Str, (F.gather p).length = (F.gather q).length := by
  induction F with
  | nil => intro p q; rfl
  | file c n d m r ih => intro p q; simp [Fo.gather, ih p q]
  | dir c n k r ihk ih => intro p q; simp only [Fo.gather, List.length_append]; rw [ihk _ (q ++ n ++ [47]), ih p q]
theorem ids_bound {F : Fo} : ∀ {H : Nat}, F.Wf → F.Full → (∀ ps d m, leaf ps F = some (d, m) → ps.length ≤ H) → F.ids.length ≤ H * (F.gather []).length := by
  induction F with
  | nil => intro H _ _ _; simp [Fo.ids]
  | file c n d m r ih =>
    intro H hw hf hl
    obtain ⟨h1, h2, h3, h4⟩ := hw
    have hH := hl [n] d m (by rw [leaf_cons]; simp [Fo.hit])
    simp at hH
    have hr := ih (H := H) h4 hf (fun ps d' m' hps => by
      cases ps with
      | nil => cases hps
      | cons t ts =>
        have hx : r.hit t ≠ .none := fun e => by rw [leaf_cons, e] at hps; cases hps
        have hne : n ≠ t := fun e => h3 (e ▸ hit_name hx)
        refine hl (t :: ts) d' m' ?_
        rw [leaf_cons] at hps ⊢
        have : (Fo.file c n d m r).hit t = r.hit t := by simp [Fo.hit, hne]
        rw [this]; exact hps)
    simp only [Fo.ids, Fo.gather, List.length_cons]
    rw [Nat.mul_add]
    omega
  | dir c n k r ihk ih =>
    intro H hw hf hl
    obtain ⟨h1, h2, h3, h4, h5⟩ := hw
    obtain ⟨f1, f2, f3⟩ := hf
    obtain ⟨f0, hf0⟩ := gather_some f2 f1 []
    have hcnt : 1 ≤ (k.gather []).length := List.length_pos_of_mem hf0
    have hk := ihk (H := H - 1) h4 f2 (fun ps d' m' hps => by
      have hne : ps ≠ [] := fun e => by rw [e] at hps; cases hps
      have := hl (n :: ps) d' m' (by rw [leaf_cons]; simp [Fo.hit, hne, hps])
      simp at this
      omega)
    obtain ⟨ps0, d0, m0, a1, a2, a3, a4⟩ := (gather_leaf h4 f0).1 hf0
    have hH : 1 ≤ H := by
      have := hl (n :: ps0) d0 m0 (by rw [leaf_cons]; simp [Fo.hit, a1, a3])
      simp at this
      omega
    have hr := ih (H := H) h5 f3 (fun ps d' m' hps => by
      cases ps with
      | nil => cases hps
      | cons t ts =>
        have hx : r.hit t ≠ .none := fun e => by rw [leaf_cons, e] at hps; cases hps
        have hne : n ≠ t := fun e => h3 (e ▸ hit_name hx)
        refine hl (t :: ts) d' m' ?_
        rw [leaf_cons] at hps ⊢
        have : (Fo.dir c n k r).hit t = r.hit t := by simp [Fo.hit, hne]
        rw [this]; exact hps)
    simp only [Fo.ids, Fo.gather, List.length_cons, List.length_append]
    rw [gather_len ([] ++ n ++ [47]) [], Nat.mul_add]
    have e1 : H * (k.gather []).length = (H - 1) * (k.gather []).length + (k.gather []).length := by
      obtain ⟨H', rfl⟩ : ∃ H', H = H' + 1 := ⟨H - 1, by omega⟩
      rw [Nat.add_sub_cancel, Nat.succ_mul]
    rw [e1]
    omega
theorem joinP_long : ∀ {ps : List Str}, ps ≠ [] → NamesOk ps → 2 * ps.length ≤ (joinP ps).length + 1
  | [], h, _ => absurd rfl h
  | [n], _, hn => by
    have : n.length ≠ 0 := fun e => (hn n (by simp)).1 (List.length_eq_zero_iff.1 e)
    show 2 * 1 ≤ n.length + 1
    omega
  | n :: m :: r, _, hn => by
    have h1 : n.length ≠ 0 := fun e => (hn n (by simp)).1 (List.length_eq_zero_iff.1 e)
    have ih := joinP_long (ps := m :: r) (by simp) (fun x hx => hn x (by simp at hx ⊢; exact .inr hx))
    rw [joinP_cons (by simp)]
    simp only [List.length_cons, List.length_append] at ih ⊢
    omega

/-- A lawful list. -/
structure Lawful (L : List Fl) : Prop where
  cnt : L.length ≤ 8
  good : ∀ f ∈ L, goodB (pth f) = true ∧ 0 ≤ f.mode ∧ f.mode ≤ 3 ∧ f.data.size ≤ 180
  srt : L.Pairwise (fun a b => bl (pth a) (pth b) = true)
  ncl : ∀ f ∈ L, ∀ g ∈ L, clashB (pth f) (pth g) = false
/-- The index x shows the list L. -/
structure IX (w : World) (x : Nat) (L : List Fl) : Prop where
  ex : ∃ P fr F fl, IAt w x P fr L.length ∧ IInv P fr F fl ∧ F.Wf ∧ F.Full ∧ F.Short ∧ F.gather [] = L
  cnt : L.length ≤ 8
  good : ∀ f ∈ L, goodB (pth f) = true ∧ 0 ≤ f.mode ∧ f.mode ≤ 3 ∧ f.data.size ≤ 180
theorem IX.lt {w : World} {x : Nat} {L : List Fl} (h : IX w x L) : x < w.heap.size := by
  obtain ⟨P, fr, F, fl, h1, _⟩ := h.ex
  exact h1.lt
theorem IX.keep {S : Nat → Prop} {w w' : World} {x : Nat} {L : List Fl} (h : IX w x L) (ho : Only S w w') (hS : ¬ S x) : IX w' x L := by
  obtain ⟨⟨P, fr, F, fl, h1, h2⟩, h3, h4⟩ := h
  exact ⟨⟨P, fr, F, fl, h1.keep ho hS, h2⟩, h3, h4⟩
theorem IX.lawful {w : World} {x : Nat} {L : List Fl} (h : IX w x L) : Lawful L := by
  obtain ⟨⟨P, fr, F, fl, h1, h2, h3, h4, h5, rfl⟩, hc, hg⟩ := h
  exact ⟨hc, hg, gather_sorted h3 [], gather_noclash h3⟩

section
variable {P : Nat → Nd} {fr : Nat} {F : Fo} {fl : List Nat} {L : List Fl}
theorem room (hv : IInv P fr F fl) (hw : F.Wf) (hf : F.Full) (hL : F.gather [] = L) (hg : ∀ f ∈ L, goodB (pth f) = true) (h7 : L.length ≤ 7) : 6 ≤ fl.length := by
  have hb := ids_bound (H := 6) hw hf (fun ps d m hps => by
    obtain ⟨c, hc⟩ := leaf_look.1 hps
    have hmem := look_file [] hc
    obtain ⟨qs, d', m', a1, a2, a3, a4⟩ := (gather_leaf hw _).1 hmem
    have hpp : joinP ps = joinP qs := by
      have := congrArg pth a4
      rw [pth_mk, pth_mk, List.nil_append] at this
      exact this
    have hgd := hg _ (hL ▸ hmem)
    rw [pth_mk, List.nil_append] at hgd
    have hlen : (joinP ps).length ≤ 12 := by
      unfold goodB at hgd
      simp only [Bool.and_eq_true] at hgd
      exact (of_decide_eq_true hgd.1).2
    have hne : ps ≠ [] := fun e => by rw [e] at hps; cases hps
    have hok : NamesOk ps := by
      have : ∀ {ps : List Str} {F : Fo}, F.Wf → leaf ps F = some (d, m) → NamesOk ps := by
        intro ps
        induction ps with
        | nil => intro F _ h; cases h
        | cons n ps ih =>
          intro F hw h
          have hx : F.hit n ≠ .none := fun e => by rw [leaf_cons, e] at h; cases h
          have hnm := hit_name hx
          have hnok : NameOk n := by
            clear ih h hx
            induction F with
            | nil => simp [Fo.names] at hnm
            | file c n2 d m r ih =>
              simp [Fo.names] at hnm
              rcases hnm with e | e
              · rw [e]; exact hw.1
              · exact ih hw.2.2.2 e
            | dir c n2 k r ihk ih =>
              simp [Fo.names] at hnm
              rcases hnm with e | e
              · rw [e]; exact hw.1
              · exact ih hw.2.2.2.2 e
          intro y hy
          simp at hy
          rcases hy with rfl | hy
          · exact hnok
          · rw [leaf_cons] at h
            cases hh : F.hit n with
            | none => exact absurd hh hx
            | file c' d' m' =>
              rw [hh] at h
              by_cases e : ps = []
              · rw [e] at hy; simp at hy
              · simp [e] at h
            | dir c' k =>
              rw [hh] at h
              by_cases e : ps = []
              · rw [e] at hy; simp at hy
              · simp [e] at h
                exact ih (hit_dir_wf hw hh) h y hy
      exact this hw hps
    have := joinP_long hne hok
    omega)
  rw [hL] at hb
  have hall := nodup_sub_le ((List.range 48).map (· + 1)) (F.ids ++ fl) (by
    rw [List.nodup_iff_pairwise_ne, List.pairwise_map]
    refine List.Pairwise.imp ?_ (List.nodup_iff_pairwise_ne.1 (List.nodup_range (n := 48)))
    intro a b hab; omega) (by
    intro a ha
    simp only [List.mem_map, List.mem_range] at ha
    obtain ⟨b, hb, rfl⟩ := ha
    exact hv.all (b + 1) (by omega) (by omega))
  simp at hall
  omega
theorem withL_new {L : List Fl} {f : Fl} (h : ∀ g ∈ L, pth g ≠ pth f) : (withL L f).length = L.length + 1 := by
  induction L with
  | nil => rfl
  | cons a L ih =>
    unfold withL
    by_cases h1 : ltS f.path a.path = true
    · rw [if_pos h1]; rfl
    · rw [if_neg h1]
      have h2 : ¬ f.path = a.path := fun e => h a (by simp) (by unfold pth; rw [e])
      rw [if_neg h2]
      simp
      exact ih (fun g hg => h g (by simp [hg]))
theorem withL_old {L : List Fl} {f : Fl} (hs : L.Pairwise (fun a b => bl (pth a) (pth b) = true)) (h : ∃ g ∈ L, pth g = pth f) : (withL L f).length = L.length := by
  induction L with
  | nil => obtain ⟨g, hg, _⟩ := h; simp at hg
  | cons a L ih =>
    rw [List.pairwise_cons] at hs
    obtain ⟨g, hg, e⟩ := h
    unfold withL
    by_cases h1 : ltS f.path a.path = true
    · exfalso
      rw [ltS_eq] at h1
      have h1' : bl (pth f) (pth a) = true := h1
      simp at hg
      rcases hg with rfl | hg
      · rw [e, bl_irr] at h1'; cases h1'
      · have := bl_trans _ _ _ h1' (hs.1 g hg)
        rw [e, bl_irr] at this; cases this
    · rw [if_neg h1]
      by_cases h2 : f.path = a.path
      · rw [if_pos h2]; rfl
      · rw [if_neg h2]
        simp
        refine ih hs.2 ?_
        simp at hg
        rcases hg with rfl | hg
        · exact absurd (ls_inj e).symm h2
        · exact ⟨g, hg, e⟩
theorem findI_iff {L : List Fl} {p : ByteArray} : findI L p = -1 ↔ ∀ g ∈ L, pth g ≠ ls p := by
  constructor
  · intro h g hg e
    rcases findI_range L p with h1 | ⟨i, hi, h1, _⟩
    · unfold findI at h
      cases hq : L.findIdx? (fun f => decide (f.path = p)) with
      | none =>
        rw [List.findIdx?_eq_none_iff] at hq
        have := hq g hg
        have e2 : g.path = p := ls_inj e
        simp [e2] at this
      | some i => rw [hq] at h; simp at h
    · omega
  · intro h
    rcases findI_range L p with h1 | ⟨i, hi, h1, h2⟩
    · exact h1
    · exact absurd (by unfold pth; rw [h2]) (h L[i] (List.getElem_mem hi))
end
end Go.Proofs.Qxb6500418a
