/-
  OWN WORK. THE INDEX's plant, in plain terms.
-/
import Derived.Test.Qxb6500418aITrie5
namespace Go.Proofs.Qxb6500418a
open Go.RowKit Go.PlainAid
set_option linter.unusedSimpArgs false
set_option linter.unusedVariables false

theorem mapKid_id {n : Str} {F : Fo} : F.mapKid n (fun k => k) = F := by
  induction F with
  | nil => rfl
  | file c n2 d m r ih => simp only [Fo.mapKid]; rw [ih]
  | dir c n2 k r ihk ih =>
    simp only [Fo.mapKid]
    by_cases e : n2 = n
    · rw [if_pos e]
    · rw [if_neg e, ih]
theorem upd_id : ∀ {a : List Str} {F : Fo}, upd a (fun k => k) F = F
  | [], F => rfl
  | n :: a, F => by
    have : upd a (fun k : Fo => k) = fun k => k := funext fun k => upd_id
    show F.mapKid n (upd a (fun k => k)) = F
    rw [this]
    exact mapKid_id
theorem upd_const_id {a : List Str} {d0 d : Nat} {F K : Fo} (h : dirAt a d0 F = some (d, K)) : upd a (fun _ => K) F = F := by
  have := upd_const (g := fun k => k) h
  rw [upd_id] at this
  exact this.symm
theorem leaf_dirAt : ∀ {a : List Str} {d0 d : Nat} {F K : Fo} {ts : List Str}, dirAt a d0 F = some (d, K) → ts ≠ [] → leaf (a ++ ts) F = leaf ts K
  | [], d0, d, F, K, ts, h, _ => by cases h; rfl
  | n :: a, d0, d, F, K, ts, h, ht => by
    obtain ⟨c, k, hh, h'⟩ := dirAt_cons h
    rw [List.cons_append, leaf_cons, hh]
    have hne : a ++ ts ≠ [] := by simp [ht]
    simp [hne]
    exact leaf_dirAt h' ht
theorem look_hit {n : Str} {rs : List Str} {K : Fo} : look (n :: rs) K = match K.hit n with
    | .none => .new
    | .file c d m => if rs = [] then .file c d m else .clash 0
    | .dir c k => if rs = [] then .clash c else look rs k := rfl

theorem look_dirAt : ∀ {a : List Str} {d0 d : Nat} {F K : Fo} {ts : List Str}, dirAt a d0 F = some (d, K) → ts ≠ [] → look (a ++ ts) F = look ts K
  | [], d0, d, F, K, ts, h, _ => by cases h; rfl
  | n :: a, d0, d, F, K, ts, h, ht => by
    obtain ⟨c, k, hh, h'⟩ := dirAt_cons h
    rw [List.cons_append, look_hit, hh]
    have hne : a ++ ts ≠ [] := by simp [ht]
    simp [hne]
    exact look_dirAt h' ht
/-- Where plant stands: the parts a are behind it, qs ahead. -/
structure Pl (P : Nat → Nd) (fr fi : Nat) (fl : List Nat) (G F : Fo) (ps a qs : List Str) (dn fi0 : Nat) (new : Bool) : Prop where
  inv : IInv P fr G fl
  wf : G.Wf
  sh : G.Short
  split : ps = a ++ qs
  oth : ∀ rs, rs ≠ ps → leaf rs G = leaf rs F
  kind : (qs ≠ [] ∧ fi = fi0 ∧ ∃ K, dirAt a 0 G = some (dn, K) ∧ K.Full ∧ FullAt a G ∧ (∀ c, look qs K ≠ .clash c) ∧ (look qs K = .new ↔ new = true) ∧ (new = true → qs.length ≤ fl.length)) ∨
    (qs = [] ∧ G.Full ∧ fi = fi0 + (if new = true then 1 else 0) ∧ ∃ b n d K dd mm, ps = b ++ [n] ∧ dirAt b 0 G = some (d, K) ∧ K.hit n = .file dn dd mm)

section
variable {P : Nat → Nd} {fr fi : Nat} {fl : List Nat} {G F K : Fo} {ps a rs : List Str} {dn fi0 : Nat} {new : Bool} {n : Str}
theorem Pl.into (h : Pl P fr fi fl G F ps a (n :: rs) dn fi0 new) (hd : dirAt a 0 G = some (dn, K)) {c : Nat} {k : Fo} (hh : K.hit n = .dir c k) : Pl P fr fi fl G F ps (a ++ [n]) rs c fi0 new := by
  obtain ⟨h1, h2, h3, h4, h5, h6⟩ := h
  rcases h6 with ⟨_, hfi, K', hd', hKf, hFA, hcl, hnew, hlen⟩ | ⟨e, _⟩
  · rw [hd] at hd'
    cases hd'
    have hrs : rs ≠ [] := by
      intro e
      apply hcl c
      rw [look_hit, hh]
      simp [e]
    have hlk : look (n :: rs) K = look rs k := by rw [look_hit, hh]; simp [hrs]
    rw [hlk] at hcl hnew
    have hkf := hit_dir_full hKf hh
    refine ⟨h1, h2, h3, by rw [h4]; simp, h5, .inl ⟨hrs, hfi, k, ?_, hkf.1, ?_, hcl, hnew, fun e => by have := hlen e; simp at this; omega⟩⟩
    · rw [dirAt_app hd]
      show (match K.hit n with | .dir c k => dirAt [] c k | _ => none) = _
      rw [hh]
      rfl
    · intro J hJ hor
      have hJne : J ≠ .nil := hor.resolve_right (by simp)
      rw [upd_app, upd_const hd]
      refine hFA _ (mapKid_full hKf hJ hJne) (.inl (mapKid_ne ?_))
      intro e
      rw [e] at hh
      cases hh
  · cases e
theorem Pl.found (h : Pl P fr fi fl G F ps a (n :: rs) dn fi0 new) (hd : dirAt a 0 G = some (dn, K)) {c : Nat} {d : Str} {m : Int} (hh : K.hit n = .file c d m) : rs = [] ∧ Pl P fr fi fl G F ps (a ++ [n]) [] c fi0 new := by
  obtain ⟨h1, h2, h3, h4, h5, h6⟩ := h
  rcases h6 with ⟨_, hfi, K', hd', hKf, hFA, hcl, hnew, hlen⟩ | ⟨e, _⟩
  · rw [hd] at hd'
    cases hd'
    have hrs : rs = [] := by
      by_cases e : rs = []
      · exact e
      · exfalso
        apply hcl 0
        rw [look_hit, hh]
        simp [e]
    subst hrs
    have hnf : new = false := by
      cases hnb : new with
      | false => rfl
      | true =>
        have := hnew.2 hnb
        rw [look_hit, hh] at this
        simp at this
    refine ⟨rfl, ⟨h1, h2, h3, by rw [h4]; simp, h5, .inr ⟨rfl, ?_, by rw [hfi, hnf]; simp, a, n, dn, K, d, m, h4, hd, hh⟩⟩⟩
    have := hFA K hKf (.inl (fun e => by rw [e] at hh; cases hh))
    rw [upd_const_id hd] at this
    exact this
  · cases e
theorem Pl.made (h : Pl P fr fi fl G F ps a (n :: rs) dn fi0 new) (hd : dirAt a 0 G = some (dn, K)) (hh : K.hit n = .none) (hn : NameOk n) (hn12 : n.length ≤ 12) :
    ∃ fl', fl = fr :: fl' ∧ Pl (linkP P K fr dn n (decide (rs = []))) (P fr).next (if rs = [] then fi + 1 else fi) fl' (upd a (Fo.ins fr n (decide (rs = []))) G) F ps (a ++ [n]) rs fr fi0 new := by
  obtain ⟨h1, h2, h3, h4, h5, h6⟩ := h
  rcases h6 with ⟨_, hfi, K', hd', hKf, hFA, hcl, hnew, hlen⟩ | ⟨e, _⟩
  · rw [hd] at hd'
    cases hd'
    have hnt : new = true := hnew.1 (by rw [look_hit, hh])
    have hle := hlen hnt
    cases fl with
    | nil => simp at hle
    | cons c fl' =>
      have hcf : fr = c := h1.fre.1
      subst hcf
      have hx : n ∉ K.names := hit_none hh
      refine ⟨fl', rfl, ?_⟩
      have hinv := IInv.link h1 hd n (decide (rs = []))
      have hKw := dirAt_wf h2 hd
      have hKs := Short.dirAt h3 hd
      have hGe := upd_const (g := Fo.ins fr n (decide (rs = []))) hd
      refine ⟨hinv, upd_wf h2 hd (ins_wf hKw hn hx), Short.upd h3 hd (Short.ins hKs hn12), by rw [h4]; simp, fun ts hts => ?_, ?_⟩
      · rw [← h5 ts hts]
        obtain ⟨u1, u2⟩ := upd_leaf (g := Fo.ins fr n (decide (rs = []))) ts hd
        by_cases hex : ∃ us, us ≠ [] ∧ ts = a ++ us
        · obtain ⟨us, hus, rfl⟩ := hex
          rw [u1 us hus rfl, ins_leaf hx, leaf_dirAt hd hus]
          rw [if_neg]
          rintro ⟨e1, e2⟩
          have e1' : rs = [] := of_decide_eq_true e1
          exact hts (by rw [h4, e1', e2])
        · exact u2 (fun us hus e => hex ⟨us, hus, e⟩)
      · by_cases e : rs = []
        · right
          rw [if_pos e, decide_eq_true e]
          refine ⟨e, ?_, by rw [hfi, hnt]; simp, a, n, dn, K.ins fr n true, [], 0, by rw [h4, e], upd_dirAt hd, ?_⟩
          · rw [upd_const hd]
            exact hFA _ (ins_file_full hKf) (.inl (ins_ne _ _ _ _))
          · rw [ins_hit hx, if_pos rfl]; rfl
        · left
          rw [if_neg e, decide_eq_false e]
          have hdn : dirAt (a ++ [n]) 0 (upd a (Fo.ins fr n false) G) = some (fr, .nil) := by
            rw [dirAt_app (upd_dirAt hd)]
            show (match (K.ins fr n false).hit n with | .dir c k => dirAt [] c k | _ => none) = _
            rw [ins_hit hx, if_pos rfl]
            rfl
          refine ⟨e, hfi, .nil, hdn, trivial, ?_, ?_, ?_, ?_⟩
          · intro J hJ hor
            have hJne : J ≠ .nil := hor.resolve_right (by simp)
            rw [upd_app, upd_upd hd, upd_const hd]
            exact hFA _ (ins_dir_full hKf hx hJ hJne) (.inl (mapKid_ne (ins_ne _ _ _ _)))
          · intro c' hc'
            cases rs with
            | nil => exact absurd rfl e
            | cons r1 r2 => rw [look_hit] at hc'; simp [Fo.hit] at hc'
          · cases rs with
            | nil => exact absurd rfl e
            | cons r1 r2 => rw [look_hit]; simp [Fo.hit, hnt]
          · intro _
            simp at hle
            omega
  · cases e
end
end Go.Proofs.Qxb6500418a
