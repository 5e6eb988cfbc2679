/-
  OWN WORK. THE TREE: the invariant, and what WriteTree does, plain.
-/
import Derived.Test.Qxb6500417aGreatTJ
namespace Go.Proofs.Qxb6500417aGreat
open Go.RowKit Go.PlainAid
set_option linter.unusedSimpArgs false
set_option linter.unusedVariables false

def RelT (J : Nat → Sl) : Tp → Rw → Prop
  | .f e, r => r.dir = false ∧ r.name = e.path ∧ (r.id : Int) = e.id ∧ (r.mode : Int) = e.mode ∧ (J r.id).kd = 1
  | .d a sub, r => r.dir = true ∧ r.name = a ∧ r.mode = 0 ∧ (J r.id).kd = 2 ∧ (J r.id).lst = sub
def RelL (J : Nat → Sl) : List Tp → List Rw → Prop
  | [], [] => True
  | t :: ts, r :: rs => RelT J t r ∧ RelL J ts rs
  | _, _ => False
theorem RelT.congr {J J' : Nat → Sl} {t : Tp} {r : Rw} (h : RelT J t r) (he : (J' r.id).kd = (J r.id).kd ∧ (J' r.id).lst = (J r.id).lst) : RelT J' t r := by
  cases t with
  | f e => exact ⟨h.1, h.2.1, h.2.2.1, h.2.2.2.1, he.1.trans h.2.2.2.2⟩
  | d a sub => exact ⟨h.1, h.2.1, h.2.2.1, he.1.trans h.2.2.2.1, he.2.trans h.2.2.2.2⟩
theorem RelL.congr {J J' : Nat → Sl} : ∀ {ts : List Tp} {rs : List Rw}, RelL J ts rs → (∀ r ∈ rs, (J' r.id).kd = (J r.id).kd ∧ (J' r.id).lst = (J r.id).lst) → RelL J' ts rs
  | [], [], _, _ => trivial
  | t :: ts, r :: rs, h, he => ⟨h.1.congr (he r (by simp)), h.2.congr (fun x hx => he x (by simp [hx]))⟩
  | [], _ :: _, h, _ => h.elim
  | _ :: _, [], h, _ => h.elim
theorem RelL.snoc {J : Nat → Sl} {t : Tp} {r : Rw} (h1 : RelT J t r) : ∀ {ts : List Tp} {rs : List Rw}, RelL J ts rs → RelL J (ts ++ [t]) (rs ++ [r])
  | [], [], _ => ⟨h1, trivial⟩
  | _ :: _, _ :: _, h => ⟨h.1, RelL.snoc h1 h.2⟩
  | [], _ :: _, h => h.elim
  | _ :: _, [], h => h.elim
theorem RelT.tops {J : Nat → Sl} {t t' : Tp} {r : Rw} (h : RelT J t r) (h' : RelT J t' r) : t = t' := by
  cases t with
  | f e =>
    cases t' with
    | f e' =>
      obtain ⟨p, i, m⟩ := e
      obtain ⟨p', i', m'⟩ := e'
      have h1 := h.2.1.symm.trans h'.2.1
      have h2 := h.2.2.1.symm.trans h'.2.2.1
      have h3 := h.2.2.2.1.symm.trans h'.2.2.2.1
      simp only at h1 h2 h3
      subst h1 h2 h3
      rfl
    | d a sub => have := h.1.symm.trans h'.1; cases this
  | d a sub =>
    cases t' with
    | f e' => have := h.1.symm.trans h'.1; cases this
    | d a' sub' =>
      have h1 := h.2.1.symm.trans h'.2.1
      have h2 := h.2.2.2.2.symm.trans h'.2.2.2.2
      subst h1 h2
      rfl
theorem RelL.tops {J : Nat → Sl} : ∀ {ts ts' : List Tp} {rs : List Rw}, RelL J ts rs → RelL J ts' rs → ts = ts'
  | [], [], [], _, _ => rfl
  | t :: ts, t' :: ts', r :: rs, h, h' => by rw [h.1.tops h'.1, RelL.tops h.2 h'.2]
  | [], _, _ :: _, h, _ => h.elim
  | _ :: _, _, [], h, _ => h.elim
  | _, [], _ :: _, _, h => h.elim
  | _, _ :: _, [], _, h => h.elim
structure TreeOk (J : Nat → Sl) (s : Sl) : Prop where
  rel : RelL J (tp s.lst) s.rws
  wf : ∀ r ∈ s.rws, WfR r
  dat : s.dat = encs s.rws
  fine : Fine s.lst
structure Inv (J : Nat → Sl) : Prop where
  st3 : ∀ i, In i → (J i).st ≤ 3
  fr : ∀ i, In i → (J i).st = 0 → J i = Sl.free
  kd : ∀ i, In i → (J i).st ≠ 0 → 1 ≤ (J i).kd ∧ (J i).kd ≤ 4
  tr : ∀ i, In i → (J i).st ≠ 0 → (J i).kd = 2 → TreeOk J (J i)
  nt : ∀ i, In i → (J i).st ≠ 0 → (J i).kd ≠ 2 → (J i).lst = [] ∧ (J i).rws = []
  lv : ∀ i, In i → liveS (J i) = true → ∀ r ∈ (J i).rws, In r.id ∧ liveS (J r.id) = true
  ls : ∀ i, In i → lastS (J i) = true → ∀ r ∈ (J i).rws, In r.id ∧ lastS (J r.id) = true
  ul : ∀ i j, In i → In j → liveS (J i) = true → liveS (J j) = true → (J i).kd = 2 → (J j).kd = 2 → (J i).lst = (J j).lst → i = j
  ull : ∀ i j, In i → In j → lastS (J i) = true → lastS (J j) = true → (J i).kd = 2 → (J j).kd = 2 → (J i).lst = (J j).lst → i = j
theorem st_cases {s : Sl} (h3 : s.st ≤ 3) (h0 : s.st ≠ 0) : liveS s = true ∨ lastS s = true := by
  rw [liveS_iff, lastS_iff]; omega
theorem Inv.kid {J : Nat → Sl} (h : Inv J) {i : Nat} (hi : In i) (h0 : (J i).st ≠ 0) {r : Rw} (hr : r ∈ (J i).rws) : In r.id ∧ (J r.id).st ≠ 0 := by
  rcases st_cases (h.st3 i hi) h0 with h1 | h1
  · have := h.lv i hi h1 r hr; exact ⟨this.1, liveS_ne this.2⟩
  · have := h.ls i hi h1 r hr; exact ⟨this.1, lastS_ne this.2⟩
theorem RelL.det {J : Nat → Sl} (hI : Inv J) : ∀ {ts : List Tp} {rs rs' : List Rw}, RelL J ts rs → RelL J ts rs' → (∀ r ∈ rs, In r.id ∧ liveS (J r.id) = true) → (∀ r ∈ rs', In r.id ∧ liveS (J r.id) = true) → rs = rs'
  | [], [], [], _, _, _, _ => rfl
  | t :: ts, r :: rs, r' :: rs', h, h', hl, hl' => by
    have h1 := RelL.det hI h.2 h'.2 (fun x hx => hl x (by simp [hx])) (fun x hx => hl' x (by simp [hx]))
    rw [h1]
    congr 1
    obtain ⟨rd, rm, ri, rn⟩ := r
    obtain ⟨sd, sm, si, sn⟩ := r'
    have a1 := h.1
    have a2 := h'.1
    cases t with
    | f e =>
      obtain ⟨b1, b2, b3, b4, _⟩ := a1
      obtain ⟨c1, c2, c3, c4, _⟩ := a2
      simp only at b1 b2 b3 b4 c1 c2 c3 c4
      simp only [Rw.mk.injEq]
      exact ⟨b1.trans c1.symm, by omega, by omega, b2.trans c2.symm⟩
    | d a sub =>
      obtain ⟨b1, b2, b3, b4, b5⟩ := a1
      obtain ⟨c1, c2, c3, c4, c5⟩ := a2
      simp only at b1 b2 b3 b4 b5 c1 c2 c3 c4 c5
      have g1 := hl ⟨rd, rm, ri, rn⟩ (by simp)
      have g2 := hl' ⟨sd, sm, si, sn⟩ (by simp)
      have := hI.ul ri si g1.1 g2.1 g1.2 g2.2 b4 c4 (b5.trans c5.symm)
      simp only [Rw.mk.injEq]
      exact ⟨b1.trans c1.symm, by omega, this, b2.trans c2.symm⟩
  | [], _ :: _, _, h, _, _, _ => h.elim
  | _ :: _, [], _, h, _, _, _ => h.elim
  | [], [], _ :: _, _, h, _, _ => h.elim
  | _ :: _, _ :: _, [], _, h, _, _ => h.elim
/-- A slot that was free is taken; the others stay. -/
def Grow (J J' : Nat → Sl) : Prop := ∀ i, In i → (J i).st ≠ 0 → J' i = J i
theorem Grow.refl (J : Nat → Sl) : Grow J J := fun _ _ _ => rfl
theorem Grow.trans {J J1 J2 : Nat → Sl} (h1 : Grow J J1) (h2 : Grow J1 J2) : Grow J J2 := fun i hi h0 => by
  have := h1 i hi h0
  rw [h2 i hi (by rw [this]; exact h0), this]
theorem updJ_self {J : Nat → Sl} {i : Nat} {s : Sl} : updT J i s i = s := updT_same J i s
theorem Inv.add {J : Nat → Sl} (h : Inv J) {i : Nat} (hi : In i) (h0 : (J i).st = 0) {s : Sl} (hs : s.st = 1) (hk : 1 ≤ s.kd ∧ s.kd ≤ 4) (ht : s.kd = 2 → TreeOk J s) (hn : s.kd ≠ 2 → s.lst = [] ∧ s.rws = []) (hl : ∀ r ∈ s.rws, In r.id ∧ liveS (J r.id) = true) (hu : s.kd = 2 → ∀ j, In j → liveS (J j) = true → (J j).kd = 2 → (J j).lst ≠ s.lst) : Inv (updT J i s) ∧ Grow J (updT J i s) := by
  have oth : ∀ j, (J j).st ≠ 0 → updT J i s j = J j := fun j hj => updT_other _ _ _ _ (fun e => hj (e ▸ h0))
  have kid : ∀ j, In j → (J j).st ≠ 0 → ∀ r ∈ (J j).rws, updT J i s r.id = J r.id := fun j hj h1 r hr => oth r.id (h.kid hj h1 hr).2
  have cas : ∀ j, j = i ∨ (j ≠ i ∧ updT J i s j = J j) := fun j => by
    by_cases e : j = i
    · exact .inl e
    · exact .inr ⟨e, updT_other _ _ _ _ e⟩
  have sl : liveS s = true := by rw [liveS_iff]; exact .inl hs
  have sn : lastS s = false := by cases hh : lastS s with | false => rfl | true => rw [lastS_iff] at hh; omega
  have kids : ∀ r ∈ s.rws, updT J i s r.id = J r.id := fun r hr => oth r.id (liveS_ne (hl r hr).2)
  refine ⟨⟨?_, ?_, ?_, ?_, ?_, ?_, ?_, ?_, ?_⟩, fun j _ hj => oth j hj⟩
  · intro j hj
    rcases cas j with rfl | ⟨_, e⟩
    · rw [updJ_self]; omega
    · rw [e]; exact h.st3 j hj
  · intro j hj
    rcases cas j with rfl | ⟨_, e⟩
    · rw [updJ_self]; intro e; omega
    · rw [e]; exact h.fr j hj
  · intro j hj
    rcases cas j with rfl | ⟨_, e⟩
    · rw [updJ_self]; exact fun _ => hk
    · rw [e]; exact h.kd j hj
  · intro j hj h1 h2
    rcases cas j with rfl | ⟨_, e⟩
    · rw [updJ_self] at h2 ⊢
      have := ht h2
      exact ⟨this.rel.congr (fun r hr => by rw [kids r hr]; exact ⟨rfl, rfl⟩), this.wf, this.dat, this.fine⟩
    · rw [e] at h1 h2 ⊢
      have := h.tr j hj h1 h2
      exact ⟨this.rel.congr (fun r hr => by rw [kid j hj h1 r hr]; exact ⟨rfl, rfl⟩), this.wf, this.dat, this.fine⟩
  · intro j hj h1 h2
    rcases cas j with rfl | ⟨_, e⟩
    · rw [updJ_self] at h2 ⊢; exact hn h2
    · rw [e] at h1 h2 ⊢; exact h.nt j hj h1 h2
  · intro j hj h1 r hr
    rcases cas j with rfl | ⟨_, e⟩
    · rw [updJ_self] at hr
      rw [kids r hr]
      exact hl r hr
    · rw [e] at h1 hr
      rw [kid j hj (liveS_ne h1) r hr]
      exact h.lv j hj h1 r hr
  · intro j hj h1 r hr
    rcases cas j with rfl | ⟨_, e⟩
    · rw [updJ_self] at h1; rw [sn] at h1; cases h1
    · rw [e] at h1 hr
      rw [kid j hj (lastS_ne h1) r hr]
      exact h.ls j hj h1 r hr
  · intro j k hj hk' h1 h2 h3 h4 h5
    rcases cas j with ej | ⟨nj, ej⟩
    · rcases cas k with ek | ⟨nk, ek⟩
      · rw [ej, ek]
      · rw [ek] at h2 h4 h5
        rw [ej, updJ_self] at h3 h5
        exact absurd h5.symm (hu h3 k hk' h2 h4)
    · rcases cas k with ek | ⟨nk, ek⟩
      · rw [ej] at h1 h3 h5
        rw [ek, updJ_self] at h4 h5
        exact absurd h5 (hu h4 j hj h1 h3)
      · rw [ej] at h1 h3 h5
        rw [ek] at h2 h4 h5
        exact h.ul j k hj hk' h1 h2 h3 h4 h5
  · intro j k hj hk' h1 h2 h3 h4 h5
    rcases cas j with ej | ⟨nj, ej⟩
    · rw [ej, updJ_self, sn] at h1; cases h1
    · rcases cas k with ek | ⟨nk, ek⟩
      · rw [ek, updJ_self, sn] at h2; cases h2
      · rw [ej] at h1 h3 h5
        rw [ek] at h2 h4 h5
        exact h.ull j k hj hk' h1 h2 h3 h4 h5
end Go.Proofs.Qxb6500417aGreat
