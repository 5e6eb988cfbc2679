/-
  OWN WORK. THE B-TREE LAW: Ordered.
-/
import Derived.Test.Qxb6500410aGreatBGr
namespace Go.Proofs.Qxb6500410aGreat
open Go.RowKit Go.PlainAid
set_option linter.unusedSimpArgs false
set_option linter.unusedVariables false

def sA (S : Vu) (h : Int) (k : ByteArray) (past : Bool) : KV := ((Vz S h).bind (seekL k past)).getD kvD
def sC (S : Vu) (h : Int) (k : ByteArray) (past : Bool) : Int := match Vz S h with
  | none => 7
  | some l => seC (seekL k past l)
theorem seekS_eq (S : Vu) (h : Int) (k : ByteArray) (past : Bool) : seekS S h k past = .tuple #[kvA (sA S h k past), .int .i64 (sC S h k past)] := by
  unfold seekS sA sC
  cases Vz S h <;> rfl
theorem seekL_all {k : ByteArray} (l : List KV) : seekL bE false l = l.head? := by
  cases l with
  | nil => rfl
  | cons a r =>
    unfold seekL
    rw [List.find?_cons_of_pos]
    · rfl
    · unfold hit
      rcases lt_total bE a.1 with h | h | h
      · rw [h]; rfl
      · simp [h]
      · rw [lt_bE] at h; cases h
theorem seekL_past {p t : List KV} {x : KV} (hs : Srt (p ++ x :: t)) : seekL x.1 true (p ++ x :: t) = t.head? := by
  obtain ⟨h1, h2, h3⟩ := Srt.app_iff.mp hs
  obtain ⟨h4, h5⟩ := List.pairwise_cons.mp h2
  rw [seekL_app, seekL_less (fun e he => h3 e he x (by simp))]
  show seekL x.1 true (x :: t) = _
  unfold seekL
  rw [List.find?_cons_of_neg (by simp [hit, lt_irr])]
  cases t with
  | nil => rfl
  | cons y t =>
    rw [List.find?_cons_of_pos]
    · rfl
    · simp [hit, h4 y (by simp)]
/-- How far the two walks have come, side by side. -/
structure OW (S S' : Vu) (h : Int) (its : List Itm) (m : Nat) (k : ByteArray) (past : Bool) (i : Int) (p r r' : List KV) : Prop where
  m : m = p.length
  l : Lz S h = p ++ r
  l' : Lz S' h = p ++ r'
  s : seekL k past (Lz S h) = r.head?
  s' : seekL k past (Lz S' h) = r'.head?
  i : (i = -1 ∧ r' = []) ∨ ∃ (j : Nat) (y : Itm), its[j]? = some y ∧ i = j ∧ r'.head? = some (y.K, y.V)
section
variable {S S' : Vu} {T : Nat → Bool} {its : List Itm} {h : Int} {m : Nat} {k : ByteArray} {past : Bool} {i : Int} {p r r' : List KV}
theorem OW.start (g : GR S' T its) (V : Vok S) (R : LeR its its.length h bE false i) : OW S S' h its 0 bE false i [] (Lz S h) (Lz S' h) := by
  refine ⟨rfl, rfl, rfl, seekL_all (k := bE) _, seekL_all (k := bE) _, ?_⟩
  rcases g.least R with ⟨rfl, e⟩ | ⟨j, y, hy, rfl, e⟩
  · rw [seekL_all (k := bE)] at e
    exact .inl ⟨rfl, List.head?_eq_none_iff.mp e⟩
  · rw [seekL_all (k := bE)] at e
    exact .inr ⟨j, y, hy, rfl, e⟩
theorem OW.short (o : OW S S' h its m k past i p r r') (V : Vok S') : m ≤ 64 := by
  have := V.len h
  rw [o.l'] at this
  simp at this
  have := o.m
  omega
theorem OW.sA (o : OW S S' h its m k past i p r r') (hv : (Vz S h).isSome = true) : sA S h k past = r.head?.getD kvD ∧ sC S h k past = seC r.head? := by
  cases hz : Vz S h with
  | none => rw [hz] at hv; cases hv
  | some l =>
    have e : Lz S h = l := by unfold Lz; rw [hz]; rfl
    have := o.s
    rw [e] at this
    unfold Go.Proofs.Qxb6500410aGreat.sA sC
    rw [hz]
    simp only [Option.bind_some]
    rw [this]
    exact ⟨rfl, rfl⟩
theorem OW.bad (hv : (Vz S h).isSome = false) : Go.Proofs.Qxb6500410aGreat.sA S h k past = kvD ∧ sC S h k past = 7 := by
  have hz : Vz S h = none := by simpa using hv
  unfold Go.Proofs.Qxb6500410aGreat.sA sC
  rw [hz]
  exact ⟨rfl, rfl⟩
theorem Vz_of_Lz (h1 : (Vz S h).isSome = true) (h2 : (Vz S' h).isSome = true) : Lz S h = Lz S' h ↔ Vz S h = Vz S' h := by
  unfold Lz
  cases e1 : Vz S h with
  | none => rw [e1] at h1; cases h1
  | some a =>
    cases e2 : Vz S' h with
    | none => rw [e2] at h2; cases h2
    | some b => simp
/-- Both at their end. -/
theorem OW.endT (o : OW S S' h its m k past (-1) p r r') (hv' : (Vz S' h).isSome = true) (hk : skN (Go.Proofs.Qxb6500410aGreat.sA S h k past) (sC S h k past) = true) : Vz S h = Vz S' h := by
  have hr' : r' = [] := by
    rcases o.i with ⟨_, e⟩ | ⟨j, y, _, e, _⟩
    · exact e
    · omega
  cases hv : (Vz S h).isSome with
  | false =>
    rw [(OW.bad hv (k := k) (past := past)).1, (OW.bad hv (k := k) (past := past)).2] at hk
    simp [skN] at hk
  | true =>
    obtain ⟨e1, e2⟩ := o.sA hv
    rw [e1, e2] at hk
    have hr : r = [] := by
      cases r with
      | nil => rfl
      | cons x t => simp [skN, seC] at hk
    refine (Vz_of_Lz hv hv').mp ?_
    rw [o.l, o.l', hr, hr']
theorem OW.endF (o : OW S S' h its m k past (-1) p r r') (hv' : (Vz S' h).isSome = true) (hk : skN (Go.Proofs.Qxb6500410aGreat.sA S h k past) (sC S h k past) = false) : ¬ Vz S h = Vz S' h := by
  intro e
  have hr' : r' = [] := by
    rcases o.i with ⟨_, e⟩ | ⟨j, y, _, e, _⟩
    · exact e
    · omega
  have hv : (Vz S h).isSome = true := by rw [e]; exact hv'
  have hl := (Vz_of_Lz hv hv').mpr e
  rw [o.l, o.l'] at hl
  have hr := List.append_cancel_left hl
  obtain ⟨e1, e2⟩ := o.sA hv
  rw [e1, e2, hr, hr'] at hk
  simp [skN, seC, kvD, bE] at hk
theorem OW.stepF {j : Nat} {y : Itm} (o : OW S S' h its m k past j p r r') (hy : its[j]? = some y) (hv' : (Vz S' h).isSome = true) (hk : skP y (Go.Proofs.Qxb6500410aGreat.sA S h k past) (sC S h k past) = false) : ¬ Vz S h = Vz S' h := by
  intro e
  have hr' : r'.head? = some (y.K, y.V) := by
    rcases o.i with ⟨c, _⟩ | ⟨j', y', hy', c, e⟩
    · omega
    · have : j = j' := by omega
      subst this
      rw [hy] at hy'
      cases hy'
      exact e
  have hv : (Vz S h).isSome = true := by rw [e]; exact hv'
  have hl := (Vz_of_Lz hv hv').mpr e
  rw [o.l, o.l'] at hl
  have hr := List.append_cancel_left hl
  obtain ⟨e1, e2⟩ := o.sA hv
  rw [e1, e2, hr, hr'] at hk
  simp [skP, seC] at hk
theorem OW.stepT {j : Nat} {y : Itm} (o : OW S S' h its m k past j p r r') (hy : its[j]? = some y) (V : Vok S) (V' : Vok S') (hk : skP y (Go.Proofs.Qxb6500410aGreat.sA S h k past) (sC S h k past) = true) :
    (Go.Proofs.Qxb6500410aGreat.sA S h k past).1 = y.K ∧ ∀ (T : Nat → Bool) (g : GR S' T its) (i' : Int) (R : LeR its its.length h y.K true i'), ∃ p r r', OW S S' h its (m + 1) y.K true i' p r r' := by
  have hr' : r'.head? = some (y.K, y.V) := by
    rcases o.i with ⟨c, _⟩ | ⟨j', y', hy', c, e⟩
    · omega
    · have : j = j' := by omega
      subst this
      rw [hy] at hy'
      cases hy'
      exact e
  cases hv : (Vz S h).isSome with
  | false =>
    rw [(OW.bad hv (k := k) (past := past)).1, (OW.bad hv (k := k) (past := past)).2] at hk
    simp [skP] at hk
  | true =>
    obtain ⟨e1, e2⟩ := o.sA hv
    cases r with
    | nil => rw [e1, e2] at hk; simp [skP, seC] at hk
    | cons x t =>
      rw [e1, e2] at hk
      simp [skP, seC] at hk
      cases r' with
      | nil => cases hr'
      | cons x' t' =>
        simp at hr'
        subst hr'
        refine ⟨by rw [e1]; exact of_decide_eq_true hk.1, fun T g i' R => ⟨p ++ [(y.K, y.V)], t, t', ?_⟩⟩
        have hx : x = (y.K, y.V) := Prod.ext (of_decide_eq_true hk.1) (of_decide_eq_true hk.2)
        subst hx
        have l1 := o.l
        have l2 := o.l'
        have s1 := V.lsrt h
        have s2 := V'.lsrt h
        rw [l1] at s1
        rw [l2] at s2
        have p1 := seekL_past s1
        have p2 := seekL_past s2
        refine ⟨by simp [o.m], by rw [l1]; simp, by rw [l2]; simp, by rw [l1]; exact p1, by rw [l2]; exact p2, ?_⟩
        rcases g.least R with ⟨rfl, e⟩ | ⟨j, z, hz, rfl, e⟩
        · rw [l2, p2] at e
          exact .inl ⟨rfl, List.head?_eq_none_iff.mp e⟩
        · rw [l2, p2] at e
          exact .inr ⟨j, z, hz, rfl, e⟩
end
end Go.Proofs.Qxb6500410aGreat
