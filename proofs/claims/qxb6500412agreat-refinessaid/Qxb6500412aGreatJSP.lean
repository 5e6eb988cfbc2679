/-
  OWN WORK. THE TABLE LAW, plain: what a Scan must show.
-/
import Derived.Test.Qxb6500412aGreatJP3
import Derived.Test.Qxb6500412aGreatEChT
namespace Go.Proofs.Qxb6500412aGreat
open Go.RowKit Go.PlainAid
set_option linter.unusedSimpArgs false
set_option linter.unusedVariables false

def OrdR (c pk : Nat) (p r : List Vl) : Prop := vcmp (kyR c p) (kyR c r) < 0 ∨ (vcmp (kyR c p) (kyR c r) = 0 ∧ vcmp (kyR pk p) (kyR pk r) < 0)
def OkR (t : Tb) (c : Nat) (lo hi : Bnd) (R : List (List Vl)) (i : Nat) (r : List Vl) : Prop := r ∈ t.rows ∧ inB lo hi (kyR c r) = true ∧ ∀ p, 0 < i → R[i - 1]? = some p → OrdR c t.pk p r
/-- Just the rows within, each once, rising. -/
def ScF (t : Tb) (c : Nat) (lo hi : Bnd) (R : List (List Vl)) : Prop := R.length = (t.rows.filter (fun r => inB lo hi (kyR c r))).length ∧ ∀ (i : Nat) (r : List Vl), R[i]? = some r → OkR t c lo hi R i r
theorem vcmp_self (a : Vl) : vcmp a a = 0 := by
  unfold vcmp
  simp [lt_irr]
theorem fnd_iff {t : Tb} (ok : GOk t) {r : List Vl} {z : Int} (hr : GRR t (kyR t.pk r) z) : (∃ i : Nat, z = i ∧ t.rows[i]? = some r) ↔ r ∈ t.rows := by
  constructor
  · rintro ⟨i, _, h⟩
    exact List.mem_of_getElem? h
  · intro hm
    rcases hr with ⟨_, h⟩ | ⟨i, x, hx, rfl, h⟩
    · exact absurd (vcmp_self _) (h r hm)
    · obtain ⟨a1, a2, _⟩ := (ok.row r hm).ky ok.pkn
      obtain ⟨b1, b2, _⟩ := (ok.row x (List.mem_of_getElem? hx)).ky ok.pkn
      have e := (vcmp_zero a1 b1 (Option.some.inj (a2.trans b2.symm))).mp h
      obtain ⟨j, hj⟩ := List.getElem?_of_mem hm
      obtain ⟨hjl, hje⟩ := List.getElem?_eq_some_iff.mp hj
      obtain ⟨hil, hie⟩ := List.getElem?_eq_some_iff.mp hx
      have : j = i := nodup_inj ok.one (by rw [List.length_map]; exact hjl) (by rw [List.length_map]; exact hil) (by rw [List.getElem_map, List.getElem_map, hje, hie]; exact e)
      subst this
      exact ⟨j, rfl, hj⟩
theorem perm_of_sub {α : Type} : ∀ {R l : List α}, R.Nodup → (∀ x ∈ R, x ∈ l) → l.length ≤ R.length → R.Perm l
  | [], l, _, _, h => by
    have : l = [] := List.eq_nil_of_length_eq_zero (by simpa using h)
    rw [this]
  | a :: R, l, hn, hs, hl => by
    obtain ⟨n1, n2⟩ := List.nodup_cons.mp hn
    obtain ⟨s, t, rfl⟩ := List.append_of_mem (hs a List.mem_cons_self)
    have := perm_of_sub (R := R) (l := s ++ t) n2 (fun x hx => by
      have := hs x (List.mem_cons_of_mem _ hx)
      rw [List.mem_append, List.mem_cons] at this
      rw [List.mem_append]
      rcases this with h | h | h
      · exact .inl h
      · subst h; exact absurd hx n1
      · exact .inr h) (by simp at hl ⊢; omega)
    exact (this.cons a).trans List.perm_middle.symm
theorem srt_nodup {α : Type} {f : α → ByteArray} {l : List α} (h : l.Pairwise (fun a b => lt (f a) (f b) = true)) : l.Nodup := by
  refine h.imp (fun {a b} hab e => ?_)
  subst e
  rw [lt_irr] at hab
  cases hab
def scnB (t : Tb) (c : Nat) : List (List Vl) := if c = t.pk then t.rows else idxR t.pk c t.rows
theorem scnB_perm {t : Tb} (h : TbOk t) (c : Nat) : (scnB t c).Perm t.rows := by
  unfold scnB
  split
  · exact List.Perm.refl _
  · exact perm_of_sub (srt_nodup (idxR_srt _ _ _)) (fun x hx => idxR_sub hx) (by rw [idxR_len_eq h.srt]; omega)
theorem RowOk.kc {t : Tb} (h : TbOk t) {c : Nat} {x : Cl} (hx : t.cols[c]? = some x) {r : List Vl} (hr : r ∈ t.rows) : (kyR c r).fit ∧ (kyR c r).str = x.2 := by
  exact ⟨(row_col h hr hx).1, (row_col h hr hx).2.1⟩
theorem scnB_ord {t : Tb} (h : TbOk t) {c : Nat} (hc : c < t.cols.length) : (scnB t c).Pairwise (fun a b => a ∈ t.rows → b ∈ t.rows → OrdR c t.pk a b) := by
  obtain ⟨x, hx⟩ := getE (l := t.cols) (i := c) hc
  obtain ⟨y, hy⟩ := getE (l := t.cols) (i := t.pk) h.pkn
  unfold scnB
  split
  · rename_i e
    refine h.srt.imp (fun {a b} hab ha hb => ?_)
    unfold pkK at hab
    obtain ⟨a1, a2⟩ := RowOk.kc h hy ha
    obtain ⟨b1, b2⟩ := RowOk.kc h hy hb
    rw [cV_lt a1 b1 (by rw [a2, b2])] at hab
    subst e
    exact .inl (by simpa using hab)
  · refine (idxR_srt t.pk c t.rows).imp (fun {a b} hab ha hb => ?_)
    obtain ⟨a1, a2⟩ := RowOk.kc h hy ha
    obtain ⟨b1, b2⟩ := RowOk.kc h hy hb
    obtain ⟨c1, c2⟩ := RowOk.kc h hx ha
    obtain ⟨d1, d2⟩ := RowOk.kc h hx hb
    rw [idxK_lt, cV_lt a1 b1 (by rw [a2, b2]), cV_lt c1 d1 (by rw [c2, d2])] at hab
    rw [Bool.or_eq_true, Bool.and_eq_true] at hab
    rcases hab with hab | ⟨h1, h2⟩
    · exact .inl (by simpa using hab)
    · have e := cV_inj c1 d1 (by rw [c2, d2]) (by simpa using h1)
      exact .inr ⟨by rw [e]; exact vcmp_self _, by simpa using h2⟩
/-- The real side's Scan fits a ghost's table that is the database's. -/
theorem GT.scf {t t0 : Tb} (g : GT t t0) (h : TbOk t0) {c : Nat} (hc : c < t0.cols.length) (lo hi : Bnd) : ScF t c lo hi (scnL t0 c lo hi) := by
  have hs : scnL t0 c lo hi = (scnB t0 c).filter (fun r => inB lo hi (kyR c r)) := rfl
  have p : (scnB t0 c).Perm t.rows := (scnB_perm h c).trans g.rows.symm
  refine ⟨?_, fun i r hr => ?_⟩
  · rw [hs]
    exact (p.filter _).length_eq
  · have hm := List.mem_of_getElem? hr
    rw [hs] at hm
    obtain ⟨m1, m2⟩ := List.mem_filter.mp hm
    refine ⟨p.mem_iff.mp m1, m2, fun q hi0 hq => ?_⟩
    have hmq := List.mem_of_getElem? hq
    rw [hs] at hmq
    have hp : (scnL t0 c lo hi).Pairwise (fun a b => a ∈ t0.rows → b ∈ t0.rows → OrdR c t0.pk a b) := by rw [hs]; exact (scnB_ord h hc).filter _
    obtain ⟨l1, e1⟩ := List.getElem?_eq_some_iff.mp hq
    obtain ⟨l2, e2⟩ := List.getElem?_eq_some_iff.mp hr
    have := List.pairwise_iff_getElem.mp hp (i - 1) i l1 l2 (by omega)
    rw [e1, e2] at this
    rw [g.pk]
    exact this ((scnB_perm h c).mem_iff.mp (List.mem_filter.mp hmq).1) ((scnB_perm h c).mem_iff.mp m1)
theorem inB_open (v : Vl) : inB none none v = true := rfl
/-- The open Scan by the key settles the rows. -/
theorem ScF.perm {t t0 : Tb} (ok : GOk t) (h : TbOk t0) (hk : t.pk = t0.pk) (f : ScF t t.pk none none (scnL t0 t.pk none none)) : t.rows.Perm t0.rows := by
  have hs : scnL t0 t.pk none none = t0.rows := by
    unfold scnL
    rw [if_pos hk, List.filter_eq_self]
    exact fun _ _ => inB_open _
  have hf : t.rows.filter (fun r => inB none none (kyR t.pk r)) = t.rows := by
    rw [List.filter_eq_self]
    exact fun _ _ => inB_open _
  rw [hs] at f
  have f1 := f.1
  rw [hf] at f1
  exact (perm_of_sub (srt_nodup h.srt) (fun x hx => by
    obtain ⟨i, hi⟩ := List.getElem?_of_mem hx
    exact (f.2 i x hi).1) (by omega)).symm
end Go.Proofs.Qxb6500412aGreat
