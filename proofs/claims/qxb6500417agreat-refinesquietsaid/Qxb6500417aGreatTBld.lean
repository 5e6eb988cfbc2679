/-
  OWN WORK. THE TREE: build: what one round does, plain and in memory.
-/
import Derived.Test.Qxb6500417aGreatTAbt
namespace Go.Proofs.Qxb6500417aGreat
open Go.RowKit Go.PlainAid
set_option linter.unusedSimpArgs false
set_option linter.unusedVariables false

section
variable {w w1 w2 : World} {t s d : Nat} {D B : Nat → Nat} {recs : List Rec} {J J1 J2 : Nat → Sl} {rt : Nat} {F F1 F2 : Nat → Prop} {n1 n2 : List Rec}
theorem Wrote.trans (h1 : Wrote w w1 t s d D B recs J J1 rt F n1 F1) (h2 : Wrote w1 w2 t s d (replayB D n1) B (recs ++ n1) J1 J2 rt F1 n2 F2) : Wrote w w2 t s d D B recs J J2 rt F (n1 ++ n2) F2 := by
  have hs := h1.only.size
  refine ⟨by have := h2.ts; rw [← replayB_append, List.append_assoc] at this; exact this, h1.cuts.app (h2.cuts.congr h1.same), h2.same.trans h1.same, fun y hy => ?_, h1.only.trans h2.only (fun y hy e => ?_), ?_, fun r hr => by
    rcases List.mem_append.1 hr with e | e
    · exact h1.keys r e
    · exact h2.keys r e⟩
  · rcases h2.ext y hy with e | e
    · exact h1.ext y e
    · exact .inr (by omega)
  · rcases e with e | e | e
    · exact .inl e
    · exact .inr (.inl e)
    · rcases h1.ext y e with e | e
      · exact .inr (.inr e)
      · omega
  · have := h1.pot
    have := h2.pot
    rw [List.length_append]
    omega
/-- Blocks of one's own are written. -/
theorem Wrote.own {S : Nat → Prop} (h1 : Wrote w w1 t s d D B recs J J1 rt F n1 F1) (ho : Only S w1 w2) (hS : ∀ y, S y → y ≠ t ∧ y ≠ s ∧ ¬ F1 y ∧ w.heap.size ≤ y) : Wrote w w2 t s d D B recs J J1 rt F n1 F1 :=
  ⟨h1.ts.keep ho (fun e => (hS t e).1 rfl) (fun e => (hS s e).2.1 rfl) (fun y hy e => (hS y e).2.2.1 hy), h1.cuts, h1.same, h1.ext, h1.only.trans ho (fun y hy e => by have := (hS y e).2.2.2; omega), h1.pot, h1.keys⟩
theorem Wrote.refl (h : TS w t s d D B recs J rt F) : Wrote w w t s d D B recs J J rt F [] F := Wrote.none h h (Only.refl _ _)
theorem TS.ts_lt (h : TS w t s d D B recs J rt F) : t < w.heap.size ∧ s < w.heap.size ∧ ∀ y, F y → y < w.heap.size := by
  obtain ⟨ob, hO, hR⟩ := h.ex
  refine ⟨Has.lt h.tab, ?_, hO.dev.inn⟩
  obtain ⟨⟨_, _, _, _, _, hs', _⟩, _, _⟩ := hO
  exact Has.lt hs'
end
theorem slashI_pre (pre p : Str) : slashI (pre ++ p) pre.length = match cutS p with | none => -1 | some (a, _) => ((pre.length + a.length : Nat) : Int) := by
  unfold slashI
  rw [List.drop_left]
  cases cutS p with
  | none => rfl
  | some x => rfl
theorem sb_drop (pre p : Str) : (sb (pre ++ p)).extract pre.length (pre ++ p).length = sb p := by
  apply ls_inj
  rw [ls_cut, ls_sb, ls_sb, List.drop_left, List.take_of_length_le (by simp)]
theorem sb_mid (pre a b : Str) : (sb (pre ++ (a ++ b))).extract pre.length (pre.length + a.length) = sb a := by
  apply ls_inj
  rw [ls_cut, ls_sb, ls_sb, List.drop_left, Nat.add_sub_cancel_left, List.take_left]
theorem sb_head (a b : Str) : (sb (a ++ b)).extract 0 a.length = sb a := by
  apply ls_inj
  rw [ls_cut, ls_sb, ls_sb, List.drop_zero, Nat.sub_zero, List.take_left]
theorem preB_app (pre a b : Str) : preB (pre ++ a) (pre ++ b) = preB a b := by
  unfold preB
  congr 1
  exact propext (List.prefix_append_right_inj pre)
/-- The range at i: its first entry and the rest. -/
theorem range_head {L l : List En} {i hi : Nat} {pre : Str} {e : En} {r : List En} (h : (L.drop i).take (hi - i) = ((e :: r).map (addP pre))) (hh : hi ≤ L.length) : ∃ hl : i < L.length, i < hi ∧ L[i] = addP pre e ∧ (L.drop (i + 1)).take (hi - (i + 1)) = r.map (addP pre) := by
  have hlen := congrArg List.length h
  simp at hlen
  have hi1 : i < hi := by omega
  have hl : i < L.length := by omega
  rw [List.drop_eq_getElem_cons hl, show hi - i = (hi - (i + 1)) + 1 by omega, List.take_succ_cons, List.map_cons, List.cons.injEq] at h
  exact ⟨hl, hi1, h.1, h.2⟩
theorem range_len {L l : List En} {i hi : Nat} {pre : Str} (h : (L.drop i).take (hi - i) = l.map (addP pre)) (hh : hi ≤ L.length) (hih : i ≤ hi) : l.length = hi - i := by
  have := congrArg List.length h
  simp at this
  omega
theorem range_at {L l : List En} {i hi : Nat} {pre : Str} (h : (L.drop i).take (hi - i) = l.map (addP pre)) (hh : hi ≤ L.length) (hih : i ≤ hi) (k : Nat) (hk : k < l.length) : ∃ hl : i + k < L.length, L[i + k] = addP pre l[k] := by
  have hl := range_len h hh hih
  have h1 : ((L.drop i).take (hi - i))[k]? = some (addP pre l[k]) := by rw [h]; simp [hk]
  have hlt : i + k < L.length := by omega
  rw [List.getElem?_take_of_lt (by omega), List.getElem?_drop, List.getElem?_eq_getElem hlt] at h1
  exact ⟨hlt, by simpa using h1⟩
theorem range_split {L l g r : List En} {i hi : Nat} {pre : Str} (h : (L.drop i).take (hi - i) = l.map (addP pre)) (hl : l = g ++ r) (hh : hi ≤ L.length) (hih : i ≤ hi) : (L.drop i).take (i + g.length - i) = g.map (addP pre) ∧ (L.drop (i + g.length)).take (hi - (i + g.length)) = r.map (addP pre) := by
  have hlen := range_len h hh hih
  subst hl
  rw [List.map_append] at h
  simp only [List.length_append] at hlen
  have h1 : (L.drop i).take g.length = g.map (addP pre) := by
    have := congrArg (List.take g.length) h
    rw [List.take_take, Nat.min_eq_left (by omega), List.take_left' (by simp)] at this
    exact this
  have h2 : ((L.drop i).take (hi - i)).drop g.length = r.map (addP pre) := by
    rw [h, List.drop_left' (by simp)]
  rw [List.drop_take, List.drop_drop] at h2
  refine ⟨by rw [Nat.add_sub_cancel_left]; exact h1, ?_⟩
  rw [← h2]
  congr 1
  omega
theorem sub_range {g : List En} {a pre : Str} (h : ∀ x ∈ g, hasP a x = true) : g.map (addP pre) = (g.map (strip (a.length + 1))).map (addP (pre ++ a ++ [47])) := by
  rw [List.map_map]
  refine List.map_congr_left (fun x hx => ?_)
  show addP pre x = addP (pre ++ a ++ [47]) (strip (a.length + 1) x)
  rw [← addP_under, under_strip (h x hx)]
/-- How far the rows of one directory go. -/
theorem takeW_step {α : Type} {p : α → Bool} {l : List α} {k : Nat} (hk : k < (l.takeWhile p).length) : ∃ h : k < l.length, p l[k] = true := by
  have h1 : k < l.length := Nat.lt_of_lt_of_le hk (List.takeWhile_sublist _).length_le
  refine ⟨h1, ?_⟩
  have h2 := mem_takeW (List.getElem_mem hk)
  have h3 : (l.takeWhile p)[k] = l[k] := by
    have := (List.takeWhile_prefix p (l := l)).getElem hk
    exact this
  rw [h3] at h2
  exact h2
theorem takeW_stop {α : Type} {p : α → Bool} {l : List α} (h : (l.takeWhile p).length < l.length) : p l[(l.takeWhile p).length] = false := by
  induction l with
  | nil => simp at h
  | cons a l ih =>
    by_cases ha : p a = true
    · simp only [List.takeWhile_cons, ha, if_true] at h ⊢
      simp only [List.length_cons] at h ⊢
      simp only [List.getElem_cons_succ]
      exact ih (by omega)
    · simp only [List.takeWhile_cons, ha] at h ⊢
      simp at ha ⊢
      exact ha
end Go.Proofs.Qxb6500417aGreat
