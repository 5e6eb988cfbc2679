/-
  OWN WORK. QUERY's MODEL: the reader: name, lit (written by tools/gen_qm3.py).
-/
import Derived.Test.Qxb6500412aGreatQM2
namespace Go.Proofs.Qxb6500412aGreat
open Go.RowKit Go.PlainAid
set_option linter.unusedSimpArgs false
set_option linter.unusedVariables false

section
variable {w w' : World} {kr : Nat} {tv : Value} {l : List Tk} {P : Ps} {i : Nat} {bad : Bool}
/-- What the grammar sees at place i. -/
theorem seen (hP : P = (if bad = true then failP else (l.drop i, true))) : (P = failP ∧ bad = true) ∨ (bad = false ∧ P.1 = l.drop i ∧ P.2 = true) := by
  cases bad with
  | true => exact .inl ⟨hP, rfl⟩
  | false => exact .inr ⟨rfl, by rw [hP]; rfl, by rw [hP]; rfl⟩
theorem fail_next : nextP failP = failP := rfl
theorem fail_name : nameP failP = failP := rfl
theorem fail_lit : litP failP = failP := rfl
theorem name_no (hP : P = (if bad = true then failP else (l.drop i, true))) (h : ∀ s, l[i]? = some (.word s) → kwB s = true) : nameP P = failP ∧ (P.2 = true → nameV P = ⟨#[]⟩) := by
  rcases seen hP with ⟨e, _⟩ | ⟨_, e1, e2⟩
  · rw [e]; exact ⟨rfl, fun c => by cases c⟩
  · by_cases hi : i < l.length
    · obtain ⟨y, hy⟩ : ∃ y, l[i]? = some y := ⟨_, List.getElem?_eq_getElem hi⟩
      rw [dropAt hi hy] at e1
      unfold nameP nameB nameV
      rw [e1]
      cases y with
      | word s => simp [h s hy]
      | num v => exact ⟨rfl, fun _ => rfl⟩
      | str s => exact ⟨rfl, fun _ => rfl⟩
      | sign s => exact ⟨rfl, fun _ => rfl⟩
    · rw [List.drop_eq_nil_of_le (by omega)] at e1
      unfold nameP nameB nameV
      rw [e1]
      exact ⟨rfl, fun _ => rfl⟩
theorem name_yes {s : ByteArray} (hP : P = (if bad = true then failP else (l.drop i, true))) (hi : i < l.length) (hy : l[i]? = some (.word s)) (hk : kwB s = false) : nameP P = nextP P ∧ (P.2 = true → s = nameV P) := by
  rcases seen hP with ⟨e, _⟩ | ⟨_, e1, e2⟩
  · rw [e]; exact ⟨rfl, fun c => by cases c⟩
  · rw [dropAt hi hy] at e1
    unfold nameP nameB nameV
    rw [e1]
    simp [hk]
theorem lit_no (hP : P = (if bad = true then failP else (l.drop i, true))) (h : ∀ y, l[i]? = some y → (∀ v, y ≠ .num v) ∧ (∀ s, y ≠ .str s)) : litP P = failP ∧ (P.2 = true → litV P = vI 0) := by
  rcases seen hP with ⟨e, _⟩ | ⟨_, e1, e2⟩
  · rw [e]; exact ⟨rfl, fun c => by cases c⟩
  · by_cases hi : i < l.length
    · obtain ⟨y, hy⟩ : ∃ y, l[i]? = some y := ⟨_, List.getElem?_eq_getElem hi⟩
      rw [dropAt hi hy] at e1
      unfold litP litB litV
      rw [e1]
      cases y with
      | word s => exact ⟨rfl, fun _ => rfl⟩
      | num v => exact absurd rfl ((h _ hy).1 v)
      | str s => exact absurd rfl ((h _ hy).2 s)
      | sign s => exact ⟨rfl, fun _ => rfl⟩
    · rw [List.drop_eq_nil_of_le (by omega)] at e1
      unfold litP litB litV
      rw [e1]
      exact ⟨rfl, fun _ => rfl⟩
theorem lit_num {v : Int} (hP : P = (if bad = true then failP else (l.drop i, true))) (hi : i < l.length) (hy : l[i]? = some (.num v)) : litP P = nextP P ∧ (P.2 = true → vI v = litV P) := by
  rcases seen hP with ⟨e, _⟩ | ⟨_, e1, e2⟩
  · rw [e]; exact ⟨rfl, fun c => by cases c⟩
  · rw [dropAt hi hy] at e1
    unfold litP litB litV
    rw [e1]
    exact ⟨rfl, fun _ => rfl⟩
theorem lit_str {v : ByteArray} (hP : P = (if bad = true then failP else (l.drop i, true))) (hi : i < l.length) (hy : l[i]? = some (.str v)) : litP P = nextP P ∧ (P.2 = true → vS v = litV P) := by
  rcases seen hP with ⟨e, _⟩ | ⟨_, e1, e2⟩
  · rw [e]; exact ⟨rfl, fun c => by cases c⟩
  · rw [dropAt hi hy] at e1
    unfold litP litB litV
    rw [e1]
    exact ⟨rfl, fun _ => rfl⟩
/-- What name answers. -/
def QmNm (kr : Nat) (tv : Value) (l : List Tk) (P : Ps) (w : World) (e : Ending) (w' : World) : Prop := ∃ s, e = .returned (.string s) ∧ (P.2 = true → s = nameV P) ∧ MRp kr tv l (nameP P) w w'
/-- What lit answers. -/
def QmLt (kr : Nat) (tv : Value) (l : List Tk) (P : Ps) (w : World) (e : Ending) (w' : World) : Prop := ∃ v, e = .returned (vlA v) ∧ (P.2 = true → v = litV P) ∧ MRp kr tv l (litP P) w w'
theorem QmNm.no (h : MRc w kr tv l i bad) (hP : P = (if bad = true then failP else (l.drop i, true))) (hn : ∀ s, l[i]? = some (.word s) → kwB s = true) {w1 : World} (o : Only (fun _ => False) w w1) : QmNm kr tv l P w (.returned (.string ⟨#[]⟩)) (w1.setCell ⟨kr, 2, none⟩ (.bool true)) := by
  have h1 := h.keep o (fun e => e) (fun _ _ e => e)
  have h2 := name_no hP hn
  refine ⟨_, rfl, fun c => (h2.2 c).symm, ?_⟩
  rw [h2.1]
  exact ⟨h1.fail.1, (o.mono (T := fun b => b = kr) (fun _ _ e => e.elim)).trans h1.fail.2 (fun _ _ e => e)⟩
theorem QmNm.yes {s : ByteArray} (h : MRc w kr tv l i bad) (hP : P = (if bad = true then failP else (l.drop i, true))) (hi : i < l.length) (hy : l[i]? = some (.word s)) (hk : kwB s = false) {w1 w2 : World} (o : Only (fun _ => False) w w1) (o2 : Only (fun _ => False) (w1.setCell ⟨kr, 1, none⟩ (.int .i64 ((i + 1 : Nat) : Int))) w2) : QmNm kr tv l P w (.returned (.string s)) w2 := by
  have h1 := h.keep o (fun e => e) (fun _ _ e => e)
  have h2 := name_yes hP hi hy hk
  have h3 := h1.nxt hi hP
  refine ⟨_, rfl, h2.2, ?_⟩
  rw [h2.1]
  exact ⟨h3.1.quiet o2, ((o.mono (T := fun b => b = kr) (fun _ _ e => e.elim)).trans h3.2 (fun _ _ e => e)).trans (o2.mono (T := fun b => b = kr) (fun _ _ e => e.elim)) (fun _ _ e => e)⟩
set_option maxRecDepth 100000 in
set_option maxHeartbeats 8000000 in
/-- name. -/
theorem smname_any (h : MRd w kr tv l P) : Calls Tryz.prog 265 #[.pointer (some ⟨kr, 0, none⟩)] w (QmNm kr tv l P w) := by
  obtain ⟨i, bad, h1, hP⟩ := h
  have HH := hide h1
  have HP := hide hP
  have c0 : w.cell? ⟨kr, 0, none⟩ = some tv := h1.has.cell 0
  have c1 : w.cell? ⟨kr, 1, none⟩ = some (.int .i64 (i : Int)) := h1.has.cell 1
  have c2 : w.cell? ⟨kr, 2, none⟩ = some (.bool bad) := h1.has.cell 2
  have f1 := h1.has.free 1
  have f2 := h1.has.free 2
  have kl := h1.has.lt
  have CW := hide (fun (s : ByteArray) (w : World) => smkeyword_any s w)
  obtain ⟨a, cap, rfl⟩ := ownsRow_shape h1.own
  have l1 := h1.l256
  have hown := h1.own
  have hne := h1.ne
  clear h1 hP
  by_cases hi : i < l.length
  · obtain ⟨y, hy⟩ : ∃ y, l[i]? = some y := ⟨_, List.getElem?_eq_getElem hi⟩
    obtain ⟨g, rfl, d0, d1, d2⟩ := OwnT.at_ hown hy
    have gk : g ≠ kr := hne g (by simp [Value.ownBlock])
    have kg : kr ≠ g := fun e => gk e.symm
    have b1 : decide ((i : Int) < (l.length : Int)) = true := decide_eq_true (by omega)
    have b1p : (i : Int) < (l.length : Int) := by omega
    have iw : IntKind.i64.wrap ((i : Int) + 1) = ((i + 1 : Nat) : Int) := by rw [IntWalk.i64_in] <;> omega
    have iw2 : IntKind.i64.wrap (((i + 1 : Nat) : Int) - 1) = (i : Int) := by rw [IntWalk.i64_in] <;> omega
    have Hy := hide (And.intro hi hy)
    have hlen : ∃ n, l.length = n := ⟨_, rfl⟩
    obtain ⟨n, hn⟩ := hlen
    have Hn := hide hn
    rw [hn] at b1 b1p c0 HH l1 ⊢
    clear hown hne hy hn hi
    cases y with
    | word s =>
      simp only [tkK, tkT] at d0 d1
      clear d2
      cases hk : kwB s with
      | true =>
        have HE := hide (fun (w1 : World) (o : Only (fun _ => False) w w1) => QmNm.no (w1 := w1) (unhide HH) (unhide HP) (fun s' hs => by rw [(unhide Hy).2] at hs; cases hs; exact hk) o)
        clear HH HP Hn Hy
        go_enter Tryz.func265, Tryz.ntmps265
        go_upto_region 1 with fail
        go_quiet (first | (go_at_call 326; exact Calls.quiet_of_same ((unhide CW _ _).mono (fun e w' h => ⟨h.1, h.2.symm⟩))))
        go_wp2_with fail
        go_ret
        exact unhide HE _ (onlyQ _ _)
      | false =>
        have HE := hide (fun (w1 w2 : World) (o : Only (fun _ => False) w w1) (o2 : Only (fun _ => False) (w1.setCell ⟨kr, 1, none⟩ (.int .i64 ((i + 1 : Nat) : Int))) w2) => QmNm.yes (w1 := w1) (w2 := w2) (unhide HH) (unhide HP) (unhide Hy).1 (unhide Hy).2 hk o o2)
        clear HH HP Hn Hy
        go_enter Tryz.func265, Tryz.ntmps265
        go_upto_region 1 with fail
        go_quiet (first | (go_at_call 326; exact Calls.quiet_of_same ((unhide CW _ _).mono (fun e w' h => ⟨h.1, h.2.symm⟩))))
        go_upto_region 3 with fail
        go_quiet (fail)
        go_wp2_with fail
        go_ret
        exact unhide HE _ _ (onlyQ _ _) (onlyQ _ _)
    | num v =>
      simp only [tkK, tkT] at d0 d1
      clear d2
      have HE := hide (fun (w1 : World) (o : Only (fun _ => False) w w1) => QmNm.no (w1 := w1) (unhide HH) (unhide HP) (fun s' hs => by rw [(unhide Hy).2] at hs; cases hs) o)
      clear HH HP Hn Hy
      go_enter Tryz.func265, Tryz.ntmps265
      go_upto_region 1 with fail
      go_quiet (first | (go_at_call 326; exact Calls.quiet_of_same ((unhide CW _ _).mono (fun e w' h => ⟨h.1, h.2.symm⟩))))
      go_wp2_with fail
      go_ret
      exact unhide HE _ (onlyQ _ _)
    | str s =>
      simp only [tkK, tkT] at d0 d1
      clear d2
      have HE := hide (fun (w1 : World) (o : Only (fun _ => False) w w1) => QmNm.no (w1 := w1) (unhide HH) (unhide HP) (fun s' hs => by rw [(unhide Hy).2] at hs; cases hs) o)
      clear HH HP Hn Hy
      go_enter Tryz.func265, Tryz.ntmps265
      go_upto_region 1 with fail
      go_quiet (first | (go_at_call 326; exact Calls.quiet_of_same ((unhide CW _ _).mono (fun e w' h => ⟨h.1, h.2.symm⟩))))
      go_wp2_with fail
      go_ret
      exact unhide HE _ (onlyQ _ _)
    | sign s =>
      simp only [tkK, tkT] at d0 d1
      clear d2
      have HE := hide (fun (w1 : World) (o : Only (fun _ => False) w w1) => QmNm.no (w1 := w1) (unhide HH) (unhide HP) (fun s' hs => by rw [(unhide Hy).2] at hs; cases hs) o)
      clear HH HP Hn Hy
      go_enter Tryz.func265, Tryz.ntmps265
      go_upto_region 1 with fail
      go_quiet (first | (go_at_call 326; exact Calls.quiet_of_same ((unhide CW _ _).mono (fun e w' h => ⟨h.1, h.2.symm⟩))))
      go_wp2_with fail
      go_ret
      exact unhide HE _ (onlyQ _ _)
  · have b1 : decide ((i : Int) < (l.length : Int)) = false := decide_eq_false (by omega)
    have b1p : ¬ (i : Int) < (l.length : Int) := by omega
    have HE := hide (fun (w1 : World) (o : Only (fun _ => False) w w1) => QmNm.no (w1 := w1) (unhide HH) (unhide HP) (fun s' hs => by rw [List.getElem?_eq_none (by omega)] at hs; cases hs) o)
    clear HH HP hown hne hi
    generalize l.length = n at *
    go_enter Tryz.func265, Tryz.ntmps265
    go_upto_region 1 with fail
    go_quiet (first | (go_at_call 326; exact Calls.quiet_of_same ((unhide CW _ _).mono (fun e w' h => ⟨h.1, h.2.symm⟩))))
    go_wp2_with fail
    go_ret
    exact unhide HE _ (onlyQ _ _)
end
end Go.Proofs.Qxb6500412aGreat
