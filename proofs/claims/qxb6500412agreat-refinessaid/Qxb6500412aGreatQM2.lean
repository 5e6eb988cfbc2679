/-
  OWN WORK. QUERY's MODEL: the reader in memory; is, eat, want, holdsSign.
-/
import Derived.Test.Qxb6500412aGreatQM0
import Derived.BigQuiet
namespace Go.Proofs.Qxb6500412aGreat
open Go.RowKit Go.PlainAid
set_option linter.unusedSimpArgs false
set_option linter.unusedVariables false

/-- A word opens with a letter. -/
def wdOk : Tk → Prop
  | .word s => letC (byteAt s 0) = true
  | _ => True
theorem byteAt_cut (t : ByteArray) (i j : Nat) (h1 : i < j) (h2 : j ≤ t.size) : byteAt (t.extract i j) 0 = byteAt t i := by
  rw [byteAt_get _ 0 (by rw [ByteArray.size_extract]; omega), byteAt_get t i (by omega)]
  rw [ByteArray.getElem_extract]
  simp
theorem tokA_wd {t : ByteArray} {i : Nat} (hi : i < t.size) {x : Tk × Nat} (h : tokA t i = some x) : wdOk x.1 := by
  unfold tokA at h
  split at h
  · next hl =>
    cases h
    have hr := run_spec (p := wrdC) (t := t) (i := i + 1) (by omega)
    show letC (byteAt (t.extract i (run wrdC t (i + 1))) 0) = true
    rw [byteAt_cut _ _ _ (by omega) hr.2.1]
    exact hl
  · split at h
    · unfold numA at h
      split at h
      · split at h
        · cases h; trivial
        · cases h
      · split at h
        · cases h; trivial
        · cases h
    · split at h
      · split at h
        · cases h; trivial
        · cases h
      · split at h
        · cases h; trivial
        · split at h
          · cases h; trivial
          · cases h
theorem lexF_wd (t : ByteArray) : ∀ f i, ∀ x ∈ (lexF t f i).1, wdOk x
  | 0, _, x, h => by cases h
  | f + 1, i, x, h => by
    unfold lexF at h
    split at h
    · next hs =>
      cases hx : tokA t (run blkC t i) with
      | none => rw [hx] at h; cases h
      | some y =>
        rw [hx] at h
        rcases List.mem_cons.1 h with e | e
        · rw [e]; exact tokA_wd hs hx
        · exact lexF_wd t f _ x e
    · cases h
theorem toks_wd (t : ByteArray) (i : Nat) : ∀ x ∈ (toks t i).1, wdOk x := lexF_wd t _ i
/-- A text that eat and want are asked for. -/
def xOk (x : ByteArray) : Prop := kwB x = true ∨ letC (byteAt x 0) = false
/-- What is answers at a token. -/
def isT (x : ByteArray) : Option Tk → Bool
  | some (.word s) => decide (s = x)
  | some (.sign s) => decide (s = x)
  | _ => false
def isB (b : Bool) : Tk → Bool
  | .word _ => b
  | .sign _ => b
  | _ => false
/-- The reader. -/
structure MRc (w : World) (kr : Nat) (tv : Value) (l : List Tk) (i : Nat) (bad : Bool) : Prop where
  has : Has w kr #[tv, .int .i64 (i : Int), .bool bad] 325
  own : OwnT 329 w tv l
  le : i ≤ l.length
  l256 : l.length ≤ 256
  wd : ∀ x ∈ l, wdOk x
/-- The reader stands where the grammar stands. -/
def MRd (w : World) (kr : Nat) (tv : Value) (l : List Tk) (P : Ps) : Prop := ∃ (i : Nat) (bad : Bool), MRc w kr tv l i bad ∧ P = (if bad = true then failP else (l.drop i, true))
/-- What a reader's method leaves. -/
def MRp (kr : Nat) (tv : Value) (l : List Tk) (P : Ps) (w w' : World) : Prop := MRd w' kr tv l P ∧ Only (fun b => b = kr) w w'
section
variable {w w' : World} {kr : Nat} {tv : Value} {l : List Tk} {P : Ps} {i : Nat} {bad : Bool}
theorem MRc.ne (h : MRc w kr tv l i bad) : ∀ b, tv.ownBlock = some b → b ≠ kr := fun b hb => ownsRow_ne h.own h.has (by decide) b hb
theorem MRc.keep {B : Nat → Prop} (h : MRc w kr tv l i bad) (ho : Only B w w') (h1 : ¬ B kr) (h2 : ∀ b, tv.ownBlock = some b → ¬ B b) : MRc w' kr tv l i bad := ⟨h.has.keep ho h1, h.own.keep ho h2, h.le, h.l256, h.wd⟩
theorem MRd.keep {B : Nat → Prop} (h : MRd w kr tv l P) (ho : Only B w w') (h1 : ¬ B kr) (h2 : ∀ b, tv.ownBlock = some b → ¬ B b) : MRd w' kr tv l P := by
  obtain ⟨i, bad, h3, h4⟩ := h
  exact ⟨i, bad, h3.keep ho h1 h2, h4⟩
theorem MRd.quiet (h : MRd w kr tv l P) (ho : Only (fun _ => False) w w') : MRd w' kr tv l P := h.keep ho (fun e => e) (fun _ _ e => e)
theorem MRd.same (h : MRd w kr tv l P) : MRp kr tv l P w w := ⟨h, Only.refl _ _⟩
theorem MRd.lt (h : MRd w kr tv l P) : kr < w.heap.size := by
  obtain ⟨i, bad, h3, h4⟩ := h
  exact h3.has.lt
/-- One token on. -/
theorem MRc.on (h : MRc w kr tv l i bad) (hi : i < l.length) : MRc (w.setCell ⟨kr, 1, none⟩ (.int .i64 ((i + 1 : Nat) : Int))) kr tv l (i + 1) bad :=
  ⟨h.has.setCell 1 _, h.own.keep (only1 (p := kr) 1 _) (fun b hb e => h.ne b hb e), hi, h.l256, h.wd⟩
theorem MRc.nxt (h : MRc w kr tv l i bad) (hi : i < l.length) (hP : P = (if bad = true then failP else (l.drop i, true))) : MRp kr tv l (nextP P) w (w.setCell ⟨kr, 1, none⟩ (.int .i64 ((i + 1 : Nat) : Int))) := by
  refine ⟨⟨i + 1, bad, h.on hi, ?_⟩, only1 (p := kr) 1 _⟩
  rw [hP]
  cases bad with
  | true => rfl
  | false =>
    show ((l.drop i).tail, true) = (l.drop (i + 1), true)
    rw [List.tail_drop]
theorem MRc.fail (h : MRc w kr tv l i bad) : MRp kr tv l failP w (w.setCell ⟨kr, 2, none⟩ (.bool true)) :=
  ⟨⟨i, true, ⟨h.has.setCell 2 _, h.own.keep (only1 (p := kr) 2 _) (fun b hb e => h.ne b hb e), h.le, h.l256, h.wd⟩, rfl⟩, only1 (p := kr) 2 _⟩
theorem MRp.tail (h : MRp kr tv l P w w') {w'' : World} {P' : Ps} (h2 : MRp kr tv l P' w' w'') : MRp kr tv l P' w w'' := ⟨h2.1, h.2.trans h2.2 (fun _ _ e => e)⟩
theorem dropAt (hi : i < l.length) {x : Tk} (hx : l[i]? = some x) : l.drop i = x :: l.drop (i + 1) := by
  rw [List.getElem?_eq_getElem hi] at hx
  cases hx
  exact List.drop_eq_getElem_cons hi
theorem eat_is {x : ByteArray} (h : MRc w kr tv l i bad) (hx : xOk x) (hP : P = (if bad = true then failP else (l.drop i, true))) (h2 : P.2 = true) : isT x l[i]? = eatB x P := by
  cases bad with
  | true => rw [hP] at h2; cases h2
  | false =>
    rw [if_neg (by decide)] at hP
    subst hP
    by_cases hi : i < l.length
    · obtain ⟨y, hy⟩ : ∃ y, l[i]? = some y := ⟨_, List.getElem?_eq_getElem hi⟩
      have hm := h.wd y (List.mem_of_getElem? hy)
      rw [hy]
      unfold eatB
      rw [dropAt hi hy]
      cases y with
      | word s =>
        show decide (s = x) = (kwB s && decide (s = x))
        by_cases e : s = x
        · rcases hx with c | c
          · rw [e, c]; simp
          · rw [← e] at c; rw [show letC (byteAt s 0) = true from hm] at c; cases c
        · rw [decide_eq_false e]; simp
      | sign s => rfl
      | num v => rfl
      | str s => rfl
    · rw [List.getElem?_eq_none (by omega)]
      unfold eatB
      rw [List.drop_eq_nil_of_le (by omega)]
      rfl
set_option maxRecDepth 100000 in
set_option maxHeartbeats 4000000 in
theorem smis_c (h : MRc w kr tv l i bad) (x : ByteArray) : Calls Tryz.prog 325 #[.pointer (some ⟨kr, 0, none⟩), .string x] w fun e w' => e = .returned (.bool (isT x l[i]?)) ∧ Only (fun _ => False) w w' := by
  have c0 : w.cell? ⟨kr, 0, none⟩ = some tv := h.has.cell 0
  have c1 : w.cell? ⟨kr, 1, none⟩ = some (.int .i64 (i : Int)) := h.has.cell 1
  have kl := h.has.lt
  obtain ⟨a, cap, rfl⟩ := ownsRow_shape h.own
  by_cases hi : i < l.length
  · obtain ⟨y, hy⟩ : ∃ y, l[i]? = some y := ⟨_, List.getElem?_eq_getElem hi⟩
    obtain ⟨g, rfl, d0, d1, d2⟩ := OwnT.at_ h.own hy
    rw [hy]
    have b1 : decide ((i : Int) < (l.length : Int)) = true := decide_eq_true (by omega)
    have b1p : (i : Int) < (l.length : Int) := by omega
    have l1 := h.l256
    obtain ⟨bs, hbs⟩ : ∃ b, decide (tkT y = x) = b := ⟨_, rfl⟩
    have e1 : ((tkT y).toList == x.toList) = bs := by
      cases bs with
      | true => exact seq_t (of_decide_eq_true hbs)
      | false => exact seq_f (of_decide_eq_false hbs)
    have HE := hide (show isT x (some y) = isB bs y by cases y <;> first | exact hbs | rfl)
    generalize l.length = n at *
    clear h hy hbs
    cases y with
    | word s =>
      simp only [tkK, tkT] at d0 d1 e1
      clear d2
      go_enter Tryz.func325, Tryz.ntmps325
      go_upto_region 1 with fail
      go_quiet (fail)
      go_wp2_with fail
      go_ret
      exact ⟨by rw [unhide HE]; rfl, onlyQ _ _⟩
    | sign s =>
      simp only [tkK, tkT] at d0 d1 e1
      clear d2
      go_enter Tryz.func325, Tryz.ntmps325
      go_upto_region 1 with fail
      go_quiet (fail)
      go_wp2_with fail
      go_ret
      exact ⟨by rw [unhide HE]; rfl, onlyQ _ _⟩
    | num v =>
      simp only [tkK, tkT] at d0 d1 e1
      clear d2
      go_enter Tryz.func325, Tryz.ntmps325
      go_upto_region 1 with fail
      go_quiet (fail)
      go_wp2_with fail
      go_ret
      exact ⟨by rw [unhide HE]; rfl, onlyQ _ _⟩
    | str s =>
      simp only [tkK, tkT] at d0 d1 e1
      clear d2
      go_enter Tryz.func325, Tryz.ntmps325
      go_upto_region 1 with fail
      go_quiet (fail)
      go_wp2_with fail
      go_ret
      exact ⟨by rw [unhide HE]; rfl, onlyQ _ _⟩
  · have b1 : decide ((i : Int) < (l.length : Int)) = false := decide_eq_false (by omega)
    have b1p : ¬ (i : Int) < (l.length : Int) := by omega
    rw [List.getElem?_eq_none (by omega)]
    clear h hi
    generalize l.length = n at *
    go_enter Tryz.func325, Tryz.ntmps325
    go_upto_region 1 with fail
    go_quiet (fail)
    go_wp2_with fail
    go_ret
    exact ⟨rfl, onlyQ _ _⟩
set_option maxRecDepth 100000 in
set_option maxHeartbeats 4000000 in
/-- eat. -/
theorem smeat_any (h : MRd w kr tv l P) (x : ByteArray) (hx : xOk x) : Calls Tryz.prog 264 #[.pointer (some ⟨kr, 0, none⟩), .string x] w fun e w' => ∃ b, e = .returned (.bool b) ∧ (P.2 = true → b = eatB x P) ∧ (b = true → MRp kr tv l (nextP P) w w') ∧ (b = false → MRp kr tv l P w w') := by
  obtain ⟨i, bad, h1, h2⟩ := h
  have C := smis_c h1 x
  obtain ⟨b, hb⟩ : ∃ b, isT x l[i]? = b := ⟨_, rfl⟩
  rw [hb] at C
  have C := hide C
  have HB := hide (show P.2 = true → b = eatB x P from fun c => by rw [← hb]; exact eat_is h1 hx h2 c)
  have hin : b = true → i < l.length := fun e => by
    rw [← hb] at e
    rcases Nat.lt_or_ge i l.length with c | c
    · exact c
    · rw [List.getElem?_eq_none c] at e; cases e
  have HH := hide (And.intro h1 h2)
  have l1 := h1.l256
  have l2 := h1.le
  clear h1 h2 hb
  go_enter Tryz.func264, Tryz.ntmps264
  go_wp2_with fail
  refine (unhide C).mono ?_
  rintro e w1 ⟨rfl, o1⟩
  have hc := (unhide HH).1.keep o1 (fun e => e) (fun _ _ e => e)
  have c1 : w1.cell? ⟨kr, 1, none⟩ = some (.int .i64 (i : Int)) := hc.has.cell 1
  have f1 := hc.has.free 1
  have kl := hc.has.lt
  clear C
  cases b with
  | true =>
    have hi := hin rfl
    have iw : IntKind.i64.wrap ((i : Int) + 1) = ((i + 1 : Nat) : Int) := by rw [IntWalk.i64_in] <;> omega
    have HF := hide (show MRp kr tv l (nextP P) w (w1.setCell ⟨kr, 1, none⟩ (.int .i64 ((i + 1 : Nat) : Int))) from ⟨(hc.nxt hi (unhide HH).2).1, (o1.mono (T := fun b => b = kr) (fun _ _ e => e.elim)).trans (hc.nxt hi (unhide HH).2).2 (fun _ _ e => e)⟩)
    clear hc o1 hin hi
    go_wp2_with fail
    go_ret
    exact ⟨true, rfl, unhide HB, fun _ => unhide HF, (fun c => by cases c)⟩
  | false =>
    have HF := hide (show MRp kr tv l P w w1 from ⟨⟨i, bad, hc, (unhide HH).2⟩, o1.mono (fun _ _ e => e.elim)⟩)
    clear hc o1 hin
    go_wp2_with fail
    go_ret
    exact ⟨false, rfl, unhide HB, (fun c => by cases c), fun _ => unhide HF⟩
theorem MRp.eat {x : ByteArray} {b : Bool} (h0 : MRd w kr tv l P) (h1 : P.2 = true → b = eatB x P) (h2 : b = true → MRp kr tv l (nextP P) w w') (h3 : b = false → MRp kr tv l P w w') : MRp kr tv l (eatP x P) w w' := by
  cases hp : P.2 with
  | true =>
    unfold eatP
    rw [← h1 hp]
    cases b with
    | true => exact h2 rfl
    | false => exact h3 rfl
  | false =>
    obtain ⟨i, bad, h4, h5⟩ := h0
    cases bad with
    | false => rw [h5] at hp; cases hp
    | true =>
      have e : P = failP := h5
      subst e
      have e2 : eatP x failP = failP := by unfold eatP; split <;> rfl
      rw [e2]
      cases b with
      | true => exact h2 rfl
      | false => exact h3 rfl
set_option maxRecDepth 100000 in
set_option maxHeartbeats 4000000 in
/-- want. -/
theorem smwant_any (h : MRd w kr tv l P) (x : ByteArray) (hx : xOk x) : Calls Tryz.prog 266 #[.pointer (some ⟨kr, 0, none⟩), .string x] w fun e w' => e = .returned (.tuple #[]) ∧ MRp kr tv l (wantP x P) w w' := by
  have C := hide (smeat_any h x hx)
  have HW := hide (show ∀ (b : Bool) (w1 : World), (P.2 = true → b = eatB x P) → (b = true → MRp kr tv l (nextP P) w w1) → (b = false → MRp kr tv l P w w1) → (b = true → MRp kr tv l (wantP x P) w w1) ∧ (b = false → ∃ i, MRc w1 kr tv l i false ∨ MRc w1 kr tv l i true) ∧ (b = false → wantP x P = failP ∧ Only (fun b => b = kr) w w1) from fun b w1 h1 h2 h3 => by
    have hw : (b = true ∨ P = failP) → (b = false ∨ P = failP) → True := fun _ _ => trivial
    obtain ⟨i, bad, h4, h5⟩ := h
    refine ⟨fun e => ?_, fun e => ?_, fun e => ?_⟩
    · cases bad with
      | true =>
        have e2 : P = failP := h5
        rw [e2] at h2
        rw [e2]
        have e3 : wantP x failP = failP := by unfold wantP; split <;> rfl
        rw [e3]
        exact h2 e
      | false =>
        have e2 : P.2 = true := by rw [h5]; rfl
        unfold wantP
        rw [← h1 e2, e]
        exact h2 e
    · obtain ⟨i', bad', h6, _⟩ := (h3 e).1
      cases bad' with
      | true => exact ⟨i', .inr h6⟩
      | false => exact ⟨i', .inl h6⟩
    · refine ⟨?_, (h3 e).2⟩
      cases bad with
      | true =>
        have e2 : P = failP := h5
        rw [e2]
        unfold wantP
        split <;> rfl
      | false =>
        have e2 : P.2 = true := by rw [h5]; rfl
        unfold wantP
        rw [← h1 e2, e]
        rfl)
  clear h
  go_enter Tryz.func266, Tryz.ntmps266
  go_wp2_with fail
  refine (unhide C).mono ?_
  rintro e w1 ⟨b, rfl, h1, h2, h3⟩
  have HX := hide (unhide HW b w1 h1 h2 h3)
  clear C h1 h2 h3 HW
  cases b with
  | true =>
    go_wp2_with fail
    go_end0
    exact ⟨rfl, (unhide HX).1 (by trivial)⟩
  | false =>
    obtain ⟨bad, i, hc⟩ : ∃ bad i, MRc w1 kr tv l i bad := by
      obtain ⟨i, c | c⟩ := (unhide HX).2.1 rfl
      · exact ⟨_, i, c⟩
      · exact ⟨_, i, c⟩
    have c2 : w1.cell? ⟨kr, 2, none⟩ = some (.bool bad) := hc.has.cell 2
    have f2 := hc.has.free 2
    have kl := hc.has.lt
    have HF := hide (show MRp kr tv l (wantP x P) w (w1.setCell ⟨kr, 2, none⟩ (.bool true)) from by
      obtain ⟨e1, o1⟩ := (unhide HX).2.2 rfl
      rw [e1]
      exact ⟨hc.fail.1, o1.trans hc.fail.2 (fun _ _ e => e)⟩)
    clear hc
    go_wp2_with fail
    go_end0
    exact ⟨rfl, unhide HF⟩
end
set_option maxRecDepth 100000 in
set_option maxHeartbeats 4000000 in
/-- holdsSign. -/
theorem smholdsSign_any (s : ByteArray) (w : World) : Calls Tryz.prog 327 #[.string s] w fun e w' => e = .returned (.bool (decide (opS s ≠ 0))) ∧ w = w' := by
  obtain ⟨b0, h0⟩ : ∃ b, decide (s = ⟨#[61]⟩) = b := ⟨_, rfl⟩
  obtain ⟨b1, h1⟩ : ∃ b, decide (s = ⟨#[33, 61]⟩) = b := ⟨_, rfl⟩
  obtain ⟨b2, h2⟩ : ∃ b, decide (s = ⟨#[60]⟩) = b := ⟨_, rfl⟩
  obtain ⟨b3, h3⟩ : ∃ b, decide (s = ⟨#[60, 61]⟩) = b := ⟨_, rfl⟩
  obtain ⟨b4, h4⟩ : ∃ b, decide (s = ⟨#[62]⟩) = b := ⟨_, rfl⟩
  obtain ⟨b5, h5⟩ : ∃ b, decide (s = ⟨#[62, 61]⟩) = b := ⟨_, rfl⟩
  have e0 : (s.toList == [61]) = b0 := by
    cases b0 with
    | true => exact seqL_t (of_decide_eq_true h0)
    | false => exact seqL_f (of_decide_eq_false h0)
  have e1 : (s.toList == [33, 61]) = b1 := by
    cases b1 with
    | true => exact seqL_t (of_decide_eq_true h1)
    | false => exact seqL_f (of_decide_eq_false h1)
  have e2 : (s.toList == [60]) = b2 := by
    cases b2 with
    | true => exact seqL_t (of_decide_eq_true h2)
    | false => exact seqL_f (of_decide_eq_false h2)
  have e3 : (s.toList == [60, 61]) = b3 := by
    cases b3 with
    | true => exact seqL_t (of_decide_eq_true h3)
    | false => exact seqL_f (of_decide_eq_false h3)
  have e4 : (s.toList == [62]) = b4 := by
    cases b4 with
    | true => exact seqL_t (of_decide_eq_true h4)
    | false => exact seqL_f (of_decide_eq_false h4)
  have e5 : (s.toList == [62, 61]) = b5 := by
    cases b5 with
    | true => exact seqL_t (of_decide_eq_true h5)
    | false => exact seqL_f (of_decide_eq_false h5)
  have hp : decide (opS s ≠ 0) = (b0 || b1 || b2 || b3 || b4 || b5) := by
    rw [← h0, ← h1, ← h2, ← h3, ← h4, ← h5]
    unfold opS
    by_cases c2 : s = ⟨#[60]⟩
    · rw [if_pos c2, decide_eq_true c2]; simp
    by_cases c0 : s = ⟨#[61]⟩
    · rw [if_neg c2, if_pos c0, decide_eq_true c0]; simp
    by_cases c3 : s = ⟨#[60, 61]⟩
    · rw [if_neg c2, if_neg c0, if_pos c3, decide_eq_true c3]; simp
    by_cases c4 : s = ⟨#[62]⟩
    · rw [if_neg c2, if_neg c0, if_neg c3, if_pos c4, decide_eq_true c4]; simp
    by_cases c1 : s = ⟨#[33, 61]⟩
    · rw [if_neg c2, if_neg c0, if_neg c3, if_neg c4, if_pos c1, decide_eq_true c1]; simp
    by_cases c5 : s = ⟨#[62, 61]⟩
    · rw [if_neg c2, if_neg c0, if_neg c3, if_neg c4, if_neg c1, if_pos c5, decide_eq_true c5]; simp
    rw [if_neg c2, if_neg c0, if_neg c3, if_neg c4, if_neg c1, if_neg c5, decide_eq_false c0, decide_eq_false c1, decide_eq_false c2, decide_eq_false c3, decide_eq_false c4, decide_eq_false c5]
    rfl
  rw [hp]
  clear hp h0 h1 h2 h3 h4 h5
  go_enter Tryz.func327, Tryz.ntmps327
  cases b0 with
  | true =>
    go_wp2_with fail
    go_ret
    exact ⟨by simp, rfl⟩
  | false =>
  cases b1 with
  | true =>
    go_wp2_with fail
    go_ret
    exact ⟨by simp, rfl⟩
  | false =>
  cases b2 with
  | true =>
    go_wp2_with fail
    go_ret
    exact ⟨by simp, rfl⟩
  | false =>
  cases b3 with
  | true =>
    go_wp2_with fail
    go_ret
    exact ⟨by simp, rfl⟩
  | false =>
  cases b4 with
  | true =>
    go_wp2_with fail
    go_ret
    exact ⟨by simp, rfl⟩
  | false =>
  go_wp2_with fail
  go_ret
  exact ⟨by simp, rfl⟩
end Go.Proofs.Qxb6500412aGreat
