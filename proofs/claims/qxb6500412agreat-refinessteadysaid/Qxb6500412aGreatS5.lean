/-
  OWN WORK. QUERY: the parser: eat, want, name, lit, the comparison.
-/
import Derived.Test.Qxb6500412aGreatS4
namespace Go.Proofs.Qxb6500412aGreat
open Go.RowKit Go.PlainAid
set_option linter.unusedSimpArgs false
set_option linter.unusedVariables false

abbrev Ps := List Tk × Bool
def failP : Ps := ([], false)
def nextP (P : Ps) : Ps := (P.1.tail, P.2)
def eatB (w0 : ByteArray) (P : Ps) : Bool := match P.1 with
  | .word s :: _ => kwB s && decide (s = w0)
  | .sign s :: _ => decide (s = w0)
  | _ => false
def eatP (w0 : ByteArray) (P : Ps) : Ps := if eatB w0 P = true then nextP P else P
def wantP (w0 : ByteArray) (P : Ps) : Ps := if eatB w0 P = true then nextP P else failP
def nameB (P : Ps) : Bool := match P.1 with
  | .word s :: _ => !kwB s
  | _ => false
def nameV (P : Ps) : ByteArray := match P.1 with
  | .word s :: _ => if kwB s = true then ⟨#[]⟩ else s
  | _ => ⟨#[]⟩
def nameP (P : Ps) : Ps := if nameB P = true then nextP P else failP
def litB (P : Ps) : Bool := match P.1 with
  | .num _ :: _ => true
  | .str _ :: _ => true
  | _ => false
def litV (P : Ps) : Vl := match P.1 with
  | .num v :: _ => vI v
  | .str s :: _ => vS s
  | _ => vI 0
def litP (P : Ps) : Ps := if litB P = true then nextP P else failP
/-- The comparison that a sign is. -/
def opS (s : ByteArray) : Int := if s = ⟨#[60]⟩ then 1 else if s = ⟨#[61]⟩ then 2 else if s = ⟨#[60, 61]⟩ then 3 else if s = ⟨#[62]⟩ then 4 else if s = ⟨#[33, 61]⟩ then 5 else if s = ⟨#[62, 61]⟩ then 6 else 0
def opV (P : Ps) : Int := match P.1 with
  | .sign s :: _ => opS s
  | _ => 0
/-- What the token ahead is, by its kind. -/
theorem TkR.cases_ {t : ByteArray} {P : Ps} {k : Int} {s : ByteArray} {v e : Int} (h : TkR t P k s v e) :
    (P = ([], true) ∧ k = 0 ∧ s = ⟨#[]⟩ ∧ v = 0) ∨ (P = ([], false) ∧ k = 1 ∧ s = ⟨#[]⟩ ∧ v = 0) ∨ (∃ l b, P = (.word s :: l, b) ∧ kwB s = true ∧ k = 3 ∧ v = 0) ∨ (∃ l b, P = (.word s :: l, b) ∧ kwB s = false ∧ k = 2 ∧ v = 0) ∨ (∃ l b, P = (.num v :: l, b) ∧ k = 4 ∧ s = ⟨#[]⟩) ∨ (∃ l b, P = (.str s :: l, b) ∧ k = 5 ∧ v = 0) ∨ (∃ l b, P = (.sign s :: l, b) ∧ k = 6 ∧ v = 0) := by
  obtain ⟨l, b⟩ := P
  cases l with
  | nil =>
    cases b with
    | true => exact .inl ⟨rfl, h⟩
    | false => exact .inr (.inl ⟨rfl, h⟩)
  | cons x l =>
    obtain ⟨n, h1, _, _⟩ := h
    cases x with
    | word s' =>
      simp [tokC, tkV] at h1
      obtain ⟨h1, h2, h3, _⟩ := h1
      subst h2 h3
      cases c : kwB s with
      | true =>
        rw [c] at h1
        exact .inr (.inr (.inl ⟨l, b, rfl, rfl, by simpa using h1, rfl⟩))
      | false =>
        rw [c] at h1
        exact .inr (.inr (.inr (.inl ⟨l, b, rfl, rfl, by simpa using h1, rfl⟩)))
    | num v' =>
      simp [tokC, tkV] at h1
      obtain ⟨h1, h2, h3, _⟩ := h1
      subst h3
      exact .inr (.inr (.inr (.inr (.inl ⟨l, b, rfl, h1, h2⟩))))
    | str s' =>
      simp [tokC, tkV] at h1
      obtain ⟨h1, h2, h3, _⟩ := h1
      subst h2
      exact .inr (.inr (.inr (.inr (.inr (.inl ⟨l, b, rfl, h1, h3⟩)))))
    | sign s' =>
      simp [tokC, tkV] at h1
      obtain ⟨h1, h2, h3, _⟩ := h1
      subst h2
      exact .inr (.inr (.inr (.inr (.inr (.inr ⟨l, b, rfl, h1, h3⟩)))))
section
variable {w w' : World} {kp : Nat} {t : ByteArray} {P : Ps}
theorem PaP.same (h : PS w kp t P) : PaP kp t P w w := ⟨h, Only.refl _ _⟩
theorem eat_f {w0 : ByteArray} (h : eatB w0 P = false) : eatP w0 P = P := by unfold eatP; rw [h]; rfl
set_option maxRecDepth 100000 in
set_option maxHeartbeats 4000000 in
theorem sqeat_any (ht : t.size ≤ 256) (h : PS w kp t P) (w0 : ByteArray) : Calls Tryz.prog 215 #[.pointer (some ⟨kp, 0, none⟩), .string w0] w fun e w' => e = .returned (.bool (eatB w0 P)) ∧ PaP kp t (eatP w0 P) w w' := by
  have hP := h
  obtain ⟨k, s, v, e, h1, h2⟩ := h
  have c1 : w.cell? ⟨kp, 1, none⟩ = some (.int .i64 k) := h1.cell 1
  have c2 : w.cell? ⟨kp, 2, none⟩ = some (.string s) := h1.cell 2
  have kl := h1.lt
  have HP := hide hP
  have HR := hide h2
  clear h1 hP
  obtain ⟨bs, hbs⟩ : ∃ b, decide (s = w0) = b := ⟨_, rfl⟩
  have e1 : (s.toList == w0.toList) = bs := by
    cases bs with
    | true => exact seq_t (of_decide_eq_true hbs)
    | false => exact seq_f (of_decide_eq_false hbs)
  have no : eatB w0 P = false → ∀ (e : Ending) (w' : World), e = .returned (.bool false) → w' = w → (e = .returned (.bool (eatB w0 P)) ∧ PaP kp t (eatP w0 P) w w') := fun hb e w' h1 h2 => by
    subst h1 h2
    rw [hb, eat_f hb]
    exact ⟨rfl, PaP.same (unhide HP)⟩
  have yes : ∀ (x : Tk) (l : List Tk) (b : Bool), P = (x :: l, b) → eatB w0 P = true → Calls Tryz.prog 159 #[.pointer (some ⟨kp, 0, none⟩)] w fun e w' => e = .returned (.tuple #[]) ∧ ((Ending.returned (.bool true) = .returned (.bool (eatB w0 P))) ∧ PaP kp t (eatP w0 P) w w') := fun x l b hx hb => by
    have h3 := unhide HP
    rw [hx] at h3
    refine (sqstep_any ht h3).mono ?_
    rintro e w1 ⟨h4, h5⟩
    refine ⟨h4, by rw [hb], ?_⟩
    unfold eatP
    rw [if_pos hb, hx]
    exact h5
  have HNo := hide no
  have HYes := hide yes
  clear no yes
  rcases h2.cases_ with ⟨hp, rfl, hs, _⟩ | ⟨hp, rfl, hs, _⟩ | ⟨l, b, hp, hk, rfl, _⟩ | ⟨l, b, hp, hk, rfl, _⟩ | ⟨l, b, hp, rfl, hs⟩ | ⟨l, b, hp, rfl, _⟩ | ⟨l, b, hp, rfl, _⟩
  case inr.inr.inl =>
    cases bs with
    | true =>
      have C := hide (unhide HYes _ l b hp (by rw [hp]; show (kwB s && decide (s = w0)) = true; rw [hk, hbs]; rfl))
      clear h2 hbs hp hk
      go_enter Tryz.func215, Tryz.ntmps215
      go_wp2_with fail
      refine (unhide C).mono ?_
      rintro e w1 ⟨rfl, hh⟩
      have FF := hide hh
      clear hh C
      go_wp2_with fail
      go_ret
      exact unhide FF
    | false =>
      have FF := hide (unhide HNo (by rw [hp]; show (kwB s && decide (s = w0)) = false; rw [hk, hbs]; rfl) (.returned (.bool false)) w rfl rfl)
      clear h2 hbs hp hk
      go_enter Tryz.func215, Tryz.ntmps215
      go_wp2_with fail
      go_ret
      exact unhide FF
  case inr.inr.inr.inr.inr.inr =>
    cases bs with
    | true =>
      have C := hide (unhide HYes _ l b hp (by rw [hp]; exact hbs))
      clear h2 hbs hp
      go_enter Tryz.func215, Tryz.ntmps215
      go_wp2_with fail
      refine (unhide C).mono ?_
      rintro e w1 ⟨rfl, hh⟩
      have FF := hide hh
      clear hh C
      go_wp2_with fail
      go_ret
      exact unhide FF
    | false =>
      have FF := hide (unhide HNo (by rw [hp]; exact hbs) (.returned (.bool false)) w rfl rfl)
      clear h2 hbs hp
      go_enter Tryz.func215, Tryz.ntmps215
      go_wp2_with fail
      go_ret
      exact unhide FF
  case inr.inr.inr.inl =>
    have FF := hide (unhide HNo (by rw [hp]; show (kwB s && decide (s = w0)) = false; rw [hk]; rfl) (.returned (.bool false)) w rfl rfl)
    clear h2 hbs hp hk
    go_enter Tryz.func215, Tryz.ntmps215
    go_wp2_with fail
    go_ret
    exact unhide FF
  all_goals
    have FF := hide (unhide HNo (by rw [hp]; rfl) (.returned (.bool false)) w rfl rfl)
    clear h2 hbs hp
    try clear hs
    go_enter Tryz.func215, Tryz.ntmps215
    go_wp2_with fail
    go_ret
    exact unhide FF
set_option maxRecDepth 100000 in
theorem sqwant_any (ht : t.size ≤ 256) (h : PS w kp t P) (w0 : ByteArray) : Calls Tryz.prog 219 #[.pointer (some ⟨kp, 0, none⟩), .string w0] w fun e w' => e = .returned (.tuple #[]) ∧ PaP kp t (wantP w0 P) w w' := by
  have C1 := hide (sqeat_any ht h w0)
  clear h
  obtain ⟨b, hb⟩ : ∃ b, eatB w0 P = b := ⟨_, rfl⟩
  rw [hb] at C1
  go_enter Tryz.func219, Tryz.ntmps219
  go_wp2_with fail
  refine (unhide C1).mono ?_
  rintro e w1 ⟨rfl, hh⟩
  clear C1
  cases b with
  | true =>
    have FF := hide (show PaP kp t (wantP w0 P) w w1 by unfold wantP; rw [if_pos hb]; unfold eatP at hh; rw [if_pos hb] at hh; exact hh)
    clear hh hb
    go_wp2_with fail
    go_end0
    exact ⟨rfl, unhide FF⟩
  | false =>
    have C2 := hide (sqfail_any hh.1)
    have HH := hide hh.2
    have Hb := hide hb
    clear hh hb
    go_wp2_with fail
    refine (unhide C2).mono ?_
    rintro e w2 ⟨rfl, h3⟩
    have FF := hide (show PaP kp t (wantP w0 P) w w2 by unfold wantP; rw [unhide Hb, if_neg (by decide : ¬ (false = true))]; exact ⟨h3.1, (unhide HH).trans h3.2 (fun _ _ e => e)⟩)
    clear C2 h3
    go_wp2_with fail
    go_end0
    exact ⟨rfl, unhide FF⟩
set_option maxRecDepth 100000 in
set_option maxHeartbeats 4000000 in
theorem sqname_any (ht : t.size ≤ 256) (h : PS w kp t P) : Calls Tryz.prog 220 #[.pointer (some ⟨kp, 0, none⟩)] w fun e w' => e = .returned (.string (nameV P)) ∧ PaP kp t (nameP P) w w' := by
  have hP := h
  obtain ⟨k, s, v, e, h1, h2⟩ := h
  have c1 : w.cell? ⟨kp, 1, none⟩ = some (.int .i64 k) := h1.cell 1
  have c2 : w.cell? ⟨kp, 2, none⟩ = some (.string s) := h1.cell 2
  have kl := h1.lt
  have HP := hide hP
  clear h1 hP
  rcases h2.cases_ with ⟨hp, rfl, hs, _⟩ | ⟨hp, rfl, hs, _⟩ | ⟨l, b, hp, hk, rfl, _⟩ | ⟨l, b, hp, hk, rfl, _⟩ | ⟨l, b, hp, rfl, hs⟩ | ⟨l, b, hp, rfl, _⟩ | ⟨l, b, hp, rfl, _⟩
  case inr.inr.inr.inl =>
    have h3 := unhide HP
    rw [hp] at h3
    have C := hide (sqstep_any ht h3)
    have HV := hide (show nameV P = s ∧ nameP P = (l, b) by rw [hp]; constructor; (show (if kwB s = true then _ else _) = _; rw [hk]; rfl); (show (if (!kwB s) = true then _ else _) = _; rw [hk]; rfl))
    rw [(unhide HV).1, (unhide HV).2]
    clear h2 hp h3 hk
    go_enter Tryz.func220, Tryz.ntmps220
    go_wp2_with fail
    refine (unhide C).mono ?_
    rintro e w1 ⟨rfl, hh⟩
    have FF := hide hh
    clear hh C
    go_wp2_with fail
    go_ret
    exact ⟨rfl, unhide FF⟩
  all_goals
    have HV : nameV P = ⟨#[]⟩ ∧ nameP P = failP := by
      rw [hp]
      first
        | exact ⟨rfl, rfl⟩
        | (constructor; (show (if kwB s = true then _ else _) = _; rw [hk]; rfl); (show (if (!kwB s) = true then _ else _) = _; rw [hk]; rfl))
    rw [HV.1, HV.2]
    have C := hide (sqfail_any (unhide HP))
    clear h2 hp HV
    try clear hs
    try clear hk
    go_enter Tryz.func220, Tryz.ntmps220
    go_wp2_with fail
    refine (unhide C).mono ?_
    rintro e w1 ⟨rfl, hh⟩
    have FF := hide hh
    clear hh C
    go_wp2_with fail
    go_ret
    exact ⟨rfl, unhide FF⟩
end
end Go.Proofs.Qxb6500412aGreat
