/-
  OWN WORK. THE MODEL: Diff, Apply; Apply on both sides.
-/
import Derived.Test.Qxb6500416aDApM
namespace Go.Proofs.Qxb6500416a
open Go.RowKit Go.PlainAid
set_option linter.unusedSimpArgs false
set_option linter.unusedVariables false

theorem flat_drop (A : List Str) (a b : Nat) (h : a ≤ b) : (A.drop a).flatten.length = (cutL A a b).flatten.length + (A.drop b).flatten.length := by
  have e : A.drop a = cutL A a b ++ A.drop b := by
    unfold cutL
    have := List.take_append_drop (b - a) (A.drop a)
    rw [List.drop_drop] at this
    have e2 : a + (b - a) = b := by omega
    rw [e2] at this
    exact this.symm
  rw [e, List.flatten_append, List.length_append]
theorem applyF_bound (A : List Str) : ∀ (p : List Hk) (cur : Nat) (l : List Str), cur ≤ A.length → applyF A p cur = some l → l.length ≤ (A.length - cur) + patL p ∧ l.flatten.length ≤ (A.drop cur).flatten.length + patB p
  | [], cur, l, hc, h => by
    simp only [applyF, Option.some.injEq] at h
    subst h
    simp only [patL, patB, List.length_drop, Nat.add_zero]
    exact ⟨Nat.le_refl _, Nat.le_refl _⟩
  | k :: p, cur, l, hc, h => by
    simp only [applyF] at h
    split at h
    · rename_i hf
      split at h
      · rename_i he
        cases hr : applyF A p (k.at_.toNat + k.del.length) with
        | none => rw [hr] at h; simp at h
        | some r =>
          rw [hr] at h
          simp only [Option.map_some, Option.some.injEq] at h
          subst h
          have h1 : cur ≤ k.at_.toNat := by omega
          have h2 : k.at_.toNat + k.del.length ≤ A.length := by omega
          obtain ⟨b1, b2⟩ := applyF_bound A p _ r h2 hr
          have e1 := flat_drop A cur k.at_.toNat h1
          have e2 := flat_drop A k.at_.toNat (k.at_.toNat + k.del.length) (by omega)
          have e3 := cutL_len A cur k.at_.toNat h1 (by omega)
          simp only [List.length_append, List.flatten_append, patL, patB]
          omega
      · simp at h
    · simp at h
section
variable {w : World} {e : Nat} {v : Value} {hs : List HV} {p : List Hk} {G : Nat → Prop}
theorem dmdiff_big (mp : Value) (a b : ByteArray) (h : 1024 < a.size ∨ 1024 < b.size) (w : World) :
    Calls Try.prog 20 #[mp, .string a, .string b] w fun x w' => x = .returned (.tuple #[.slice none 0 0, .int .i64 4]) ∧ w = w' := by
  by_cases h1 : 1024 < a.size
  · have a1 : decide ((1024 : Int) < (a.size : Int)) = true := decide_eq_true (by omega)
    go_enter Try.func20, Try.ntmps20
    go_wp2_with fail
    go_ret2
    exact ⟨rfl, rfl⟩
  · have a1 : decide ((1024 : Int) < (a.size : Int)) = false := decide_eq_false (by omega)
    have a2 : decide ((1024 : Int) < (b.size : Int)) = true := decide_eq_true (by omega)
    go_enter Try.func20, Try.ntmps20
    go_wp2_with fail
    go_ret2
    exact ⟨rfl, rfl⟩
set_option maxRecDepth 100000 in
theorem dmdiff_fit (mp : Value) (a b : ByteArray) (ha : a.size ≤ 1024) (hb : b.size ≤ 1024) (w : World) :
    Calls Try.prog 20 #[mp, .string a, .string b] w fun x w' => ∃ v' hs, x = .returned (.tuple #[v', .int .i64 0]) ∧ PatO w' v' hs (diffP a b) (fun y => w.heap.size ≤ y) ∧ Only (fun _ => False) w w' := by
  have a1 : decide ((1024 : Int) < (a.size : Int)) = false := decide_eq_false (by omega)
  have a2 : decide ((1024 : Int) < (b.size : Int)) = false := decide_eq_false (by omega)
  have la := linesOf_len a
  have lb := linesOf_len b
  have C1 := hide (splitL_any a (by omega))
  have C2 := hide (splitL_any b (by omega))
  have HF : Hid (diffP a b = hkF (linesOf a) (linesOf b) (mtc (linesOf a) (linesOf b) 0) 0 0 0) := hide rfl
  generalize linesOf a = A at *
  generalize linesOf b = B at *
  generalize diffP a b = R at *
  go_enter Try.func20, Try.ntmps20
  go_wp2_with fail
  refine (unhide C1 w).mono ?_
  rintro x w1 ⟨va, rfl, oA, fA, o1⟩
  go_wp2_with fail
  refine (unhide C2 w1).mono ?_
  rintro x w2 ⟨vb, rfl, oB, fB, o2⟩
  have C3 := hide (diffLines_any va vb A B (oA.keep o2 (fun _ _ h => h)).in_ oB.in_ (by omega) (by omega))
  rw [← unhide HF] at C3
  have o12 := o1.trans o2 (fun _ _ h => h)
  have s1 := o1.size
  have s2 := o2.size
  have O12 := hide o12
  clear oA oB fA fB o1 o2 o12
  go_wp2_with fail
  refine (unhide C3).mono ?_
  rintro x w3 ⟨v', rfl, ⟨hs, hp⟩, o3⟩
  have HE := hide (And.intro (hp.mono (G' := fun y => w.heap.size ≤ y) (fun y hy hg => by omega)) ((unhide O12).trans o3 (fun _ _ h => h)))
  clear hp o3
  go_wp2_with fail
  go_ret2
  exact ⟨v', hs, rfl, unhide HE⟩
theorem dapply_any (h : PatO w v hs p G) (a : ByteArray) (hpl : p.length ≤ 100000) (hdl : ∀ k ∈ p, k.del.length ≤ 100000 ∧ k.ins.length ≤ 100000) (hst : ∀ k ∈ p, (∀ x ∈ k.del, x.length ≤ 9223372036854775807) ∧ (∀ x ∈ k.ins, x.length ≤ 9223372036854775807)) (hat : ∀ k ∈ p, -9223372036854775808 ≤ k.at_ ∧ k.at_ ≤ 9223372036854775807) :
    Calls Try.prog 26 #[.pointer (some ⟨e, 0, none⟩), .string a, v] w fun x w' => x = .returned (.tuple #[.string (applyS a p), .int .i64 (applyN a p)]) ∧ Only (fun _ => False) w w' := by
  unfold applyS applyN
  by_cases ha : 1024 < a.size
  · rw [if_pos ha, if_pos ha]
    exact dapply_big h a ha
  · rw [if_neg ha, if_neg ha]
    have C := patchFits_any h hpl hdl hst
    cases hf : fitsP p with
    | false =>
      rw [if_pos rfl, if_pos rfl]
      exact dapply_unfit h a (by omega) hf C
    | true =>
      rw [if_neg (by simp), if_neg (by simp)]
      refine dapply_fit h a (by omega) hf C (fun k hk => ⟨(hdl k hk).1, (hdl k hk).2, ?_⟩) hat
      have := (fitsP_bound hf).2.2
      have key : ∀ (p : List Hk), k ∈ p → k.ins.flatten.length ≤ patB p := by
        intro p
        induction p with
        | nil => intro h; simp at h
        | cons a r ih =>
          intro h
          simp only [patB]
          rcases List.mem_cons.1 h with h | h
          · subst h; omega
          · have := ih h; omega
      have := key p hk
      omega
set_option maxRecDepth 100000 in
theorem dmapply_any (mp : Value) (h : PatO w v hs p G) (a : ByteArray) (hpl : p.length ≤ 100000) (hdl : ∀ k ∈ p, k.del.length ≤ 100000 ∧ k.ins.length ≤ 100000) (hst : ∀ k ∈ p, (∀ x ∈ k.del, x.length ≤ 9223372036854775807) ∧ (∀ x ∈ k.ins, x.length ≤ 9223372036854775807)) (hat : ∀ k ∈ p, -9223372036854775808 ≤ k.at_ ∧ k.at_ ≤ 9223372036854775807) :
    Calls Try.prog 27 #[mp, .string a, v] w fun x w' => x = .returned (.tuple #[.string (applyS a p), .int .i64 (applyN a p)]) ∧ Only (fun _ => False) w w' := by
  unfold applyS applyN
  by_cases ha : 1024 < a.size
  · rw [if_pos ha, if_pos ha]
    obtain ⟨va, vc, rfl⟩ := h.shape
    have a1 : decide ((1024 : Int) < (a.size : Int)) = true := decide_eq_true (by omega)
    clear h hdl hst hat
    go_enter Try.func27, Try.ntmps27
    go_wp2_with fail
    go_ret2
    exact ⟨rfl, Only.refl _ _⟩
  · rw [if_neg ha, if_neg ha]
    have a1 : decide ((1024 : Int) < (a.size : Int)) = false := decide_eq_false (by omega)
    have C := patchFits_any h hpl hdl hst
    cases hf : fitsP p with
    | false =>
      rw [hf] at C
      rw [if_pos rfl, if_pos rfl]
      obtain ⟨va, vc, rfl⟩ := h.shape
      have C1 := hide C
      clear h hdl hst hat hf C
      go_enter Try.func27, Try.ntmps27
      go_wp2_with fail
      refine (unhide C1).mono ?_
      rintro x w1 ⟨rfl, ho⟩
      go_wp2_with fail
      go_ret2
      exact ⟨rfl, ho⟩
    | true =>
      rw [hf] at C
      rw [if_neg (by simp), if_neg (by simp)]
      obtain ⟨hp1, hp2, hp3⟩ := fitsP_bound hf
      obtain ⟨va, vc, rfl⟩ := h.shape
      have hll := linesOf_len a
      have hlf := linesOf_flat a
      have Hlf := hide hlf
      have C1 := hide C
      have HP := hide h
      have C2 := hide (splitL_any a (by omega))
      have Hat := hide hat
      have HB := hide (applyF_bound (linesOf a) p 0)
      generalize linesOf a = A at *
      clear h hdl hst hat hf C hlf
      go_enter Try.func27, Try.ntmps27
      go_wp2_with fail
      refine (unhide C1).mono ?_
      rintro x w1 ⟨rfl, o1⟩
      go_wp2_with fail
      refine (unhide C2 w1).mono ?_
      rintro x w2 ⟨la, rfl, oA, fA, o2⟩
      have o12 := o1.trans o2 (fun _ _ h => h)
      have C3 := hide (applyLines_any la A oA.in_ ((unhide HP).keep o12 (fun _ _ h => h) : PatO w2 _ hs p G) (by omega) hp1 hp2 (unhide Hat))
      have O12 := hide o12
      clear oA fA o1 o2 o12 C1 C2
      go_wp2_with fail
      refine (unhide C3).mono ?_
      rintro x w3 ⟨v', rfl, hv, ⟨sa, sn, sc, rfl⟩, o3⟩
      have Hv := hide hv
      have O13 := hide ((unhide O12).trans o3 (fun _ _ h => h))
      clear hv o3 C3
      cases hR : applyF A p 0 with
      | none =>
        have e1 : apN none = 20 := rfl
        have HR := hide hR
        clear Hv HB hR
        rw [e1]
        go_wp2_with fail
        go_ret2
        rw [unhide HR]
        exact ⟨rfl, unhide O13⟩
      | some l =>
        have e1 : apN (some l) = 0 := rfl
        have hown := unhide Hv l hR
        obtain ⟨b1, b2⟩ := unhide HB l (by omega) hR
        have Clf := unhide Hlf
        simp only [List.drop_zero, Nat.sub_zero] at b1 b2
        have C4 := hide (joinLines_any _ l hown.in_ (by omega) (by omega))
        have HR := hide hR
        clear hown b1 b2 Clf hR Hv HB
        rw [e1]
        go_wp2_with fail
        refine (unhide C4).mono ?_
        rintro x w4 ⟨rfl, rfl⟩
        go_wp2_with fail
        go_ret2
        rw [unhide HR]
        exact ⟨rfl, unhide O13⟩
end
end Go.Proofs.Qxb6500416a
