/-
  OWN WORK. THE OBJECT STORE: find.
-/
import Derived.Test.Qxb6500417aGreatOBuck
namespace Go.Proofs.Qxb6500417aGreat
open Go.RowKit
set_option linter.unusedSimpArgs false
set_option linter.unusedVariables false

theorem dF_ext {x y : List Nat} (hl : x.length = y.length) (h : ∀ j, j < x.length → dF x j = dF y j) : x = y := by
  apply List.ext_getElem hl
  intro j h1 h2
  have := h j h1
  unfold dF at this
  rwa [getD_in h1, getD_in h2] at this

theorem bucket_q (h : Nat) (hh : h < 4294967296) (w : World) :
    Calls Tryz.prog 128 #[.int .u32 h] w fun e w' => e = .returned (.int .i64 ((h % 8 : Nat) : Int)) ∧ w' = w := (obucket_any h hh w).mono fun _ _ h => ⟨h.1, h.2.symm⟩

section
variable {w : World} {s d : Nat} {tab : Nat → Ent} {hd us : Nat → Nat} {nf rt : Nat} {D B : Nat → Nat} {recs : List Rec} {F : Nat → Prop}

set_option maxRecDepth 100000 in
set_option maxHeartbeats 4000000 in
theorem find_any (h : SAt w s d tab hd us nf rt) (hv : DevAt w d D B recs F) (k : Nat) (dat : List Nat) (v : Value) (hdat : BytesAt w v dat.length (dF dat)) (hsh : Nat) (hhsh : hsh = hashN (dF dat) k dat.length) (hh : hsh < 4294967296)
    (ob : Nat → Ob) (l : List Nat) (hl : Linked tab (hd (hsh % 8)) l) (hob : ∀ a ∈ l, Held D (tab a) (ob a)) :
    Calls Tryz.prog 188 #[.pointer (some ⟨s, 0, none⟩), .int .i64 k, v, .int .u32 hsh] w fun e w' => (∃ r : Nat, e = .returned (.int .i64 r) ∧ ((r = 0 ∧ ∀ a ∈ l, ¬ Hit ob k dat a) ∨ (r ∈ l ∧ Hit ob k dat r))) ∧ Only (fun _ => False) w w' := by
  have b8 : hsh % 8 < 8 := Nat.mod_lt _ (by omega)
  have hb := h.head (hsh % 8) b8
  have C1 := hide (bucket_q hsh hh)
  have hlen := hl.len
  have hhd := hl.head
  have Hl := hide hl
  have Hob := hide hob
  have Hdat := hide hdat
  have Hhsh := hide hhsh
  obtain ⟨va, vc, rfl, hyc⟩ := hdat
  clear hl hob hyc hhsh
  generalize hsh % 8 = b at *
  have b8' : (b : Int) < 8 := by omega
  generalize hd b = h0 at *
  have Hhd := hide hhd
  clear hhd
  generalize hdl : dat.length = n at *
  have Hdl := hide hdl
  clear hdl
  go_enter Tryz.func188, Tryz.ntmps188
  go_wp2_with fail
  go_quiet (first | (go_at_call 128; refine Calls.quiet_of_same ((unhide C1) _)))
  go_wp2_with fail
  go_loopw [9, 10] (fun av iv wr => ∃ i : Nat, i ≤ l.length ∧ av = .int .i64 (l.getD i 0 : Nat) ∧ iv = .int .i64 i ∧ (∀ j, j < i → ¬ Hit ob k dat (l.getD j 0)) ∧ Only (fun _ => False) w wr) (fun _ iv _ => (48 - intOf iv).toNat)
  case atStart => exact ⟨0, by omega, by rw [unhide Hhd], rfl, fun j hj => by omega, (Only.refl _ w).drewO _⟩
  case round =>
    obtain ⟨i, hi, rfl, rfl, hno, ho⟩ := hrel
    have Hno := hide hno
    clear hno
    by_cases hil : i < l.length
    · have hm := getD_mem hil
      obtain ⟨m1, m2⟩ := (unhide Hl).ids _ hm
      have hH := (unhide Hob) _ hm
      have hnx := (unhide Hl).next i hil
      have h1 := h.keep ho (fun h => h)
      generalize ha : l.getD i 0 = a at *
      have Ha := hide ha
      clear ha
      have z0 := h1.state a (by omega)
      have z1 := h1.ent a 1 (by omega) (by omega)
      have z2 := h1.ent a 2 (by omega) (by omega)
      have z3 := h1.ent a 3 (by omega) (by omega)
      have z4 := h1.ent a 4 (by omega) (by omega)
      have z5 := h1.ent a 5 (by omega) (by omega)
      simp only [entCell] at z0 z1 z2 z3 z4 z5
      rw [hnx] at z5
      have Cy := hide (fun w' (ho' : Only (fun _ => False) w w') (hsz : (ob a).dat.length = n) => holds_any (h.keep ho' (fun h => h)) (hv.quiet ho') a (by omega) (hsz ▸ hH.lies) (hsz ▸ hH.n180) hH.first (.slice va n vc) (dF dat) ((unhide Hdat).keep ho' (fun _ _ h => h)))
      have hne := h1.lt
      have e1 : (tab a).kind = (ob a).kd := hH.kind
      have e2 : (tab a).size = (ob a).dat.length := hH.size
      have e3 : (tab a).hash = hashN (dF (ob a).dat) (ob a).kd (ob a).dat.length := hH.hash
      have hnot : ¬ ((tab a).kind = k ∧ (tab a).size = n ∧ (tab a).hash = hsh) → ¬ Hit ob k dat a := by
        intro h1 h2
        obtain ⟨h3, h4⟩ := h2
        exact h1 ⟨by rw [e1, h3], by rw [e2, h4]; exact unhide Hdl, by rw [e3, h3, h4, unhide Hhsh, unhide Hdl]⟩
      have Hnot := hide hnot
      have HH := hide hH
      have E1 := hide e1
      have E2 := hide e2
      clear hnot hH e1 e2 e3 hnx
      generalize (tab a).state = f0 at *
      generalize (tab a).kind = f1 at *
      generalize (tab a).size = f2 at *
      generalize (tab a).first = f3 at *
      generalize (tab a).hash = f4 at *
      generalize hnn : l.getD (i + 1) 0 = a' at *
      have Hnn := hide hnn
      clear hnn
      have ha0 : ((a : Int) != 0) = true := by simp; omega
      have ha4 : (a : Int) < 49 := by omega
      have hi8 : decide ((i : Int) < 48) = true := by simp; omega
      have ho' : Only (fun _ => False) w (wr.alloc (.cells #[.int .i64 (f0 : Int), .int .i64 (f1 : Int), .int .i64 (f2 : Int), .int .i64 (f3 : Int), .int .u32 (f4 : Int), .int .i64 (a' : Int)] 96)) := ho.alloc _
      have hfin : ¬ Hit ob k dat a → ∀ j, j < i + 1 → ¬ Hit ob k dat (l.getD j 0) := by
        intro h1 j hj
        by_cases e : j = i
        · subst e; rw [unhide Ha]; exact h1
        · exact unhide Hno j (by omega)
      have Hfin := hide hfin
      clear hfin
      by_cases hall : f1 = k ∧ f2 = n ∧ f4 = hsh
      · obtain ⟨rfl, rfl, rfl⟩ := hall
        have hev := Has.new wr #[.int .i64 (f0 : Int), .int .i64 (f1 : Int), .int .i64 (f2 : Int), .int .i64 (f3 : Int), .int .u32 (f4 : Int), .int .i64 (a' : Int)] 96
        go_wp2_with fail
        refine ((unhide Cy) _ ho' (unhide E2).symm).mono ?_
        rintro e w2 ⟨⟨r, rfl, hr⟩, ho2⟩
        have hev2 := (hev.keep ho2 (fun h => h)).cell 5
        have ho2' := ho'.trans ho2 (fun _ _ h => h)
        have hrr : r = true ↔ Hit ob f1 dat a := by
          rw [hr]
          constructor
          · intro h1
            exact ⟨(unhide E1).symm, dF_ext (by rw [← unhide E2]; exact (unhide Hdl).symm) (fun j hj => h1 j (by rw [unhide E2]; exact hj))⟩
          · rintro ⟨h1, h2⟩ j hj
            rw [h2]
        have Hrr := hide hrr
        clear hr hrr
        cases r with
        | true =>
          go_wp2_with fail
          go_ret
          exact ⟨⟨a, rfl, .inr ⟨hm, (unhide Hrr).1 (by trivial)⟩⟩, ho2'⟩
        | false =>
          go_wp2_with fail
          go_roundw
          case rel => exact ⟨i + 1, by omega, by rw [unhide Hnn], by go_num, (unhide Hfin) (fun h => by have := (unhide Hrr).2 h; cases this), ho2'⟩
          case measure => simp [intOf]; omega
      · have Hn2 := hide ((unhide Hfin) ((unhide Hnot) hall))
        clear Hfin Hnot Cy
        by_cases g1 : f1 = k
        · subst g1
          by_cases g2 : f2 = n
          · subst g2
            have g3 : f4 ≠ hsh := fun e => hall ⟨rfl, rfl, e⟩
            have g3' : ((f4 : Int) == (hsh : Int)) = false := ne_intO (by omega)
            clear hall
            go_wp2_with fail
            go_roundw
            case rel => exact ⟨i + 1, by omega, by rw [unhide Hnn], by go_num, unhide Hn2, ho'⟩
            case measure => simp [intOf]; omega
          · have g2' : ((f2 : Int) == (n : Int)) = false := ne_intO (by omega)
            clear hall
            go_wp2_with fail
            go_roundw
            case rel => exact ⟨i + 1, by omega, by rw [unhide Hnn], by go_num, unhide Hn2, ho'⟩
            case measure => simp [intOf]; omega
        · have g1' : ((f1 : Int) == (k : Int)) = false := ne_intO (by omega)
          clear hall
          go_wp2_with fail
          go_roundw
          case rel => exact ⟨i + 1, by omega, by rw [unhide Hnn], by go_num, unhide Hn2, ho'⟩
          case measure => simp [intOf]; omega
    · obtain rfl : i = l.length := by omega
      have hz : l.getD l.length 0 = 0 := getD_out (by omega)
      rw [hz]
      have hall : ∀ a ∈ l, ¬ Hit ob k dat a := by
        intro a ha
        obtain ⟨j, hj, rfl⟩ := List.getElem_of_mem ha
        have := unhide Hno j hj
        rwa [getD_in hj] at this
      have Hall := hide hall
      clear hall hz
      generalize l.length = ll at *
      by_cases h8 : ll < 48
      · have a1 : decide ((ll : Int) < 48) = true := by simp; omega
        go_wp2_with fail
        go_ret
        exact ⟨⟨0, rfl, .inl ⟨rfl, unhide Hall⟩⟩, ho⟩
      · have a1 : decide ((ll : Int) < 48) = false := by simp; omega
        go_wp2_with fail
        go_ret
        exact ⟨⟨0, rfl, .inl ⟨rfl, unhide Hall⟩⟩, ho⟩
end
end Go.Proofs.Qxb6500417aGreat
