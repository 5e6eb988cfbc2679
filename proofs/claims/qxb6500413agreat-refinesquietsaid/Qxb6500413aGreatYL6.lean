/-
  OWN WORK. THE TABLE LAW: what the forest must hold; a second handle; Level; OneStep.
-/
import Derived.Test.Qxb6500413aGreatYL5
import Derived.Test.Qxb6500413aGreatEBe
import Derived.Deep.DeepCutAuto
namespace Go.Proofs.Qxb6500413aGreat
open Go.RowKit Go.PlainAid
set_option linter.unusedSimpArgs false
set_option linter.unusedVariables false

section
variable {q : Gnd} {w : World} {x z : Nat} {op opz : Bool} {S : Vu} {T : List (Tb × Hd)} {D Tz U : Db} {hist : Option Db} {Hz : Nat → Prop}
theorem FV.newS {k : Nat} (A : FV q w op S) (hk : w.heap.size ≤ k) : ¬ q.S k := fun c => by have := A.Alt k (Gnd.S_A c); omega
theorem FV.box (A : FV q w op S) : Only (fun _ => False) w (w.alloc (.cells (jbC q.d q.f) 30)) ∧ Has (w.alloc (.cells (jbC q.d q.f) 30)) w.heap.size (jbC q.d q.f) 30 ∧ FV q (w.alloc (.cells (jbC q.d q.f) 30)) op S ∧ ¬ q.S w.heap.size :=
  ⟨(Only.refl _ w).alloc _, Has.new _ _ _, A.quiet ((Only.refl _ w).alloc _), A.newS (Nat.le_refl _)⟩
set_option maxRecDepth 100000 in
theorem entries_any (A : FV q w op S) : Calls Tryz.prog 130 #[jbV q.d q.f] w fun e w' => e = .returned (.int .i64 (al8 S).length) ∧ FV q w' op S ∧ Only q.S w w' := by
  obtain ⟨o0, B0, A0, nb⟩ := A.box
  have C1 := hide (vcount_any A0)
  have HO := hide o0
  unfold jbC at C1 HO
  unfold jbV jbC
  clear o0 B0 A0 A
  go_enter Tryz.func130, Tryz.ntmps130
  go_wp2_with fail
  refine (unhide C1).mono ?_
  rintro e w1 ⟨rfl, A1, o1⟩
  have HP := hide (And.intro A1 ((unhide HO).toS.ss o1))
  clear A1 o1 C1
  go_wp2_with fail
  go_ret
  exact ⟨rfl, unhide HP⟩
set_option maxRecDepth 100000 in
theorem binTxn_any (A : FV q w op S) : Calls Tryz.prog 58 #[jbV q.d q.f] w fun e w' => e = .returned (.bool op) ∧ FV q w' op S ∧ Only q.S w w' := by
  obtain ⟨o0, B0, A0, nb⟩ := A.box
  have C1 := hide (vintxn_any A0)
  have HP := hide (And.intro A0 (o0.toS (q := q)))
  unfold jbC at C1 HP
  unfold jbV jbC
  clear o0 B0 A0 A
  go_enter Tryz.func58, Tryz.ntmps58
  go_wp2_with fail
  refine (unhide C1).mono ?_
  rintro e w1 ⟨rfl, rfl⟩
  clear C1
  go_wp2_with fail
  go_ret
  exact ⟨rfl, unhide HP⟩
def usdN (S : Vu) (n : Nat) : Nat := ((List.range n).filter (fun i => (S i).isSome)).length
theorem usdN_succ (S : Vu) (n : Nat) : usdN S (n + 1) = usdN S n + (if (S n).isSome then 1 else 0) := by
  unfold usdN
  rw [List.range_succ, List.filter_append, List.length_append]
  cases h : (S n).isSome <;> simp [h]
theorem usdN_le (S : Vu) (n : Nat) : usdN S n ≤ n := by
  unfold usdN
  exact Nat.le_trans (List.length_filter_le _ _) (by simp)
theorem Vz_in (S : Vu) {i : Nat} (h : i < 8) : Vz S (i : Int) = S i := by unfold Vz; rw [if_pos (by omega)]; rfl
set_option maxRecDepth 100000 in
set_option maxHeartbeats 1000000 in
theorem trees_any (A : FV q w op S) : Calls Tryz.prog 131 #[jbV q.d q.f] w fun e w' => e = .returned (.int .i64 (usd S).length) ∧ FV q w' op S ∧ Only q.S w w' := by
  obtain ⟨o0, B0, A0, nb⟩ := A.box
  have HP := hide (And.intro A0 (And.intro (o0.toS (q := q)) (And.intro B0 nb)))
  unfold jbC at HP
  unfold jbV jbC
  clear o0 B0 A0 nb A
  go_enter Tryz.func131, Tryz.ntmps131
  go_upto_region 3 with fail
  generalize w.alloc (.cells #[.pointer (some ⟨q.d, 0, none⟩), .pointer (some ⟨q.f, 0, none⟩)] 30) = w0 at *
  generalize w.heap.size = kb at *
  go_loopw [3, 4] (fun nv hv wr => ∃ i : Nat, hv = .int .i64 i ∧ i ≤ 8 ∧ nv = .int .i64 (usdN S i : Nat) ∧ FV q wr op S ∧ Only q.S w0 wr) (fun _ hv _ => 8 - (intOf hv).toNat)
  case atStart => exact ⟨0, rfl, Nat.zero_le _, rfl, (unhide HP).1, Only.refl _ _⟩
  case round =>
    obtain ⟨i, rfl, hi, rfl, AW, oW⟩ := hrel
    by_cases h8 : i < 8
    · have a1 : decide ((i : Int) < 8) = true := decide_eq_true (by omega)
      have a2 : (i : Int) < 8 := by omega
      have c1 := ((unhide HP).2.2.1.keep oW (unhide HP).2.2.2).cell 1
      simp at c1
      have C1 := vused_any AW (i : Int)
      rw [Vz_in S h8] at C1
      have hs := usdN_succ S i
      have hl := usdN_le S i
      obtain ⟨b, hb⟩ : ∃ b, (S i).isSome = b := ⟨_, rfl⟩
      rw [hb] at C1 hs
      have C1 := hide C1
      obtain ⟨m, hm⟩ : ∃ m, usdN S i = m := ⟨_, rfl⟩
      rw [hm] at hs hl ⊢
      have HS := hide hs
      have HOW := hide oW
      clear hb hs AW oW hm
      go_wp2_with fail
      refine (unhide C1).mono ?_
      rintro e w1 ⟨rfl, A1, o1⟩
      have HA := hide (And.intro A1 ((unhide HOW).ss o1))
      clear A1 o1 C1 c1
      cases b with
      | true =>
        have mi : (m : Int) ≤ 8 := by omega
        go_wp2_with fail
        go_roundw
        case rel => exact ⟨i + 1, by go_num, by omega, by rw [unhide HS]; go_num, (unhide HA).1, (unhide HA).2⟩
        case measure => simp [intOf]; omega
      | false =>
        go_wp2_with fail
        go_roundw
        case rel => exact ⟨i + 1, by go_num, by omega, by rw [unhide HS]; rfl, (unhide HA).1, (unhide HA).2⟩
        case measure => simp [intOf]; omega
    · obtain rfl : i = 8 := by omega
      have a1 : decide (((8 : Nat) : Int) < 8) = false := decide_eq_false (by omega)
      have HA := hide (And.intro AW ((unhide HP).2.1.ss oW))
      clear AW oW
      go_wp2_with fail
      go_ret
      exact ⟨rfl, unhide HA⟩
set_option maxRecDepth 100000 in
theorem stateless_any (A : FV q w op S) (L : Lay S T) (Y : YAt w z D Tz U hist opz Hz) (sep : ∀ k, Hz k → ¬ q.S k) : Calls Tryz.prog 59 #[jbV q.d q.f, .pointer (some ⟨z, 0, none⟩)] w fun e w' => ∃ b, e = .returned (.bool b) ∧ (b = true ↔ dbOf T = D ∧ op = opz) ∧ FV q w' op S ∧ Only q.S w w' := by
  obtain ⟨o0, B0, A0, nb⟩ := A.box
  have C1 := hide (eopen_used A0 (by rw [L.cat]; simp))
  have HP := hide (And.intro (o0.toS (q := q)) (And.intro L (And.intro (Y.quiet o0) sep)))
  unfold jbC at C1 HP
  unfold jbV jbC
  clear o0 B0 A0 A L Y sep
  go_enter Tryz.func59, Tryz.ntmps59
  go_wp2_with fail
  refine (unhide C1).mono ?_
  rintro e w1 ⟨x', rfl, hx, st1, o1⟩
  have C2 := hide (alike_any st1 (unhide HP).2.1 ((unhide HP).2.2.1.keep o1 (unhide HP).2.2.2) (unhide HP).2.2.2)
  have HO1 := hide ((unhide HP).1.ss o1)
  clear st1 o1 hx C1
  go_wp2_with fail
  refine (unhide C2).mono ?_
  rintro e w2 ⟨b, rfl, hb, st2, o2⟩
  have HF := hide (And.intro hb (And.intro st2.fv ((unhide HO1).ss o2)))
  clear hb st2 o2 C2
  go_wp2_with fail
  go_ret
  exact ⟨b, rfl, (unhide HF).1, (unhide HF).2.1, (unhide HF).2.2⟩
theorem entD_take {t : Tb} {i : Nat} (h : D[i]? = some t) : entD (D.take (i + 1)) = entD (D.take i) + entT t := by
  unfold entD
  rw [List.take_add_one, h, List.map_append, List.sum_append]
  simp
theorem treD_take {t : Tb} {i : Nat} (h : D[i]? = some t) : treD (D.take (i + 1)) = treD (D.take i) + treT t := by
  unfold treD
  rw [List.take_add_one, h, List.map_append, List.sum_append]
  simp
theorem entT_le {t : Tb} (ok : TbOk t) : entT t ≤ 20 := by
  have := ok.n3
  have := ok.len
  unfold entT
  split <;> omega
theorem treT_le (t : Tb) : treT t ≤ 2 := by
  unfold treT
  split <;> omega
theorem ent_bound (d : DOk D) : ∀ i, entD (D.take i) ≤ 20 * i ∧ treD (D.take i) ≤ 2 * i
  | 0 => ⟨by simp [entD], by simp [treD]⟩
  | i + 1 => by
    obtain ⟨h1, h2⟩ := ent_bound d i
    cases ht : D[i]? with
    | none =>
      have hl : D.length ≤ i := List.getElem?_eq_none_iff.mp ht
      rw [List.take_of_length_le hl] at h1 h2
      rw [List.take_of_length_le (by omega)]
      exact ⟨by omega, by omega⟩
    | some t =>
      rw [entD_take ht, treD_take ht]
      have := entT_le (d.tb t (List.mem_of_getElem? ht))
      have := treT_le t
      exact ⟨by omega, by omega⟩
end
end Go.Proofs.Qxb6500413aGreat
