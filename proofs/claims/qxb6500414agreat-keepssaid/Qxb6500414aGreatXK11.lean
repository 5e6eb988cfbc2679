/-
  OWN WORK. TXN, Keeps: Refusal (written by tools/gen_xk11.py).
-/
import Derived.Test.Qxb6500414aGreatXK10
namespace Go.Proofs.Qxb6500414aGreat
open Go.RowKit Go.PlainAid
set_option linter.unusedSimpArgs false
set_option linter.unusedVariables false
/-- A refusal's ground, by the key. -/
def RfK (rows : List (List Vl)) (pk : Nat) (key : Vl) (e : Int) : Prop := (e = 6 → 8 ≤ rows.length) ∧ (e = 17 → ∃ r ∈ rows, r[pk]? = some key) ∧ (e = 9 → ∀ r ∈ rows, r[pk]? ≠ some key)
section
variable {lo : Nat} {w w' : World} {k k2 : Nat} {M N : Mu} {s t : Nat} {T : Tb}
set_option maxRecDepth 100000 in
set_option maxHeartbeats 2000000 in
theorem xlrefusal_key {v : Value} {rows : List (List Vl)} (R : RdR w v rows) (pk : Nat) (hl : rows.length ≤ 8) (hr : ∀ r ∈ rows, pk < r.length ∧ r.length ≤ 1000) (ok oa ob oc : Int) (os ot : ByteArray) (ht : ot.size ≤ maxLen) (e : Int) (h7 : ok ≠ 7) (h8 : ok ≠ 8) (hp : RfK rows pk (fstP ot) e) : Calls Tryz.prog 170 #[v, .int .i64 (pk : Int), opX ok oa ob oc os ot, .int .i64 e] w fun e w' => e = .returned (.bool true) ∧ Only (fun _ => False) w w' := by
  obtain ⟨a, cap, rfl, _⟩ := id R
  obtain ⟨n, hn⟩ : ∃ n, rows.length = n := ⟨_, rfl⟩
  rw [hn] at hl R ⊢
  have o0 : Only (fun _ => False) w (w.alloc (.cells #[.int .i64 ok, .int .i64 oa, .int .i64 ob, .int .i64 oc, .string os, .string ot] 44)) := (Only.refl _ w).alloc _
  have HN := hide (Has.new w #[.int .i64 ok, .int .i64 oa, .int .i64 ob, .int .i64 oc, .string os, .string ot] 44)
  have HH := hide (And.intro R (And.intro o0 (And.intro hr ht)))
  have Hn := hide hn
  have HP := hide hp
  have b7 : (ok == 7) = false := ne_intO h7
  have b8 : (ok == 8) = false := ne_intO h8
  unfold opX
  clear R o0 hn hr ht hp h7 h8
  go_enter Tryz.func170, Tryz.ntmps170
  go_upto_region 1 with fail
  generalize w.alloc (.cells #[.int .i64 ok, .int .i64 oa, .int .i64 ob, .int .i64 oc, .string os, .string ot] 44) = w0 at *
  generalize hko : w.heap.size = ko at *
  clear hko
  have a5 : w0.cell? ⟨ko, 5, none⟩ = some (.string ot) := (unhide HN).cell 5
  have C1 := eFirst_any ot (unhide HH).2.2.2 w0
  generalize fstP ot = key at *
  unfold vlA at C1
  have C1 := hide C1
  go_wp2_with fail
  refine (unhide C1).mono ?_
  rintro e1 w1 ⟨rfl, o1⟩
  have o2 : Only (fun _ => False) w1 (w1.alloc (.cells #[.bool key.str, .int .i64 key.i, .string key.s] 106)) := (Only.refl _ w1).alloc _
  have oT := ((unhide HH).2.1.trans o1 (fun _ _ e => e)).trans o2 (fun _ _ e => e)
  have HNK := hide (Has.new w1 #[.bool key.str, .int .i64 key.i, .string key.s] 106)
  have HN2 := hide (((unhide HN).keep o1 (fun e => e)).keep o2 (fun e => e))
  have CU := xlunder_any ((unhide HH).1.quiet oT) pk key (by have := unhide Hn; omega) (unhide HH).2.2.1
  unfold vlA at CU
  have CU := hide CU
  have HO0 := hide oT
  clear a5 C1 o1 o2 oT
  go_upto_region 2 with fail
  generalize w1.alloc (.cells #[.bool key.str, .int .i64 key.i, .string key.s] 106) = w2 at *
  generalize w1.heap.size = kk at *
  have a0 : w2.cell? ⟨ko, 0, none⟩ = some (.int .i64 ok) := (unhide HN2).cell 0
  have k0 : w2.cell? ⟨kk, 0, none⟩ = some (.bool key.str) := (unhide HNK).cell 0
  have k1 : w2.cell? ⟨kk, 1, none⟩ = some (.int .i64 key.i) := (unhide HNK).cell 1
  have k2 : w2.cell? ⟨kk, 2, none⟩ = some (.string key.s) := (unhide HNK).cell 2
  go_wp2_with fail
  refine (unhide CU).mono ?_
  rintro e1 w3 ⟨z, rfl, hz, o3⟩
  have HO := hide ((unhide HO0).trans o3 (fun _ _ e => e))
  clear CU o3 a0 k0 k1 k2
  rcases hz with ⟨rfl, hno⟩ | ⟨i, r, rfl, hri, hrk⟩
  · have h17 : e ≠ 17 := fun c => by
      obtain ⟨r, h1, h2⟩ := (unhide HP).2.1 c
      exact hno r h1 h2
    by_cases h6 : e = 6
    · have n8 := (unhide HP).1 h6
      have d1 : decide ((n : Int) ≥ 8) = true := decide_eq_true (by have := unhide Hn; omega)
      have d2 : decide (8 ≤ (n : Int)) = true := decide_eq_true (by have := unhide Hn; omega)
      subst h6
      clear h17 hno n8
      go_wp2_with fail
      go_ret
      exact ⟨rfl, unhide HO⟩
    · have b6 : (e == 6) = false := ne_intO h6
      have b17 : (e == 17) = false := ne_intO h17
      by_cases h9 : e = 9
      · subst h9
        clear h6 h17 hno
        go_wp2_with fail
        go_ret
        exact ⟨rfl, unhide HO⟩
      · have b9 : (e == 9) = false := ne_intO h9
        clear h6 h17 h9 hno
        go_wp2_with fail
        go_ret
        exact ⟨rfl, unhide HO⟩
  · have h9 : e ≠ 9 := fun c => (unhide HP).2.2 c r (List.mem_of_getElem? hri) hrk
    have b9 : (e == 9) = false := ne_intO h9
    have di : decide ((i : Int) ≥ 0) = true := decide_eq_true (by omega)
    have di' : decide (0 ≤ (i : Int)) = true := decide_eq_true (by omega)
    by_cases h6 : e = 6
    · have n8 := (unhide HP).1 h6
      have d1 : decide ((n : Int) ≥ 8) = true := decide_eq_true (by have := unhide Hn; omega)
      have d2 : decide (8 ≤ (n : Int)) = true := decide_eq_true (by have := unhide Hn; omega)
      subst h6
      clear h9 hri hrk n8 b9
      go_wp2_with fail
      go_ret
      exact ⟨rfl, unhide HO⟩
    · have b6 : (e == 6) = false := ne_intO h6
      by_cases h17 : e = 17
      · subst h17
        clear h6 h9 hri hrk b6 b9
        go_wp2_with fail
        go_ret
        exact ⟨rfl, unhide HO⟩
      · have b17 : (e == 17) = false := ne_intO h17
        clear h6 h17 h9 hri hrk
        go_wp2_with fail
        go_ret
        exact ⟨rfl, unhide HO⟩
end
end Go.Proofs.Qxb6500414aGreat
