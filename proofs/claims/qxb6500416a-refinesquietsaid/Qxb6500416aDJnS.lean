/-
  OWN WORK. THE DEFINITIONS: lines somewhere in an array: JoinLines, SameLines, closed, piece.
-/
import Derived.Test.Qxb6500416aDMod
import Derived.Test.Qxb6500416aDPc
namespace Go.Proofs.Qxb6500416a
open Go.RowKit Go.PlainAid
set_option linter.unusedSimpArgs false
set_option linter.unusedVariables false

theorem LnS.get {w W : World} {a : Option Addr} {l : List Str} (hc : 0 < l.length → ∃ g o, a = some ⟨g, o, none⟩ ∧ ∀ i (h : i < l.length), w.cell? ⟨g, o + i, none⟩ = some (.string (sb l[i]))) (ho : Only (fun _ => False) w W) (j : Nat) (hj : j < l.length) :
    ∃ g o, a = some ⟨g, o, none⟩ ∧ g < W.heap.size ∧ W.cell? ⟨g, o + j, none⟩ = some (.string (sb l[j])) := by
  obtain ⟨g, o, rfl, h⟩ := hc (by omega)
  have c0 := h j hj
  have hgl : g < w.heap.size := World.block_lt_of_cell? w _ c0
  have hbk := ho.block g hgl (fun h => h)
  rw [← World.cell?_of_block hbk] at c0
  exact ⟨g, o, rfl, Nat.lt_of_lt_of_le hgl ho.size, c0⟩
set_option maxRecDepth 100000 in
set_option maxHeartbeats 1000000 in
theorem joinS_any {w : World} (v : Value) (l : List Str) (h : LnS w v l) (hl : l.length ≤ 1000000) (hlen : l.flatten.length ≤ 1000000) :
    Calls Try.prog 48 #[v] w fun e w' => e = .returned (.string (sb l.flatten)) ∧ w = w' := by
  obtain ⟨a, cap, rfl, hc⟩ := h
  have Hc := hide hc
  clear hc
  go_enter Try.func48, Try.ntmps48
  go_wp2_with fail
  go_loop [3, 4] (fun sv iv => ∃ i : Nat, i ≤ l.length ∧ iv = .int .i64 i ∧ sv = .string (sb (l.take i).flatten)) (fun _ iv => l.length - (intOf iv).toNat)
  case atStart => exact ⟨0, by omega, rfl, rfl⟩
  case round =>
    obtain ⟨i, hi, rfl, rfl⟩ := hrel
    by_cases hil : i < l.length
    · obtain ⟨g, o, rfl, hgl, c0⟩ := LnS.get (unhide Hc) (Only.refl _ w) i hil
      have a1 : decide ((i : Int) < (l.length : Int)) = true := by simp; omega
      have a2 : (i : Int) < (l.length : Int) := by omega
      have hsn : (l.take (i + 1)).flatten = (l.take i).flatten ++ l[i] := by rw [List.take_succ_eq_append_getElem hil, List.flatten_append, List.flatten_cons, List.flatten_nil, List.append_nil]
      have hle : (l.take (i + 1)).flatten.length ≤ 1000000 := by
        have := flat_take_le l (i + 1)
        omega
      have hcat := cat_sb (l.take i).flatten l[i] (by rw [hsn, List.length_append] at hle; omega)
      have Hsn := hide hsn
      clear hsn hle
      generalize (l.take i).flatten = A at *
      generalize l[i] = x at *
      go_wp2_with fail
      go_round
      case rel => exact ⟨i + 1, by omega, by go_num, by rw [unhide Hsn]⟩
      case measure => simp [intOf]; omega
    · have a1 : decide ((i : Int) < (l.length : Int)) = false := by simp; omega
      have a1' : ¬ (i : Int) < (l.length : Int) := by omega
      have e1 : i = l.length := by omega
      subst e1
      rw [List.take_length]
      go_wp2_with fail
      go_ret
      exact ⟨rfl, rfl⟩
set_option maxRecDepth 100000 in
set_option maxHeartbeats 1000000 in
theorem sameS_any {w : World} (v u : Value) (A B : List Str) (hA : LnS w v A) (hB : LnS w u B) (hl : A.length ≤ 1000000) :
    Calls Try.prog 67 #[v, u] w fun e w' => e = .returned (.bool (decide (A = B))) ∧ Only (fun _ => False) w w' := by
  obtain ⟨a, capa, rfl, hca⟩ := hA
  obtain ⟨b, capb, rfl, hcb⟩ := hB
  have HA := hide hca
  have HB := hide hcb
  clear hca hcb
  by_cases hlen : A.length = B.length
  · have a0 : ((A.length : Int) != (B.length : Int)) = false := by rw [hlen]; simp
    go_enter Try.func67, Try.ntmps67
    go_wp2_with fail
    go_loopw [5] (fun iv wr => ∃ i : Nat, i ≤ A.length ∧ iv = .int .i64 i ∧ A.take i = B.take i ∧ Only (fun _ => False) w wr) (fun iv _ => A.length - (intOf iv).toNat)
    case atStart => exact ⟨0, by omega, rfl, by simp, Only.refl _ _⟩
    case round =>
      obtain ⟨i, hi, rfl, htk, ho⟩ := hrel
      by_cases hil : i < A.length
      · have hilB : i < B.length := by omega
        obtain ⟨g, o, rfl, hg1, c0⟩ := LnS.get (unhide HA) ho i hil
        obtain ⟨g', o', rfl, hg1', d0⟩ := LnS.get (unhide HB) ho i hilB
        have a1 : decide ((i : Int) < (A.length : Int)) = true := by simp; omega
        have a2 : (i : Int) < (A.length : Int) := by omega
        have a3 : (i : Int) < (B.length : Int) := by omega
        by_cases he : A[i] = B[i]
        · have e1 : ((sb A[i]).toList == (sb B[i]).toList) = true := by rw [he]; simp
          have ht2 : A.take (i + 1) = B.take (i + 1) := by rw [List.take_succ_eq_append_getElem hil, List.take_succ_eq_append_getElem hilB, htk, he]
          have Ht2 := hide ht2
          have HO := hide ho
          clear he htk ht2 ho
          generalize sb A[i] = x at *
          generalize sb B[i] = y at *
          go_wp2_with fail
          go_quiet (fail)
          have ho4 := (unhide HO).drewO nq
          go_wp2_with fail
          go_roundw
          case rel => exact ⟨i + 1, by omega, by go_num, unhide Ht2, ho4⟩
          case measure => simp [intOf]; omega
        · have e1 : ((sb A[i]).toList == (sb B[i]).toList) = false := by rw [beqB, ls_sb, ls_sb, decide_eq_false he]
          have hne := lines_ne hlen hil he
          have HO := hide ho
          have Hne := hide hne
          clear he htk hne ho
          generalize sb A[i] = x at *
          generalize sb B[i] = y at *
          go_wp2_with fail
          go_quiet (fail)
          have ho4 := (unhide HO).drewO nq
          go_wp2_with fail
          go_ret
          exact ⟨by rw [decide_eq_false (unhide Hne)]; rfl, ho4⟩
      · have a1 : decide ((i : Int) < (A.length : Int)) = false := by simp; omega
        have a1' : ¬ (i : Int) < (A.length : Int) := by omega
        have e1 : i = A.length := by omega
        have hAB : A = B := by
          rw [e1, List.take_length] at htk
          rw [hlen, List.take_length] at htk
          exact htk
        have HAB := hide hAB
        clear hAB htk e1
        go_wp2_with fail
        go_ret
        exact ⟨by rw [decide_eq_true (unhide HAB)]; rfl, ho⟩
  · have a0 : ((A.length : Int) != (B.length : Int)) = true := by simp; omega
    have Hne : Hid (A ≠ B) := hide (fun e => hlen (by rw [e]))
    clear hlen
    go_enter Try.func67, Try.ntmps67
    go_wp2_with fail
    go_ret
    exact ⟨by rw [decide_eq_false (unhide Hne)]; rfl, Only.refl _ _⟩
set_option maxRecDepth 100000 in
set_option maxHeartbeats 1000000 in
theorem aclosed_any {w : World} (v : Value) (l : List Str) (h : LnS w v l) (hl : l.length ≤ 1000000) (hlen : l.flatten.length ≤ 1000000) :
    Calls Try.prog 68 #[v] w fun e w' => e = .returned (.string (sb (closeS l.flatten))) ∧ w = w' := by
  have C1 := hide (joinS_any v l h hl hlen)
  obtain ⟨a, cap, rfl, hc⟩ := h
  clear hc
  generalize l.flatten = F at *
  by_cases hF : F = []
  · subst hF
    have e0 : closeS [] = [] := closeS_nil
    rw [e0]
    have es : (sb []).size = 0 := rfl
    clear e0
    go_enter Try.func68, Try.ntmps68
    go_wp2_with fail
    refine (unhide C1).mono ?_
    rintro e w' ⟨rfl, rfl⟩
    go_wp2_with fail
    go_ret
    exact ⟨rfl, rfl⟩
  · obtain ⟨m, c, hsz, hm, hx, hbt⟩ := last_byte F hF
    have hg := get_bt (sb F)
    by_cases h10 : c = 10
    · have e2 : (bt (sb F) m != 10) = false := by rw [hbt, h10]; rfl
      have Hcl := hide (closeS_nl (by rw [hx, h10]))
      clear h10 hbt hx hm hF
      have hmb : m ≤ 1000000 := by
        have := sb_size F
        omega
      go_enter Try.func68, Try.ntmps68
      go_wp2_with fail
      refine (unhide C1).mono ?_
      rintro e w' ⟨rfl, rfl⟩
      go_wp2_with fail
      go_ret
      rw [unhide Hcl]
      exact ⟨rfl, rfl⟩
    · have e2 : (bt (sb F) m != 10) = true := by
        rw [hbt]
        have := ne_byte (c := c) (n := 10) (by omega)
        rw [decide_eq_false (by simpa using h10)] at this
        simpa using this
      have Hcl := hide (closeS_add hF (by rw [hx]; simpa using h10))
      have hcat := cat_sb F [10] (by simp; omega)
      have e10 : sb [10] = ⟨#[10]⟩ := rfl
      rw [e10] at hcat
      have hmb : m ≤ 1000000 := by
        have := sb_size F
        omega
      clear h10 hbt hx hm hF e10
      go_enter Try.func68, Try.ntmps68
      go_wp2_with fail
      refine (unhide C1).mono ?_
      rintro e w' ⟨rfl, rfl⟩
      go_wp2_with fail
      go_ret
      rw [unhide Hcl]
      exact ⟨rfl, rfl⟩
set_option maxRecDepth 100000 in
set_option maxHeartbeats 4000000 in
theorem apiece_any {w : World} (vb vo vt : Value) (B O T : List Str) (hB : LnS w vb B) (hO : LnS w vo O) (hT : LnS w vt T) (lo : O.length ≤ 2000) (lt : T.length ≤ 2000) (fo : O.flatten.length ≤ 100000) (ft : T.flatten.length ≤ 100000) :
    Calls Try.prog 61 #[vb, vo, vt] w fun e w' => e = .returned (.tuple #[.string (sb (pieceT B O T)), .int .i64 (pieceN B O T : Nat)]) ∧ Only (fun _ => False) w w' := by
  have C1 := hide (sameS_any vo vb O B hO hB (by omega))
  have C2 := hide (fun W (hW : Only (fun _ => False) w W) => sameS_any vt vb T B (hT.keep hW (fun _ _ h => h)) (hB.keep hW (fun _ _ h => h)) (by omega))
  have C3 := hide (fun W (hW : Only (fun _ => False) w W) => sameS_any vo vt O T (hO.keep hW (fun _ _ h => h)) (hT.keep hW (fun _ _ h => h)) (by omega))
  have JO := hide (fun W (hW : Only (fun _ => False) w W) => joinS_any vo O (hO.keep hW (fun _ _ h => h)) (by omega) (by omega))
  have JT := hide (fun W (hW : Only (fun _ => False) w W) => joinS_any vt T (hT.keep hW (fun _ _ h => h)) (by omega) (by omega))
  have KO := hide (fun W (hW : Only (fun _ => False) w W) => aclosed_any vo O (hO.keep hW (fun _ _ h => h)) (by omega) (by omega))
  have KT := hide (fun W (hW : Only (fun _ => False) w W) => aclosed_any vt T (hT.keep hW (fun _ _ h => h)) (by omega) (by omega))
  obtain ⟨ba, bc, rfl, _⟩ := hB
  obtain ⟨oa, oc, rfl, _⟩ := hO
  obtain ⟨ta, tc, rfl, _⟩ := hT
  generalize hpn : pieceN B O T = pn
  generalize hR : pieceT B O T = R
  unfold pieceN at hpn
  unfold pieceT at hR
  have Hpn := hide hpn
  have HR := hide hR
  clear hpn hR
  by_cases e1 : O = B
  · rw [decide_eq_true e1] at C1
    have EE : Hid (pn = 0 ∧ R = T.flatten) := hide ⟨by rw [← unhide Hpn, if_pos e1], by rw [← unhide HR, if_pos e1]⟩
    clear e1 Hpn HR
    go_enter Try.func61, Try.ntmps61
    go_wp2_with fail
    refine (unhide C1).mono ?_
    rintro e w1 ⟨rfl, o1⟩
    go_wp2_with fail
    refine (unhide JT w1 o1).mono ?_
    rintro e w2 ⟨rfl, rfl⟩
    go_wp2_with fail
    go_ret2
    rw [(unhide EE).1, (unhide EE).2]
    exact ⟨rfl, o1⟩
  · rw [decide_eq_false e1] at C1
    by_cases e2 : T = B
    · rw [decide_eq_true e2] at C2
      have EE : Hid (pn = 0 ∧ R = O.flatten) := hide ⟨by rw [← unhide Hpn, if_neg e1, if_pos e2], by rw [← unhide HR, if_neg e1, if_pos e2]⟩
      clear e1 e2 Hpn HR
      go_enter Try.func61, Try.ntmps61
      go_wp2_with fail
      refine (unhide C1).mono ?_
      rintro e w1 ⟨rfl, o1⟩
      go_wp2_with fail
      refine (unhide C2 w1 o1).mono ?_
      rintro e w2 ⟨rfl, o2⟩
      have o12 := o1.trans o2 (fun _ _ h => h)
      go_wp2_with fail
      refine (unhide JO w2 o12).mono ?_
      rintro e w3 ⟨rfl, rfl⟩
      go_wp2_with fail
      go_ret2
      rw [(unhide EE).1, (unhide EE).2]
      exact ⟨rfl, o12⟩
    · rw [decide_eq_false e2] at C2
      by_cases e3 : O = T
      · rw [decide_eq_true e3] at C3
        have EE : Hid (pn = 0 ∧ R = O.flatten) := hide ⟨by rw [← unhide Hpn, if_neg e1, if_neg e2, if_pos e3], by rw [← unhide HR, if_neg e1, if_neg e2, if_pos e3]⟩
        clear e1 e2 e3 Hpn HR
        go_enter Try.func61, Try.ntmps61
        go_wp2_with fail
        refine (unhide C1).mono ?_
        rintro e w1 ⟨rfl, o1⟩
        go_wp2_with fail
        refine (unhide C2 w1 o1).mono ?_
        rintro e w2 ⟨rfl, o2⟩
        have o12 := o1.trans o2 (fun _ _ h => h)
        go_wp2_with fail
        refine (unhide C3 w2 o12).mono ?_
        rintro e w3 ⟨rfl, o3⟩
        have o13 := o12.trans o3 (fun _ _ h => h)
        go_wp2_with fail
        refine (unhide JO w3 o13).mono ?_
        rintro e w4 ⟨rfl, rfl⟩
        go_wp2_with fail
        go_ret2
        rw [(unhide EE).1, (unhide EE).2]
        exact ⟨rfl, o13⟩
      · rw [decide_eq_false e3] at C3
        have EE : Hid (pn = 1 ∧ R = markO ++ closeS O.flatten ++ markM ++ closeS T.flatten ++ markT) := hide ⟨by rw [← unhide Hpn, if_neg e1, if_neg e2, if_neg e3], by rw [← unhide HR, if_neg e1, if_neg e2, if_neg e3]⟩
        have l1 := closeS_len O.flatten
        have l2 := closeS_len T.flatten
        generalize closeS O.flatten = cO at *
        generalize closeS T.flatten = cT at *
        have k1 := cat_sb markO cO (by have : markO.length = 8 := rfl; omega)
        have k2 := cat_sb (markO ++ cO) markM (by rw [List.length_append]; have : markO.length = 8 := rfl; have : markM.length = 8 := rfl; omega)
        have k3 := cat_sb (markO ++ cO ++ markM) cT (by rw [List.length_append, List.length_append]; have : markO.length = 8 := rfl; have : markM.length = 8 := rfl; omega)
        have k4 := cat_sb (markO ++ cO ++ markM ++ cT) markT (by rw [List.length_append, List.length_append, List.length_append]; have : markO.length = 8 := rfl; have : markM.length = 8 := rfl; have : markT.length = 8 := rfl; omega)
        have m1 : sb markO = ⟨#[60, 60, 60, 60, 60, 60, 60, 10]⟩ := rfl
        have m2 : sb markM = ⟨#[61, 61, 61, 61, 61, 61, 61, 10]⟩ := rfl
        have m3 : sb markT = ⟨#[62, 62, 62, 62, 62, 62, 62, 10]⟩ := rfl
        rw [m1] at k1
        rw [m2] at k2
        rw [m3] at k4
        generalize h5 : markO ++ cO ++ markM ++ cT ++ markT = R5 at *
        generalize h4 : markO ++ cO ++ markM ++ cT = R4 at *
        generalize h3 : markO ++ cO ++ markM = R3 at *
        generalize h2 : markO ++ cO = R2 at *
        clear e1 e2 e3 Hpn HR h5 h4 h3 h2 m1 m2 m3
        go_enter Try.func61, Try.ntmps61
        go_wp2_with fail
        refine (unhide C1).mono ?_
        rintro e w1 ⟨rfl, o1⟩
        go_wp2_with fail
        refine (unhide C2 w1 o1).mono ?_
        rintro e w2 ⟨rfl, o2⟩
        have o12 := o1.trans o2 (fun _ _ h => h)
        go_wp2_with fail
        refine (unhide C3 w2 o12).mono ?_
        rintro e w3 ⟨rfl, o3⟩
        have o13 := o12.trans o3 (fun _ _ h => h)
        go_wp2_with fail
        refine (unhide KO w3 o13).mono ?_
        rintro e w4 ⟨rfl, rfl⟩
        go_wp2_with fail
        refine (unhide KT w3 o13).mono ?_
        rintro e w5 ⟨rfl, rfl⟩
        go_wp2_with fail
        go_ret2
        rw [(unhide EE).1, (unhide EE).2]
        exact ⟨rfl, o13⟩
end Go.Proofs.Qxb6500416a
