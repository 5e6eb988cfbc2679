/-
  OWN WORK. THE B-TREE LAW: Entries, Thrift, Bracket, Stateless.
-/
import Derived.Test.Qxb6500410aGreatZWlk
import Derived.Test.Qxb6500410aGreatZLook
namespace Go.Proofs.Qxb6500410aGreat
open Go.RowKit Go.PlainAid
set_option linter.unusedSimpArgs false
set_option linter.unusedVariables false

theorem nodup_sub : ∀ (l us : List Nat), l.Nodup → (∀ x ∈ l, x ∈ us) → l.length ≤ us.length
  | [], us, _, _ => Nat.zero_le _
  | a :: r, us, hn, hs => by
    obtain ⟨h1, h2⟩ := List.nodup_cons.mp hn
    have ha := hs a (by simp)
    have := nodup_sub r (us.erase a) h2 (fun x hx => (List.mem_erase_of_ne (fun (e : x = a) => h1 (by rw [← e]; exact hx))).mpr (hs x (by simp [hx])))
    rw [List.length_erase_of_mem ha] at this
    have : 0 < us.length := List.length_pos_of_mem ha
    simp
    omega
/-- What Thrift allows to a tree. -/
def mostT (S : Vu) (i : Nat) : Nat := match S i with
  | none => 0
  | some l => if 2 < l.length then l.length - 1 else 1
def mostU (S : Vu) : Nat → Nat
  | 0 => 1
  | i + 1 => mostU S i + mostT S i
theorem used_count {view : List ByteArray} {us : List Nat} (hc : Cov (NV view) us) : 71 ≤ cnt (usedV view) 72 + us.length := by
  have h1 : ((List.range 72).filter (fun n => n != 0 && usedV view n)).length ≤ us.length := by
    refine nodup_sub _ _ (List.nodup_range.filter _) (fun x hx => ?_)
    obtain ⟨h1, h2⟩ := List.mem_filter.mp hx
    have h3 := List.mem_range.mp h1
    simp at h2
    exact hc x _ (NV_in (by omega) h3 h2.2)
  have h2 : ∀ l : List Nat, (l.filter (fun n => n != 0 && usedV view n)).length + (l.filter (fun n => n != 0 && !usedV view n)).length = (l.filter (fun n => n != 0)).length := by
    intro l
    induction l with
    | nil => rfl
    | cons a r ih =>
      simp only [List.filter_cons]
      by_cases c : a = 0
      · simp [c]; simpa using ih
      · cases hu : usedV view a <;> simp [c] <;> omega
  have h3 := h2 (List.range 72)
  have h4 : ((List.range 72).filter (fun n => n != 0)).length = 71 := by decide
  unfold cnt
  omega
theorem mostT_ge {N : Nat → Option ByteArray} {F : Fo} (I : FI N F) {i : Nat} (hi : i < 8) : (pgsR (F i)).length ≤ mostT (vu F) i := by
  have h := I.thr hi
  unfold mostT vu
  rw [if_pos hi]
  cases hf : F i with
  | none => simp [pgsR]
  | some r =>
    rw [hf] at h
    have e : lR (some r) = some (entsR (some r)) := rfl
    rw [e]
    simp only
    split <;> omega
theorem most_ge {N : Nat → Option ByteArray} {F : Fo} (I : FI N F) : (1 :: all8 pgsR F).length ≤ mostU (vu F) 8 := by
  have h0 := mostT_ge I (i := 0) (by omega)
  have h1 := mostT_ge I (i := 1) (by omega)
  have h2 := mostT_ge I (i := 2) (by omega)
  have h3 := mostT_ge I (i := 3) (by omega)
  have h4 := mostT_ge I (i := 4) (by omega)
  have h5 := mostT_ge I (i := 5) (by omega)
  have h6 := mostT_ge I (i := 6) (by omega)
  have h7 := mostT_ge I (i := 7) (by omega)
  have e := len8 pgsR F
  simp only [mostU, List.length_cons]
  omega
theorem mostT_le {S : Vu} (V : Vok S) (i : Nat) : mostT S i ≤ 64 := by
  unfold mostT
  cases hs : S i with
  | none => simp
  | some l =>
    have := V.eSlen i
    unfold eS at this
    rw [hs] at this
    simp only [Option.getD_some] at this
    simp only
    split <;> omega
theorem mostU_le {S : Vu} (V : Vok S) : ∀ i, mostU S i ≤ 1 + 64 * i
  | 0 => by simp [mostU]
  | i + 1 => by
    have := mostU_le V i
    have := mostT_le V i
    simp only [mostU]
    omega
theorem thrift_law {view : List ByteArray} {F : Fo} (I : FI (NV view) F) : (71 : Int) - (cnt (usedV view) 72 : Int) ≤ (mostU (vu F) 8 : Int) := by
  have h1 := used_count I.cov
  have h2 := most_ge I
  omega
theorem WW.len {S S' : Vu} {h : Int} {m : Nat} {k : ByteArray} {past : Bool} {p r r' : List KV} (o : WW S S' h m k past p r r') (h2 : (Vz S' h).isSome = true) (hg : sC S' h k past ≠ 0) : (Lz S' h).length = m := by
  have : r'.head? = none := by
    rw [(sA_of h2).2, o.s'] at hg
    cases hr : r'.head? with
    | none => rfl
    | some x => rw [hr] at hg; exact absurd rfl hg
  rw [List.head?_eq_none_iff] at this
  rw [o.l', this, o.m]
  simp
section
variable {q : Gnd} {w w' : World} {op : Bool} {vw : List ByteArray} {S T U : Vu} {z : Nat} {hist : Option Vu} {H : Nat → Prop}
set_option maxRecDepth 100000 in
set_option maxHeartbeats 4000000 in
theorem entries_any (Z : ZAt w z S T U hist op H) (h : Int) : Calls Tryz.prog 103 #[.pointer (some ⟨z, 0, none⟩), .int .i64 h] w fun e w' => e = .returned (.int .i64 (Lz S h).length) ∧ Only (fun _ => False) w w' := by
  have C1 := zseek_any Z h bE
  rw [seekS_eq] at C1
  unfold bE at C1
  have C1 := hide C1
  go_enter Tryz.func103, Tryz.ntmps103
  go_wp2_with fail
  refine (unhide C1).mono ?_
  rintro e w1 ⟨rfl, o1⟩
  have s1 := o1.size
  have HO := hide o1
  clear o1 C1
  go_upto_region 3 with (first | (refine wpList_alloc_kvd 6 rfl rfl rfl ?_; intro b w2 hB gB oB; have hB := hide hB; have oB := hide oB) | (refine wpList_store_kv rfl _ _ rfl b _ rfl rfl (unhide hB) ?_; intro w3 n3 o3))
  have s2 := (unhide oB).size
  have gb0 : w.heap.size ≤ b := by omega
  have O3 := hide (((unhide HO).q0 (unhide oB)).qn o3 gb0)
  have B3 := hide n3
  clear n3 o3 hB oB HO
  cases hv : (Vz S h).isSome with
  | false =>
    have c7 := sC_bad (k := ⟨#[]⟩) (past := false) hv
    rw [c7]
    have HR := hide (show (Lz S h).length = 0 by
      have n1 : Vz S h = none := by simpa using hv
      unfold Lz
      rw [n1]
      rfl)
    clear hv c7
    go_loopw [5, 7] (fun nv gv wr => nv = .int .i64 0 ∧ gv = .int .i64 7 ∧ wr = w3) (fun _ _ _ => 0)
    case atStart => exact ⟨rfl, rfl, rfl⟩
    case round =>
      obtain ⟨rfl, rfl, rfl⟩ := hrel
      go_wp2_with fail
      go_ret
      exact ⟨by rw [unhide HR]; rfl, unhide O3⟩
  | true =>
    go_loopw [5, 7] (fun nv gv wr => ∃ (m : Nat) (k : ByteArray) (past : Bool) (p r r' : List KV), nv = .int .i64 m ∧ gv = .int .i64 (sC S h k past) ∧ WW S S h m k past p r r' ∧ KvAt wr b (sA S h k past) ∧ Only (fun _ => False) w wr) (fun nv _ _ => 65 - (intOf nv).toNat)
    case atStart => exact ⟨0, bE, false, [], _, _, rfl, rfl, WW.start, unhide B3, unhide O3⟩
    case round =>
      clear B3 O3
      obtain ⟨m, k, past, p, r, r', rfl, rfl, W, B5, O5⟩ := hrel
      have m64 := W.short Z.s
      have n1 : decide ((m : Int) < 65) = true := decide_eq_true (by omega)
      have n1p : (m : Int) < 65 := by omega
      rcases sC_good (k := k) (past := past) hv with c0 | c9
      · rw [c0]
        obtain ⟨m63, hG, hW⟩ := W.next Z.s Z.s hv hv (sameS_eq rfl) c0
        have hW := hide hW
        generalize ex : sA S h k past = x at *
        have c1 := B5.k.1
        have C5 := znext_any (Z.quiet O5) h x.1
        rw [seekS_eq] at C5
        have C5 := hide C5
        have B5 := hide B5
        have O5 := hide O5
        clear W c0 hG
        go_wp2_with fail
        refine (unhide C5).mono ?_
        rintro e w8 ⟨rfl, o8⟩
        have O8 := hide ((unhide O5).q0 o8)
        have B8 := hide ((unhide B5).keep o8 (fun h => h))
        clear o8 O5 B5 C5 c1
        go_wp2_with (first | (refine wpList_store_kv rfl _ _ rfl b _ rfl rfl (unhide B8) ?_; intro w9 n9 o9))
        go_roundw
        case rel =>
          obtain ⟨p2, r2, r2', W2⟩ := unhide hW
          exact ⟨m + 1, x.1, true, p2, r2, r2', by go_num, rfl, W2, n9, (unhide O8).qn o9 gb0⟩
        case measure => simp [intOf]; omega
      · rw [c9]
        have HR := hide (W.len hv (by rw [c9]; decide))
        have O5 := hide O5
        clear B5 W c9
        go_wp2_with fail
        go_ret
        exact ⟨by rw [unhide HR]; rfl, unhide O5⟩
set_option maxRecDepth 100000 in
set_option maxHeartbeats 4000000 in
theorem thrift_any (A : FW q w op vw S) (Z : ZAt w z S T U hist op H) (sep : ∀ k, H k → ¬ q.S k) : Calls Tryz.prog 55 #[gbV q.d q.p, .pointer (some ⟨z, 0, none⟩)] w fun e w' => e = .returned (.bool true) ∧ FW q w' op vw S ∧ Only q.S w w' := by
  have B0 : Has (w.alloc (.cells #[.pointer (some ⟨q.d, 0, none⟩), .pointer (some ⟨q.p, 0, none⟩)] 31)) w.heap.size #[.pointer (some ⟨q.d, 0, none⟩), .pointer (some ⟨q.p, 0, none⟩)] 31 := Has.new _ _ _
  have o0 : Only (fun _ => False) w (w.alloc (.cells #[.pointer (some ⟨q.d, 0, none⟩), .pointer (some ⟨q.p, 0, none⟩)] 31)) := (Only.refl _ w).alloc _
  unfold gbV
  go_enter Tryz.func55, Tryz.ntmps55
  go_upto_region 3 with fail
  generalize w.alloc (.cells #[.pointer (some ⟨q.d, 0, none⟩), .pointer (some ⟨q.p, 0, none⟩)] 31) = w0 at *
  go_loopw [5, 6] (fun mv hv wr => ∃ i : Nat, i ≤ 8 ∧ hv = .int .i64 i ∧ mv = .int .i64 (mostU S i : Nat) ∧ Only (fun _ => False) w0 wr) (fun _ hv _ => 8 - (intOf hv).toNat)
  case atStart => exact ⟨0, by omega, rfl, rfl, Only.refl _ _⟩
  case round =>
    obtain ⟨i, hi, rfl, rfl, oR⟩ := hrel
    have mle := mostU_le A.ok i
    have mleI : (mostU S i : Int) ≤ 600 := by omega
    by_cases h8 : i < 8
    · have a1 : decide ((i : Int) < 8) = true := decide_eq_true (by omega)
      have a2 : (i : Int) < 8 := by omega
      have C1 := zused_any ((Z.quiet o0).quiet oR) (i : Int)
      have eV : Vz S (i : Int) = S i := by unfold Vz; rw [if_pos (by omega)]; rfl
      have eL : Lz S (i : Int) = (S i).getD [] := by unfold Lz; rw [eV]
      rw [eV] at C1
      have hs : mostU S (i + 1) = mostU S i + mostT S i := rfl
      cases hS : S i with
      | none =>
        rw [hS] at C1
        have C1 := hide C1
        have hm : mostT S i = 0 := by unfold mostT; rw [hS]
        rw [hm] at hs
        have HS := hide hs
        have OR := hide oR
        clear hs hm oR eV eL hS mle
        go_wp2_with fail
        refine (unhide C1).mono ?_
        rintro e w2 ⟨rfl, rfl⟩
        go_wp2_with fail
        go_roundw
        case rel => exact ⟨i + 1, by omega, by go_num, by rw [unhide HS]; rfl, unhide OR⟩
        case measure => simp [intOf]; omega
      | some l =>
        rw [hS] at C1 eL
        have C1 := hide C1
        have C2 := entries_any ((Z.quiet o0).quiet oR) (i : Int)
        rw [eL] at C2
        have C2 := hide C2
        have hl := A.ok.eSlen i
        unfold eS at hl
        rw [hS] at hl
        simp only [Option.getD_some] at hl
        have hm : mostT S i = if 2 < l.length then l.length - 1 else 1 := by unfold mostT; rw [hS]
        by_cases h2 : 2 < l.length
        · rw [if_pos h2] at hm
          rw [hm] at hs
          have a3 : decide ((l.length : Int) > 2) = true := decide_eq_true (by omega)
          have a3' : decide (2 < (l.length : Int)) = true := decide_eq_true (by omega)
          have ee : ((mostU S i + (l.length - 1) : Nat) : Int) = (mostU S i : Int) + ((l.length : Int) - 1) := by omega
          have lI : (l.length : Int) ≤ 64 := by omega
          have HS := hide (And.intro hs ee)
          have OR := hide oR
          clear hs hm oR eV eL hS mle ee
          go_wp2_with fail
          refine (unhide C1).mono ?_
          rintro e w2 ⟨rfl, rfl⟩
          go_wp2_with fail
          refine (unhide C2).mono ?_
          rintro e w3 ⟨rfl, o3⟩
          have O3 := hide ((unhide OR).q0 o3)
          clear o3
          simp only [Option.getD_some]
          go_wp2_with fail
          go_roundw
          case rel => exact ⟨i + 1, by omega, by go_num, by rw [(unhide HS).1, (unhide HS).2], unhide O3⟩
          case measure => simp [intOf]; omega
        · rw [if_neg h2] at hm
          rw [hm] at hs
          have a3 : decide ((l.length : Int) > 2) = false := decide_eq_false (by omega)
          have a3' : decide (2 < (l.length : Int)) = false := decide_eq_false (by omega)
          have lI : (l.length : Int) ≤ 64 := by omega
          have HS := hide hs
          have OR := hide oR
          clear hs hm oR eV eL hS mle
          go_wp2_with fail
          refine (unhide C1).mono ?_
          rintro e w2 ⟨rfl, rfl⟩
          go_wp2_with fail
          refine (unhide C2).mono ?_
          rintro e w3 ⟨rfl, o3⟩
          have O3 := hide ((unhide OR).q0 o3)
          clear o3
          simp only [Option.getD_some]
          go_wp2_with fail
          go_roundw
          case rel => exact ⟨i + 1, by omega, by go_num, by rw [unhide HS]; go_num, unhide O3⟩
          case measure => simp [intOf]; omega
    · obtain rfl : i = 8 := by omega
      have a1 : decide (((8 : Nat) : Int) < 8) = false := decide_eq_false (by omega)
      have A8 := (A.quiet o0).quiet oR
      have c1 := (B0.keep oR (fun h => h)).cell 1
      simp at c1
      have C1 := pfreePages_any A8.fa.pg
      obtain ⟨F, _, I, eS_⟩ := A
      have tl := thrift_law I
      have cn72 : (cnt (usedV vw) 72 : Int) ≤ 72 := by
        have h1 : cnt (usedV vw) 72 ≤ 72 := by
          unfold cnt
          exact Nat.le_trans (List.length_filter_le _ _) (by simp)
        omega
      rw [eS_] at tl
      generalize cnt (usedV vw) 72 = cn at *
      have b1 : decide ((71 : Int) - (cn : Int) ≤ (mostU S 8 : Int)) = true := decide_eq_true tl
      have b1p : (71 : Int) - (cn : Int) ≤ (mostU S 8 : Int) := tl
      have C1 := hide C1
      have OR := hide (And.intro A8 (o0.trans oR (fun _ _ h => h)))
      clear A8 oR o0 tl mle
      generalize mostU S 8 = mU at *
      go_wp2_with fail
      refine (unhide C1).mono ?_
      rintro e w3 ⟨rfl, p3, o3⟩
      have FF := hide (And.intro ((unhide OR).1.turn ((unhide OR).1.fa.turn p3 o3)) ((unhide OR).2.up.qt o3))
      clear p3 o3
      go_wp2_with fail
      go_ret
      exact ⟨by first | rfl | trivial | simp, unhide FF⟩
set_option maxRecDepth 100000 in
theorem bracket_any (A : FW q w op vw S) (Z : ZAt w z S T U hist op H) : Calls Tryz.prog 56 #[gbV q.d q.p, .pointer (some ⟨z, 0, none⟩)] w fun e w' => e = .returned (.bool true) ∧ Only (fun _ => False) w w' := by
  have o0 : Only (fun _ => False) w (w.alloc (.cells #[.pointer (some ⟨q.d, 0, none⟩), .pointer (some ⟨q.p, 0, none⟩)] 31)) := (Only.refl _ w).alloc _
  have C1 := hide (pintxn_any (A.quiet o0).fa.pg)
  have C2 := hide (zintxn_any (Z.quiet o0))
  have b1 : (op == op) = true := by simp
  unfold gbV
  go_enter Tryz.func56, Tryz.ntmps56
  go_wp2_with fail
  refine (unhide C1).mono ?_
  rintro e w1 ⟨rfl, rfl⟩
  go_wp2_with fail
  refine (unhide C2).mono ?_
  rintro e w2 ⟨rfl, rfl⟩
  go_wp2_with fail
  go_ret
  exact ⟨by first | rfl | simp, o0⟩
set_option maxRecDepth 100000 in
theorem stateless_any (A : FW q w op vw S) (Z : ZAt w z S T U hist op H) (sep : ∀ k, H k → ¬ q.S k) : Calls Tryz.prog 57 #[gbV q.d q.p, .pointer (some ⟨z, 0, none⟩)] w fun e w' => e = .returned (.bool true) ∧ FW q w' op vw S ∧ Only q.S w w' := by
  have o0 : Only (fun _ => False) w (w.alloc (.cells #[.pointer (some ⟨q.d, 0, none⟩), .pointer (some ⟨q.p, 0, none⟩)] 31)) := (Only.refl _ w).alloc _
  have A0 := A.quiet o0
  have Z0 := Z.quiet o0
  have hu : ∃ b, NV vw 1 = some b := by obtain ⟨F, _, I, _⟩ := A; exact I.n1
  have C1 := hide (bopen_used A0.fa.pg hu)
  have HH := hide (And.intro A0 (And.intro Z0 o0))
  clear A0 Z0 o0
  unfold gbV
  go_enter Tryz.func57, Tryz.ntmps57
  go_wp2_with fail
  refine (unhide C1).mono ?_
  rintro e w1 ⟨f, rfl, hf, A1, o1⟩
  have o1 : Only q.S _ w1 := o1
  have Z1 := (unhide HH).2.1.keep o1 sep
  obtain ⟨F, _, I, eS_⟩ := (unhide HH).1
  have W1 : FW ⟨f, q.p, q.l, q.d, q.blk, q.base, q.recs, q.com, q.F, q.G⟩ w1 op vw S := ⟨F, A1, I, eS_⟩
  have C2 := hide (alikeB_any W1 Z1 sep)
  have OO := hide (And.intro A1 o1)
  clear W1 Z1 A1 o1
  go_wp2_with fail
  refine (unhide C2).mono ?_
  rintro e w2 ⟨b, rfl, hb, A2, o2⟩
  obtain rfl := hb.mpr (by first | exact ⟨rfl, rfl⟩ | trivial | simp)
  have o2 : Only q.S w1 w2 := o2
  have o12 := (unhide OO).2.qt o2
  have FF := hide (And.intro ((unhide HH).1.turn ((unhide HH).1.fa.turn A2.fa.pg o12)) ((unhide HH).2.2.up.qt o12))
  clear A2 o2 o12 hb
  go_wp2_with fail
  go_ret
  exact ⟨by first | rfl | trivial, unhide FF⟩
end
end Go.Proofs.Qxb6500410aGreat
