/-
  OWN WORK. THE FOREST MODEL: place, Get, Seek, Next.
-/
import Derived.Test.Qxb6500410aGreatZMem
import Derived.Test.Qxb6500410aGreatBGr
import Derived.Deep.RegionHeld3
namespace Go.Proofs.Qxb6500410aGreat
open Go.RowKit Go.PlainAid
set_option linter.unusedSimpArgs false
set_option linter.unusedVariables false

theorem ltT {a b : ByteArray} (h : lt a b = false) (hn : b ≠ a) : lt b a = true := by
  rcases lt_total a b with c | c | c
  · rw [h] at c; cases c
  · exact absurd c.symm hn
  · exact c
/-- The least place whose key is not below k. -/
def plL (k : ByteArray) : List KV → Nat
  | [] => 0
  | e :: r => if lt e.1 k = true then plL k r + 1 else 0
def hitL (k : ByteArray) (l : List KV) : Bool := match l[plL k l]? with
  | none => false
  | some e => decide (k = e.1)
theorem plL_le (k : ByteArray) (l : List KV) : plL k l ≤ l.length := by
  induction l with
  | nil => simp [plL]
  | cons e r ih =>
    unfold plL
    split
    · simp; omega
    · simp
theorem plL_low (k : ByteArray) : ∀ (l : List KV) (j : Nat) (e : KV), j < plL k l → l[j]? = some e → lt e.1 k = true
  | [], j, e, h, _ => by simp [plL] at h
  | a :: r, 0, e, h, he => by
    obtain rfl : a = e := by simpa using he
    unfold plL at h
    by_cases c : lt a.1 k = true
    · exact c
    · rw [if_neg c] at h; omega
  | a :: r, j + 1, e, h, he => by
    unfold plL at h
    by_cases c : lt a.1 k = true
    · rw [if_pos c] at h
      exact plL_low k r j e (by omega) (by simpa using he)
    · rw [if_neg c] at h; omega
theorem plL_at (k : ByteArray) : ∀ (l : List KV) (e : KV), l[plL k l]? = some e → lt e.1 k = false
  | [], e, h => by simp at h
  | a :: r, e, h => by
    unfold plL at h
    by_cases c : lt a.1 k = true
    · rw [if_pos c] at h
      exact plL_at k r e (by simpa using h)
    · rw [if_neg c] at h
      obtain rfl : a = e := by simpa using h
      cases h2 : lt a.1 k with
      | true => exact absurd h2 c
      | false => rfl
/-- A place is the one if all before are below and it is not. -/
theorem plL_is (k : ByteArray) (l : List KV) (i : Nat) (hi : i ≤ l.length) (h1 : ∀ j e, j < i → l[j]? = some e → lt e.1 k = true) (h2 : ∀ e, l[i]? = some e → lt e.1 k = false) : plL k l = i := by
  rcases Nat.lt_trichotomy (plL k l) i with c | c | c
  · obtain ⟨e, he⟩ : ∃ e, l[plL k l]? = some e := ⟨l[plL k l]'(by omega), List.getElem?_eq_getElem _⟩
    have a := h1 _ e c he
    rw [plL_at k l e he] at a
    cases a
  · exact c
  · have := plL_le k l
    obtain ⟨e, he⟩ : ∃ e, l[i]? = some e := ⟨l[i]'(by omega), List.getElem?_eq_getElem _⟩
    have a := plL_low k l i e c he
    rw [h2 e he] at a
    cases a
theorem getL_pl {k : ByteArray} {l : List KV} (hs : Srt l) : getL k l = if hitL k l = true then (l[plL k l]?).map (·.2) else none := by
  unfold hitL
  cases he : l[plL k l]? with
  | none =>
    simp only
    rw [if_neg (by simp)]
    refine getL_none (fun e hm hk => ?_)
    obtain ⟨j, hj⟩ := List.getElem?_of_mem hm
    have hjl := (List.getElem?_eq_some_iff.mp hj).1
    have hp := List.getElem?_eq_none_iff.mp he
    have := plL_low k l j e (by omega) hj
    rw [hk, lt_irr] at this
    cases this
  | some e =>
    simp only
    by_cases c : k = e.1
    · rw [if_pos (by simpa using c)]
      exact getL_mem hs (List.mem_of_getElem? he) c.symm
    · rw [if_neg (by simpa using c)]
      refine getL_none (fun f hm hk => ?_)
      obtain ⟨j, hj⟩ := List.getElem?_of_mem hm
      have a1 := plL_at k l e he
      rcases Nat.lt_trichotomy j (plL k l) with d | d | d
      · have := plL_low k l j f d hj
        rw [hk, lt_irr] at this
        cases this
      · rw [d, he] at hj
        cases hj
        exact c hk.symm
      · have hjl := (List.getElem?_eq_some_iff.mp hj)
        have hel := (List.getElem?_eq_some_iff.mp he)
        have h3 := List.pairwise_iff_getElem.mp hs (plL k l) j hel.1 hjl.1 d
        rw [hel.2, hjl.2, hk, a1] at h3
        cases h3
theorem seekL_pl {k : ByteArray} {l : List KV} : seekL k false l = l[plL k l]? := by
  cases he : l[plL k l]? with
  | none =>
    have hp := List.getElem?_eq_none_iff.mp he
    refine seekL_less (fun e hm => ?_)
    obtain ⟨j, hj⟩ := List.getElem?_of_mem hm
    have hjl := (List.getElem?_eq_some_iff.mp hj).1
    exact plL_low k l j e (by omega) hj
  | some e =>
    refine seekL_at (i := plL k l) (fun j f hj hf => ?_) he ?_
    · have := plL_low k l j f hj hf
      unfold hit
      rw [lt_asymm this]
      simp
      intro e
      rw [e, lt_irr] at this
      cases this
    · have := plL_at k l e he
      unfold hit
      by_cases c : e.1 = k
      · simp [c]
      · have := ltT this (fun d => c d.symm)
        simp [this]
theorem nextL_pl {k : ByteArray} {l : List KV} (hs : Srt l) : seekL k true l = l[plL k l + (hitL k l).toNat]? := by
  unfold hitL
  cases he : l[plL k l]? with
  | none =>
    simp only [Bool.toNat_false, Nat.add_zero, he]
    have hp := List.getElem?_eq_none_iff.mp he
    refine seekL_less (fun e hm => ?_)
    obtain ⟨j, hj⟩ := List.getElem?_of_mem hm
    have hjl := (List.getElem?_eq_some_iff.mp hj).1
    exact plL_low k l j e (by omega) hj
  | some e =>
    simp only
    have low : ∀ (j : Nat) (f : KV), j < plL k l → l[j]? = some f → hit k true f = false := fun j f hj hf => by
      have := plL_low k l j f hj hf
      unfold hit
      rw [lt_asymm this]
      simp
    have a1 := plL_at k l e he
    by_cases c : k = e.1
    · have : (decide (k = e.1)).toNat = 1 := by simp [c]
      rw [this]
      cases hf : l[plL k l + 1]? with
      | none =>
        have hp := List.getElem?_eq_none_iff.mp hf
        unfold seekL
        refine List.find?_eq_none.mpr (fun g hm => ?_)
        obtain ⟨j, hj⟩ := List.getElem?_of_mem hm
        have hjl := (List.getElem?_eq_some_iff.mp hj).1
        rcases Nat.lt_or_ge j (plL k l) with d | d
        · rw [low j g d hj]; simp
        · have : j = plL k l := by omega
          rw [this, he] at hj
          cases hj
          unfold hit
          rw [c, lt_irr]
          simp
      | some f =>
        have hfl := (List.getElem?_eq_some_iff.mp hf)
        have hel := (List.getElem?_eq_some_iff.mp he)
        refine seekL_at (i := plL k l + 1) (fun j g hj hg => ?_) hf ?_
        · rcases Nat.lt_or_ge j (plL k l) with d | d
          · exact low j g d hg
          · have : j = plL k l := by omega
            rw [this, he] at hg
            cases hg
            unfold hit
            rw [c, lt_irr]
            simp
        · have h3 := List.pairwise_iff_getElem.mp hs (plL k l) (plL k l + 1) hel.1 hfl.1 (by omega)
          rw [hel.2, hfl.2, ← c] at h3
          unfold hit
          rw [h3]
          simp
    · have : (decide (k = e.1)).toNat = 0 := by simp [c]
      rw [this, Nat.add_zero, he]
      refine seekL_at (i := plL k l) low he ?_
      have := ltT a1 c
      unfold hit
      rw [this]
      simp
section
variable {w w' : World} {m : Nat} {S T U : Vu} {hist : Option Vu} {op : Bool} {H : Nat → Prop}
set_option maxRecDepth 100000 in
set_option maxHeartbeats 4000000 in
theorem zplace_any (h : ZAt w m S T U hist op H) {i : Nat} (hi : i < 8) (k : ByteArray) : Calls Tryz.prog 143 #[.pointer (some ⟨m, 0, none⟩), .int .i64 i, .string k] w fun e w' => e = .returned (.tuple #[.int .i64 (plL k (eS S i)), .bool (hitL k (eS S i))]) ∧ Only (fun _ => False) w w' := by
  obtain ⟨es, c1, c2, E, c4⟩ := h.look
  have d := c2 i hi
  have On := E.own i hi
  obtain ⟨a, cap, he⟩ := On.shape
  rw [he] at d On
  have hlen : (eS S i).length ≤ 64 := by
    have := h.s.len (i : Int)
    unfold Lz Vz at this
    rw [if_pos (by omega)] at this
    exact this
  generalize eS S i = l at *
  have iI : (i : Int) < 8 := by omega
  clear c1 c2 he E h
  go_enter Tryz.func143, Tryz.ntmps143
  go_upto_region 3 with fail
  go_loopw [9] (fun jv wr => ∃ j : Nat, jv = .int .i64 j ∧ j ≤ l.length ∧ (∀ n e, n < j → l[n]? = some e → lt e.1 k = true) ∧ wr = w) (fun jv _ => 65 - (intOf jv).toNat)
  case atStart => exact ⟨0, rfl, by omega, fun n e hn => absurd hn (by omega), rfl⟩
  case round =>
    obtain ⟨j, rfl, hj, hb, rfl⟩ := hrel
    have HB := hide hb
    clear hb
    by_cases hs : j < l.length
    · have a1 : decide ((j : Int) < (l.length : Int)) = true := decide_eq_true (by omega)
      have a1p : (j : Int) < (l.length : Int) := by omega
      obtain ⟨x, hx⟩ := get_ex hs
      obtain ⟨g, rfl, d0, d1⟩ := On.at_ hx
      have HX := hide hx
      clear hx
      cases hlt : lt x.1 k with
      | true =>
        have HL := hide hlt
        have b1 : Op.bytesLess k.toList x.1.toList = false := lt_asymm hlt
        have b2 : (k.toList == x.1.toList) = false := seq_f (fun e => by rw [e, lt_irr] at hlt; cases hlt)
        clear On hlt
        go_wp2_with fail
        go_roundw
        case rel =>
          refine ⟨j + 1, by go_num, by omega, fun n e hn hne => ?_, by first | rfl | trivial⟩
          by_cases c : n = j
          · rw [c, unhide HX] at hne
            cases hne
            exact unhide HL
          · exact unhide HB n e (by omega) hne
        case measure => simp [intOf]; omega
      | false =>
        have hpl : plL k l = j := plL_is k l j (by omega) (unhide HB) (fun e he => by rw [unhide HX] at he; cases he; exact hlt)
        have hh : hitL k l = decide (k = x.1) := by unfold hitL; rw [hpl, unhide HX]
        have HE := hide (And.intro hpl hh)
        clear On hpl hh
        by_cases c : k = x.1
        · have b2 := seq_t c
          have b1 : Op.bytesLess k.toList x.1.toList = false := by rw [c]; exact lt_irr _
          have HC := hide c
          clear c hlt
          go_upto_region 6 with fail
          go_region
          all_goals
            go_wp2_with fail
            go_ret2
            refine ⟨?_, (Only.refl _ _).drew⟩
            rw [(unhide HE).1, (unhide HE).2]
            simp [unhide HC]
        · have b2 := seq_f c
          have b1 : Op.bytesLess k.toList x.1.toList = true := ltT hlt c
          have HC := hide c
          clear c hlt
          go_upto_region 6 with fail
          go_region
          all_goals
            go_wp2_with fail
            go_ret2
            refine ⟨?_, (Only.refl _ _).drew⟩
            rw [(unhide HE).1, (unhide HE).2]
            simp [unhide HC]
    · have a1 : decide ((j : Int) < (l.length : Int)) = false := decide_eq_false (by omega)
      have a1p : ¬ ((j : Int) < (l.length : Int)) := by omega
      have e : j = l.length := by omega
      subst e
      have hpl : plL k l = l.length := plL_is k l _ (by omega) (unhide HB) (fun e he => by simp at he)
      have hh : hitL k l = false := by unfold hitL; rw [hpl]; simp
      have HE := hide (And.intro hpl hh)
      clear On hpl hh
      go_wp2_with fail
      go_ret2
      exact ⟨by rw [(unhide HE).1, (unhide HE).2]; first | done | rfl, Only.refl _ _⟩
theorem Vz_eS {S : Vu} {h : Int} {l : List KV} (e : Vz S h = some l) : ∃ i : Nat, h = (i : Int) ∧ i < 8 ∧ S i = some l ∧ eS S i = l := by
  unfold Vz at e
  by_cases c : 0 ≤ h ∧ h < 8
  · rw [if_pos c] at e
    refine ⟨h.toNat, by omega, by omega, e, ?_⟩
    unfold eS
    rw [e]; rfl
  · rw [if_neg c] at e; cases e
set_option maxRecDepth 100000 in
theorem zget_any (h : ZAt w m S T U hist op H) (i : Int) (k : ByteArray) : Calls Tryz.prog 112 #[.pointer (some ⟨m, 0, none⟩), .int .i64 i, .string k] w fun e w' => e = .returned (getS S i k) ∧ Only (fun _ => False) w w' := by
  have C1 := zused_any h i
  cases hz : Vz S i with
  | none =>
    have hgs : getS S i k = .tuple #[.string bE, .int .i64 7] := by unfold getS; rw [hz]
    rw [hgs]
    rw [hz] at C1
    have C1 := hide C1
    go_enter Tryz.func112, Tryz.ntmps112
    go_wp2_with fail
    refine (unhide C1).mono ?_
    rintro e w1 ⟨rfl, rfl⟩
    go_wp2_with fail
    go_ret2
    exact ⟨rfl, Only.refl _ _⟩
  | some l =>
    have hgs : getS S i k = getV (getL k l) := by unfold getS; rw [hz]
    rw [hgs]
    rw [hz] at C1
    have C1 := hide C1
    obtain ⟨n, rfl, hn, hS, hl⟩ := Vz_eS hz
    have C2 := zplace_any h hn k
    rw [hl] at C2
    have hs := h.s.srt n l hS
    have hg := getL_pl (k := k) hs
    have C2 := hide C2
    cases hh : hitL k l with
    | false =>
      rw [hh] at C2 hg
      rw [if_neg (by simp)] at hg
      rw [hg]
      clear hz hg hs
      go_enter Tryz.func112, Tryz.ntmps112
      go_wp2_with fail
      refine (unhide C1).mono ?_
      rintro e w1 ⟨rfl, rfl⟩
      go_wp2_with fail
      refine (unhide C2).mono ?_
      rintro e w2 ⟨rfl, o2⟩
      go_wp2_with fail
      go_ret2
      exact ⟨rfl, o2⟩
    | true =>
      rw [hh] at C2 hg
      rw [if_pos rfl] at hg
      obtain ⟨x, hx⟩ : ∃ x, l[plL k l]? = some x := by
        unfold hitL at hh
        cases he : l[plL k l]? with
        | none => rw [he] at hh; cases hh
        | some x => exact ⟨x, rfl⟩
      rw [hx] at hg
      rw [hg]
      have hpl := (List.getElem?_eq_some_iff.mp hx).1
      have hlen : l.length ≤ 64 := by
        have := h.s.len (n : Int)
        unfold Lz at this
        rw [hz] at this
        exact this
      clear hz hg hs
      go_enter Tryz.func112, Tryz.ntmps112
      go_wp2_with fail
      refine (unhide C1).mono ?_
      rintro e w1 ⟨rfl, rfl⟩
      go_wp2_with fail
      refine (unhide C2).mono ?_
      rintro e w2 ⟨rfl, o2⟩
      obtain ⟨es, c1, c2, E, c4⟩ := (h.quiet o2).look
      have d := c2 n hn
      have On := E.own n hn
      rw [hl] at On
      obtain ⟨a, cap, he⟩ := On.shape
      rw [he] at d On
      obtain ⟨g, rfl, d0, d1⟩ := On.at_ hx
      have iI : (n : Int) < 8 := by omega
      have jI : (plL k l : Int) < (l.length : Int) := by omega
      have HO := hide o2
      clear c1 c2 he E o2 On hx hh
      go_wp2_with fail
      go_ret2
      exact ⟨rfl, unhide HO⟩
def zsk (l : List KV) (i : Nat) : Value := seV (l[i]?)
set_option maxRecDepth 100000 in
set_option maxHeartbeats 1000000 in
theorem zseek_any (h : ZAt w m S T U hist op H) (i : Int) (k : ByteArray) : Calls Tryz.prog 113 #[.pointer (some ⟨m, 0, none⟩), .int .i64 i, .string k] w fun e w' => e = .returned (seekS S i k false) ∧ Only (fun _ => False) w w' := by
  cases hz : Vz S i with
  | none =>
    have hgs : seekS S i k false = .tuple #[kvA kvD, .int .i64 7] := by unfold seekS; rw [hz]
    rw [hgs]
    go_enter Tryz.func113, Tryz.ntmps113
    go_upto_region 1 with (first | (refine wpList_alloc_kvd 6 rfl rfl rfl ?_; intro p w0 hP gP oP))
    have C1 := zused_any (h.quiet oP) i
    rw [hz] at C1
    have C1 := hide C1
    have HP := hide hP
    have OP := hide oP
    clear hP oP hz
    go_wp2_with fail
    refine (unhide C1).mono ?_
    rintro e w1 ⟨rfl, rfl⟩
    go_wp2_with (first | (refine wpList_store_kv rfl _ _ rfl p kvD rfl rfl (unhide HP) ?_; intro w4 n4 o4))
    refine bodyPost_ret (res2_kv Tryz.results113 _ rfl n4) rfl ?_
    exact ⟨rfl, (unhide OP).trans o4 (fun k hk e => by omega)⟩
  | some l =>
    have hgs : seekS S i k false = seV (seekL k false l) := by unfold seekS; rw [hz]
    rw [hgs]
    obtain ⟨n, rfl, hn, hS, hl⟩ := Vz_eS hz
    have hlen : l.length ≤ 64 := by
      have := h.s.len (n : Int)
      unfold Lz at this
      rw [hz] at this
      exact this
    have hk := seekL_pl (k := k) (l := l)
    go_enter Tryz.func113, Tryz.ntmps113
    go_upto_region 1 with (first | (refine wpList_alloc_kvd 6 rfl rfl rfl ?_; intro p w0 hP gP oP))
    have h0 := h.quiet oP
    have C1 := zused_any h0 (n : Int)
    rw [hz] at C1
    have C2 := zplace_any h0 hn k
    rw [hl] at C2
    have C1 := hide C1
    have C2 := hide C2
    have HP := hide hP
    have OP := hide oP
    clear hP oP hz
    go_wp2_with fail
    refine (unhide C1).mono ?_
    rintro e w1 ⟨rfl, rfl⟩
    go_wp2_with fail
    refine (unhide C2).mono ?_
    rintro e w2 ⟨rfl, o2⟩
    obtain ⟨es, c1, c2, E, c4⟩ := (h0.quiet o2).look
    have d := c2 n hn
    have On := E.own n hn
    rw [hl] at On
    obtain ⟨a, cap, he⟩ := On.shape
    rw [he] at d On
    have iI : (n : Int) < 8 := by omega
    have P2 := hide ((unhide HP).keep o2 (fun h => h))
    have HO := hide ((unhide OP).trans o2 (fun _ _ h => h))
    have hple := plL_le k l
    cases hx : l[plL k l]? with
    | none =>
      have hp := List.getElem?_eq_none_iff.mp hx
      have b1 : decide ((l.length : Int) ≤ (plL k l : Int)) = true := decide_eq_true (by omega)
      rw [hx] at hk
      have HK := hide hk
      clear c1 c2 he E o2 On hx hk
      go_wp2_with (first | (refine wpList_store_kv rfl _ _ rfl p kvD rfl rfl (unhide P2) ?_; intro w4 n4 o4))
      refine bodyPost_ret (res2_kv Tryz.results113 _ rfl n4) rfl ?_
      exact ⟨by rw [unhide HK]; rfl, (unhide HO).trans o4 (fun k hk e => by omega)⟩
    | some x =>
      have hpl := (List.getElem?_eq_some_iff.mp hx).1
      have b1 : decide ((l.length : Int) ≤ (plL k l : Int)) = false := decide_eq_false (by omega)
      have jI : (plL k l : Int) < (l.length : Int) := by omega
      obtain ⟨g, rfl, d0, d1⟩ := On.at_ hx
      rw [hx] at hk
      have HK := hide hk
      clear c1 c2 he E o2 On hx hk
      go_wp2_with (first | (refine wpList_store_kv rfl _ _ rfl p x rfl rfl (unhide P2) ?_; intro w4 n4 o4))
      refine bodyPost_ret (res2_kv Tryz.results113 _ rfl n4) rfl ?_
      exact ⟨by rw [unhide HK]; rfl, (unhide HO).trans o4 (fun k hk e => by omega)⟩
set_option maxRecDepth 100000 in
set_option maxHeartbeats 1000000 in
theorem znext_any (h : ZAt w m S T U hist op H) (i : Int) (k : ByteArray) : Calls Tryz.prog 114 #[.pointer (some ⟨m, 0, none⟩), .int .i64 i, .string k] w fun e w' => e = .returned (seekS S i k true) ∧ Only (fun _ => False) w w' := by
  cases hz : Vz S i with
  | none =>
    have hgs : seekS S i k true = .tuple #[kvA kvD, .int .i64 7] := by unfold seekS; rw [hz]
    rw [hgs]
    go_enter Tryz.func114, Tryz.ntmps114
    go_upto_region 1 with (first | (refine wpList_alloc_kvd 6 rfl rfl rfl ?_; intro p w0 hP gP oP))
    have C1 := zused_any (h.quiet oP) i
    rw [hz] at C1
    have C1 := hide C1
    have HP := hide hP
    have OP := hide oP
    clear hP oP hz
    go_wp2_with fail
    refine (unhide C1).mono ?_
    rintro e w1 ⟨rfl, rfl⟩
    go_wp2_with (first | (refine wpList_store_kv rfl _ _ rfl p kvD rfl rfl (unhide HP) ?_; intro w4 n4 o4))
    refine bodyPost_ret (res2_kv Tryz.results114 _ rfl n4) rfl ?_
    exact ⟨rfl, (unhide OP).trans o4 (fun k hk e => by omega)⟩
  | some l =>
    have hgs : seekS S i k true = seV (seekL k true l) := by unfold seekS; rw [hz]
    rw [hgs]
    obtain ⟨n, rfl, hn, hS, hl⟩ := Vz_eS hz
    have hlen : l.length ≤ 64 := by
      have := h.s.len (n : Int)
      unfold Lz at this
      rw [hz] at this
      exact this
    have hk := nextL_pl (k := k) (h.s.srt n l hS)
    go_enter Tryz.func114, Tryz.ntmps114
    go_upto_region 1 with (first | (refine wpList_alloc_kvd 6 rfl rfl rfl ?_; intro p w0 hP gP oP))
    have h0 := h.quiet oP
    have C1 := zused_any h0 (n : Int)
    rw [hz] at C1
    have C2 := zplace_any h0 hn k
    rw [hl] at C2
    have C1 := hide C1
    have HP := hide hP
    have OP := hide oP
    clear hP oP hz
    cases hh : hitL k l <;>
      (rw [hh] at C2 hk
       have C2 := hide C2
       go_wp2_with fail
       refine (unhide C1).mono ?_
       rintro e w1 ⟨rfl, rfl⟩
       go_wp2_with fail
       refine (unhide C2).mono ?_
       rintro e w2 ⟨rfl, o2⟩
       obtain ⟨es, c1, c2, E, c4⟩ := (h0.quiet o2).look
       have d := c2 n hn
       have On := E.own n hn
       rw [hl] at On
       obtain ⟨a, cap, he⟩ := On.shape
       rw [he] at d On
       have iI : (n : Int) < 8 := by omega
       have P2 := hide ((unhide HP).keep o2 (fun h => h))
       have HO := hide ((unhide OP).trans o2 (fun _ _ h => h))
       have hple := plL_le k l
       simp only [Bool.toNat_false, Bool.toNat_true, Nat.add_zero] at hk
       revert hk
       have hpe : ∃ j : Nat, j = plL k l := ⟨_, rfl⟩
       first
       | (cases hx : l[plL k l + 1]? with
          | none =>
            intro hk
            have hp := List.getElem?_eq_none_iff.mp hx
            have b1 : decide ((l.length : Int) ≤ (plL k l : Int) + 1) = true := decide_eq_true (by omega)
            have HK := hide hk
            clear c1 c2 he E o2 On hx hk
            go_wp2_with (first | (refine wpList_store_kv rfl _ _ rfl p kvD rfl rfl (unhide P2) ?_; intro w4 n4 o4))
            refine bodyPost_ret (res2_kv Tryz.results114 _ rfl n4) rfl ?_
            exact ⟨by rw [unhide HK]; rfl, (unhide HO).trans o4 (fun k hk e => by omega)⟩
          | some x =>
            intro hk
            have hpl := (List.getElem?_eq_some_iff.mp hx).1
            have b1 : decide ((l.length : Int) ≤ (plL k l : Int) + 1) = false := decide_eq_false (by omega)
            have jI : (plL k l : Int) + 1 < (l.length : Int) := by omega
            obtain ⟨g, rfl, d0, d1⟩ := On.at_ hx
            have HK := hide hk
            clear c1 c2 he E o2 On hx hk
            go_wp2_with (first | (refine wpList_store_kv rfl _ _ rfl p x rfl rfl (unhide P2) ?_; intro w4 n4 o4))
            refine bodyPost_ret (res2_kv Tryz.results114 _ rfl n4) rfl ?_
            exact ⟨by rw [unhide HK]; rfl, (unhide HO).trans o4 (fun k hk e => by omega)⟩)
       | (cases hx : l[plL k l]? with
          | none =>
            intro hk
            have hp := List.getElem?_eq_none_iff.mp hx
            have b1 : decide ((l.length : Int) ≤ (plL k l : Int)) = true := decide_eq_true (by omega)
            have HK := hide hk
            clear c1 c2 he E o2 On hx hk
            go_wp2_with (first | (refine wpList_store_kv rfl _ _ rfl p kvD rfl rfl (unhide P2) ?_; intro w4 n4 o4))
            refine bodyPost_ret (res2_kv Tryz.results114 _ rfl n4) rfl ?_
            exact ⟨by rw [unhide HK]; rfl, (unhide HO).trans o4 (fun k hk e => by omega)⟩
          | some x =>
            intro hk
            have hpl := (List.getElem?_eq_some_iff.mp hx).1
            have b1 : decide ((l.length : Int) ≤ (plL k l : Int)) = false := decide_eq_false (by omega)
            have jI : (plL k l : Int) < (l.length : Int) := by omega
            obtain ⟨g, rfl, d0, d1⟩ := On.at_ hx
            have HK := hide hk
            clear c1 c2 he E o2 On hx hk
            go_wp2_with (first | (refine wpList_store_kv rfl _ _ rfl p x rfl rfl (unhide P2) ?_; intro w4 n4 o4))
            refine bodyPost_ret (res2_kv Tryz.results114 _ rfl n4) rfl ?_
            exact ⟨by rw [unhide HK]; rfl, (unhide HO).trans o4 (fun k hk e => by omega)⟩))
end
end Go.Proofs.Qxb6500410aGreat
