/-
  OWN WORK. THE B-TREE LAW: SameWalk.
-/
import Derived.Test.Qxb6500410aGreatZSam
namespace Go.Proofs.Qxb6500410aGreat
open Go.RowKit Go.PlainAid
set_option linter.unusedSimpArgs false
set_option linter.unusedVariables false

/-- How far both walks have come. -/
structure WW (S S' : Vu) (h : Int) (m : Nat) (k : ByteArray) (past : Bool) (p r r' : List KV) : Prop where
  m : m = p.length
  l : Lz S h = p ++ r
  l' : Lz S' h = p ++ r'
  s : seekL k past (Lz S h) = r.head?
  s' : seekL k past (Lz S' h) = r'.head?
section
variable {S S' : Vu} {h : Int} {m : Nat} {k : ByteArray} {past : Bool} {p r r' : List KV}
theorem sA_of (hv : (Vz S h).isSome = true) : sA S h k past = (seekL k past (Lz S h)).getD kvD ∧ sC S h k past = seC (seekL k past (Lz S h)) := by
  cases hz : Vz S h with
  | none => rw [hz] at hv; cases hv
  | some l =>
    have e : Lz S h = l := by unfold Lz; rw [hz]; rfl
    rw [e]
    unfold sA sC
    rw [hz]
    exact ⟨rfl, rfl⟩
theorem seC_inj {a b : Option KV} (h1 : a.getD kvD = b.getD kvD) (h2 : seC a = seC b) : a = b := by
  cases a <;> cases b
  · rfl
  · simp [seC] at h2
  · simp [seC] at h2
  · simpa using h1
theorem sC_bad (hv : (Vz S h).isSome = false) : sC S h k past = 7 := by
  have hz : Vz S h = none := by simpa using hv
  unfold sC
  rw [hz]
theorem sC_good (hv : (Vz S h).isSome = true) : sC S h k past = 0 ∨ sC S h k past = 9 := by
  rw [(sA_of hv).2]
  unfold seC
  split
  · exact .inl rfl
  · exact .inr rfl
theorem sameS_used (e : sameS S S' h k past) : (Vz S h).isSome = (Vz S' h).isSome := by
  cases h1 : (Vz S h).isSome <;> cases h2 : (Vz S' h).isSome
  · rfl
  · have := sC_bad (k := k) (past := past) h1
    have := e.2
    rcases sC_good (k := k) (past := past) h2 with c | c <;> omega
  · have := sC_bad (k := k) (past := past) h2
    have := e.2
    rcases sC_good (k := k) (past := past) h1 with c | c <;> omega
  · rfl
theorem WW.start : WW S S' h 0 bE false [] (Lz S h) (Lz S' h) := ⟨rfl, rfl, rfl, seekL_all (k := bE) _, seekL_all (k := bE) _⟩
theorem WW.short (o : WW S S' h m k past p r r') (V : Vok S') : m ≤ 64 := by
  have := V.len h
  rw [o.l'] at this
  simp at this
  have := o.m
  omega
theorem WW.heads (o : WW S S' h m k past p r r') (h1 : (Vz S h).isSome = true) (h2 : (Vz S' h).isSome = true) (e : sameS S S' h k past) : r.head? = r'.head? := by
  obtain ⟨a1, a2⟩ := sA_of (k := k) (past := past) h1
  obtain ⟨b1, b2⟩ := sA_of (k := k) (past := past) h2
  have e1 := e.1
  have e2 := e.2
  rw [a1, b1, o.s, o.s'] at e1
  rw [a2, b2, o.s, o.s'] at e2
  exact seC_inj e1 e2
/-- The walk's end. -/
theorem WW.stop (o : WW S S' h m k past p r r') (h1 : (Vz S h).isSome = true) (h2 : (Vz S' h).isSome = true) (e : sameS S S' h k past) (hg : sC S' h k past ≠ 0) : Vz S h = Vz S' h := by
  have hh := o.heads h1 h2 e
  have : r'.head? = none := by
    rw [(sA_of h2).2, o.s'] at hg
    cases hr : r'.head? with
    | none => rfl
    | some x => rw [hr] at hg; exact absurd rfl hg
  rw [this] at hh
  rw [List.head?_eq_none_iff] at this hh
  refine (Vz_of_Lz h1 h2).mp ?_
  rw [o.l, o.l', this, hh]
/-- One entry more. -/
theorem WW.next (o : WW S S' h m k past p r r') (V : Vok S) (V' : Vok S') (h1 : (Vz S h).isSome = true) (h2 : (Vz S' h).isSome = true) (e : sameS S S' h k past) (hg : sC S' h k past = 0) :
    m < 64 ∧ sameG S S' h (sA S' h k past).1 ∧ ∃ p r r', WW S S' h (m + 1) (sA S' h k past).1 true p r r' := by
  have hh := o.heads h1 h2 e
  obtain ⟨x, t', hr'⟩ : ∃ x t', r' = x :: t' := by
    cases r' with
    | nil => rw [(sA_of h2).2, o.s'] at hg; simp [seC] at hg
    | cons x t' => exact ⟨x, t', rfl⟩
  subst hr'
  obtain ⟨t, hr⟩ : ∃ t, r = x :: t := by
    cases r with
    | nil => simp at hh
    | cons y t => simp at hh; exact ⟨t, by rw [hh]⟩
  subst hr
  have ex : sA S' h k past = x := by rw [(sA_of h2).1, o.s']; rfl
  rw [ex]
  have s1 := V.lsrt h
  have s2 := V'.lsrt h
  have l1 := o.l
  have l2 := o.l'
  rw [l1] at s1
  rw [l2] at s2
  refine ⟨?_, ?_, p ++ [x], t, t', by simp [o.m], by rw [l1]; simp, by rw [l2]; simp, by rw [l1]; exact seekL_past s1, by rw [l2]; exact seekL_past s2⟩
  · have := V'.len h
    rw [l2] at this
    simp at this
    have := o.m
    omega
  · have key : ∀ {X : Vu} {tt : List KV}, (Vz X h).isSome = true → Lz X h = p ++ x :: tt → Srt (p ++ x :: tt) → gK X h x.1 = x.2 ∧ gC X h x.1 = 0 := by
      intro X tt hv hl hs
      cases hz : Vz X h with
      | none => rw [hz] at hv; cases hv
      | some l =>
        have e : Lz X h = l := by unfold Lz; rw [hz]; rfl
        have hg : getL x.1 l = some x.2 := by
          rw [← e, hl]
          refine getL_at (i := p.length) (e := x) (fun j f hj hf => ?_) (by simp) rfl
          rw [List.getElem?_append_left hj] at hf
          have := (Srt.app_iff.mp hs).2.2 f (List.mem_of_getElem? hf) x (by simp)
          intro c
          rw [c, lt_irr] at this
          cases this
        unfold gK gC
        rw [hz]
        simp only [Option.bind_some]
        rw [hg]
        exact ⟨rfl, rfl⟩
    have k1 := key h1 l1 s1
    have k2 := key h2 l2 s2
    exact ⟨by rw [k1.1, k2.1], by rw [k1.2, k2.2]⟩
end
section
variable {q : Gnd} {w w' : World} {op : Bool} {vw : List ByteArray} {S S' T U : Vu} {z : Nat} {hist : Option Vu} {op' : Bool} {H : Nat → Prop}
set_option maxRecDepth 100000 in
set_option maxHeartbeats 4000000 in
theorem sameWalk_any (A : FW q w op vw S) (Z : ZAt w z S' T U hist op' H) (sep : ∀ k, H k → ¬ q.S k) (h : Int) : Calls Tryz.prog 79 #[.pointer (some ⟨q.f, 0, none⟩), .pointer (some ⟨z, 0, none⟩), .int .i64 h] w fun e w' => ∃ b, e = .returned (.bool b) ∧ (b = true ↔ Vz S h = Vz S' h) ∧ FW q w' op vw S ∧ Only q.S w w' := by
  have C1 := sameSeekB_any A Z sep h bE
  unfold bE at C1
  have C1 := hide C1
  go_enter Tryz.func79, Tryz.ntmps79
  go_wp2_with fail
  refine (unhide C1).mono ?_
  rintro e w1 ⟨b, rfl, hb, A1, o1⟩
  cases b with
  | false =>
    have HR := hide (show ¬ Vz S h = Vz S' h from fun e => by have := hb.mpr (sameS_eq e); cases this)
    have FF := hide (And.intro A1 o1)
    clear hb A1 o1 C1
    go_wp2_with fail
    go_ret
    exact ⟨_, rfl, ⟨fun c => by simp at c, fun c => absurd c (unhide HR)⟩, unhide FF⟩
  | true =>
    have hs := hb.mp rfl
    have Z1 := Z.keep o1 sep
    have C2 := zseek_any Z1 h bE
    rw [seekS_eq] at C2
    unfold bE at C2
    have C2 := hide C2
    have FF := hide (And.intro A1 o1)
    have HS := hide hs
    have s1 := o1.size
    have Z1 := hide Z1
    clear hb A1 o1 C1 hs
    go_wp2_with fail
    refine (unhide C2).mono ?_
    rintro e w2 ⟨rfl, o2⟩
    have F2 := hide (And.intro ((unhide FF).1.quiet o2) ((unhide FF).2.q0 o2))
    have Z2 := hide ((unhide Z1).quiet o2)
    have s2 := o2.size
    clear o2 FF Z1 C2
    go_upto_region 4 with (first | (refine wpList_alloc_kvd 7 rfl rfl rfl ?_; intro b w3 hB gB oB; have hB := hide hB; have oB := hide oB) | (refine wpList_store_kv rfl _ _ rfl b _ rfl rfl (unhide hB) ?_; intro w4 n4 o4))
    have s3 := (unhide oB).size
    have gb0 : w.heap.size ≤ b := by omega
    have F4 := hide (And.intro (((unhide F2).1.quiet (unhide oB)).loc A gb0 o4) (((unhide F2).2.q0 (unhide oB)).qn o4 gb0))
    have zb : ∀ x, H x → x ≠ b := fun x hx e => by have := Z.inn x hx; omega
    have Z4 := hide (((unhide Z2).quiet (unhide oB)).keep o4 zb)
    have B4 := hide n4
    have bS : ¬ q.S b := A.nS gb0
    clear n4 o4 hB oB F2 Z2
    cases hv : (Vz S h).isSome with
    | false =>
      have hv' : (Vz S' h).isSome = false := by rw [← sameS_used (unhide HS)]; exact hv
      have c7 := sC_bad (k := ⟨#[]⟩) (past := false) hv'
      rw [c7]
      have HR := hide (show Vz S h = Vz S' h by
        have n1 : Vz S h = none := by simpa using hv
        have n2 : Vz S' h = none := by simpa using hv'
        rw [n1, n2])
      clear hv hv' c7
      go_upto_region 5 with fail
      go_loopw [8, 9] (fun gv iv wr => gv = .int .i64 7 ∧ iv = .int .i64 0 ∧ wr = w4) (fun _ _ _ => 0)
      case atStart => exact ⟨rfl, rfl, rfl⟩
      case round =>
        obtain ⟨rfl, rfl, rfl⟩ := hrel
        go_wp2_with fail
        go_ret
        exact ⟨_, rfl, ⟨fun _ => unhide HR, fun _ => rfl⟩, unhide F4⟩
    | true =>
      have hv' : (Vz S' h).isSome = true := by rw [← sameS_used (unhide HS)]; exact hv
      go_upto_region 5 with fail
      go_loopw [8, 9] (fun gv iv wr => ∃ (m : Nat) (k : ByteArray) (past : Bool) (p r r' : List KV), iv = .int .i64 m ∧ gv = .int .i64 (sC S' h k past) ∧ WW S S' h m k past p r r' ∧ sameS S S' h k past ∧ FW q wr op vw S ∧ ZAt wr z S' T U hist op' H ∧ KvAt wr b (sA S' h k past) ∧ Only q.S w wr) (fun _ iv _ => 65 - (intOf iv).toNat)
      case atStart => exact ⟨0, bE, false, [], _, _, rfl, rfl, WW.start, unhide HS, (unhide F4).1, unhide Z4, unhide B4, (unhide F4).2⟩
      case round =>
        clear F4 Z4 B4 HS
        obtain ⟨m, k, past, p, r, r', rfl, rfl, W, hs, A5, Z5, B5, O5⟩ := hrel
        have m64 := W.short Z.s
        have n1 : decide ((m : Int) < 65) = true := decide_eq_true (by omega)
        have n1p : (m : Int) < 65 := by omega
        rcases sC_good (k := k) (past := past) hv' with c0 | c9
        · rw [c0]
          obtain ⟨m63, hG, hW⟩ := W.next A.ok Z.s hv hv' hs c0
          have hW := hide hW
          generalize ex : sA S' h k past = x at *
          have c1 := B5.k.1
          have C3 := hide (sameGetB_any A5 Z5 sep h x.1)
          have HG := hide hG
          have Z5 := hide Z5
          have B5 := hide B5
          have O5 := hide O5
          clear A5 W hs c0 hG
          go_wp2_with fail
          refine (unhide C3).mono ?_
          rintro e w6 ⟨bb, rfl, hbb, A6, o6⟩
          obtain rfl := hbb.mpr (unhide HG)
          have Z6 := (unhide Z5).keep o6 sep
          have B6 := hide ((unhide B5).keep o6 bS)
          have O6 := hide ((unhide O5).qt o6)
          have C4 := hide (sameNextB_any A6 Z6 sep h x.1)
          have Z6 := hide Z6
          have d1 := (unhide B6).k.1
          clear A6 hbb o6 C3 Z5 B5 O5 c1
          go_wp2_with fail
          refine (unhide C4).mono ?_
          rintro e w7 ⟨bb, rfl, hbb, A7, o7⟩
          cases bb with
          | false =>
            have HR := hide (show ¬ Vz S h = Vz S' h from fun e => by have := hbb.mpr (sameS_eq e); cases this)
            have F7 := hide (And.intro A7 ((unhide O6).qt o7))
            clear A7 o7 hbb
            go_wp2_with fail
            go_ret
            exact ⟨_, rfl, ⟨fun c => by simp at c, fun c => absurd c (unhide HR)⟩, unhide F7⟩
          | true =>
            have hs7 := hide (hbb.mp rfl)
            have Z7 := (unhide Z6).keep o7 sep
            have C5 := znext_any Z7 h x.1
            rw [seekS_eq] at C5
            have C5 := hide C5
            have Z7 := hide Z7
            have B7 := hide ((unhide B6).keep o7 bS)
            have F7 := hide (And.intro A7 ((unhide O6).qt o7))
            have e1 := (unhide B7).k.1
            clear A7 o7 hbb Z6 B6 O6 C4 d1
            go_wp2_with fail
            refine (unhide C5).mono ?_
            rintro e w8 ⟨rfl, o8⟩
            have F8 := hide (And.intro ((unhide F7).1.quiet o8) ((unhide F7).2.q0 o8))
            have Z8 := hide ((unhide Z7).quiet o8)
            have B8 := hide ((unhide B7).keep o8 (fun h => h))
            clear o8 F7 Z7 B7 C5 e1
            go_wp2_with (first | (refine wpList_store_kv rfl _ _ rfl b _ rfl rfl (unhide B8) ?_; intro w9 n9 o9))
            go_roundw
            case rel =>
              obtain ⟨p2, r2, r2', W2⟩ := unhide hW
              exact ⟨m + 1, x.1, true, p2, r2, r2', by go_num, rfl, W2, unhide hs7, (unhide F8).1.loc A gb0 o9, (unhide Z8).keep o9 zb, n9, (unhide F8).2.qn o9 gb0⟩
            case measure => simp [intOf]; omega
        · rw [c9]
          have HR := hide (W.stop hv hv' hs (by rw [c9]; decide))
          have F5 := hide (And.intro A5 O5)
          clear A5 O5 Z5 B5 W hs c9
          go_wp2_with fail
          go_ret
          exact ⟨_, rfl, ⟨fun _ => unhide HR, fun _ => rfl⟩, unhide F5⟩
theorem Vz_all (h1 : Vok S) (h2 : Vok S') (h : ∀ j : Int, -1 ≤ j → j < 9 → Vz S j = Vz S' j) : S = S' := by
  funext i
  by_cases c : i < 8
  · have := h (i : Int) (by omega) (by omega)
    unfold Vz at this
    rw [if_pos (by omega), if_pos (by omega)] at this
    exact this
  · rw [h1.out i (by omega), h2.out i (by omega)]
set_option maxRecDepth 100000 in
set_option maxHeartbeats 4000000 in
/-- Alike is exact. -/
theorem alikeB_any (A : FW q w op vw S) (Z : ZAt w z S' T U hist op' H) (sep : ∀ k, H k → ¬ q.S k) : Calls Tryz.prog 30 #[.pointer (some ⟨q.f, 0, none⟩), .pointer (some ⟨z, 0, none⟩)] w fun e w' => ∃ b, e = .returned (.bool b) ∧ (b = true ↔ (S = S' ∧ op = op')) ∧ FW q w' op vw S ∧ Only q.S w w' := by
  have C1 := hide (sameInTxnB_any A Z)
  go_enter Tryz.func30, Tryz.ntmps30
  go_wp2_with fail
  refine (unhide C1).mono ?_
  rintro e w1 ⟨rfl, rfl⟩
  by_cases hop : op = op'
  · have b1 : (op == op') = true := by simpa using hop
    have C2 := sameCountB_any A Z sep
    rw [b1]
    by_cases hc : (al8 S).length = (al8 S').length
    · have b2 : (((al8 S).length : Int) == ((al8 S').length : Int)) = true := by rw [hc]; simp
      rw [b2] at C2
      have C2 := hide C2
      clear b1 b2 hc
      go_wp2_with fail
      refine (unhide C2).mono ?_
      rintro e w2 ⟨rfl, A2, o2⟩
      have F2 := hide (And.intro A2 (And.intro (Z.keep o2 sep) o2))
      clear A2 o2
      go_upto_region 6 with fail
      go_loopw [5] (fun hv wr => ∃ (j : Int), -1 ≤ j ∧ j ≤ 9 ∧ hv = .int .i64 j ∧ (∀ i : Int, -1 ≤ i → i < j → Vz S i = Vz S' i) ∧ FW q wr op vw S ∧ ZAt wr z S' T U hist op' H ∧ Only q.S w wr) (fun hv _ => (9 - intOf hv).toNat)
      case atStart => exact ⟨-1, by omega, by omega, rfl, fun i h1 h2 => by omega, (unhide F2).1, (unhide F2).2.1, (unhide F2).2.2⟩
      case round =>
        clear F2
        obtain ⟨j, hj0, hj9, rfl, hall, A3, Z3, O3⟩ := hrel
        by_cases h9 : j = 9
        · subst h9
          have HR := hide (Vz_all A.ok Z.s hall)
          have FF := hide (And.intro A3 O3)
          clear A3 O3 hall Z3
          go_wp2_with fail
          go_ret
          exact ⟨_, rfl, ⟨fun _ => ⟨unhide HR, hop⟩, fun _ => rfl⟩, unhide FF⟩
        · have a1 : decide (j ≤ 8) = true := decide_eq_true (by omega)
          have a1p : j ≤ 8 := by omega
          have C3 := sameUsedB_any A3 Z3 sep j
          have HA := hide hall
          have ZO := hide (And.intro Z3 O3)
          clear hall A3 Z3 O3
          by_cases hu : (Vz S j).isSome = (Vz S' j).isSome
          · have bu : ((Vz S j).isSome == (Vz S' j).isSome) = true := by rw [hu]; simp
            rw [bu] at C3
            have C3 := hide C3
            clear hu bu
            go_wp2_with fail
            refine (unhide C3).mono ?_
            rintro e w4 ⟨rfl, A4, o4⟩
            have Z4 := (unhide ZO).1.keep o4 sep
            have O4 := (unhide ZO).2.qt o4
            have C4 := hide (sameWalk_any A4 Z4 sep j)
            have ZO4 := hide (And.intro Z4 O4)
            clear A4 o4 Z4 O4 C3
            go_wp2_with fail
            refine (unhide C4).mono ?_
            rintro e w5 ⟨bb, rfl, hbb, A5, o5⟩
            have FF := hide (And.intro A5 (And.intro ((unhide ZO4).1.keep o5 sep) ((unhide ZO4).2.qt o5)))
            have HB := hide hbb
            clear A5 o5 hbb
            cases bb with
            | true =>
              go_wp2_with fail
              go_roundw
              case rel =>
                refine ⟨j + 1, by omega, by omega, by go_num, fun i h1 h2 => ?_, (unhide FF).1, (unhide FF).2.1, (unhide FF).2.2⟩
                by_cases e : i = j
                · rw [e]; exact (unhide HB).mp (by first | exact rfl | trivial)
                · exact unhide HA i h1 (by omega)
              case measure => simp [intOf]; omega
            | false =>
              go_wp2_with fail
              go_ret
              exact ⟨_, rfl, ⟨fun c => by simp at c, fun c => by have := (unhide HB).mpr (by rw [c.1]); cases this⟩, (unhide FF).1, (unhide FF).2.2⟩
          · have bu : ((Vz S j).isSome == (Vz S' j).isSome) = false := by simpa using hu
            rw [bu] at C3
            have C3 := hide C3
            have HU := hide hu
            clear hu bu
            go_wp2_with fail
            refine (unhide C3).mono ?_
            rintro e w4 ⟨rfl, A4, o4⟩
            have FF := hide (And.intro A4 ((unhide ZO).2.qt o4))
            clear A4 o4
            go_wp2_with fail
            go_ret
            exact ⟨_, rfl, ⟨fun c => by simp at c, fun c => absurd (by rw [c.1]) (unhide HU)⟩, unhide FF⟩
    · have b2 : (((al8 S).length : Int) == ((al8 S').length : Int)) = false := by simp; omega
      rw [b2] at C2
      have C2 := hide C2
      have HC := hide hc
      clear b1 b2 hc
      go_wp2_with fail
      refine (unhide C2).mono ?_
      rintro e w2 ⟨rfl, A2, o2⟩
      have FF := hide (And.intro A2 o2)
      clear A2 o2
      go_wp2_with fail
      go_ret
      exact ⟨_, rfl, ⟨fun c => by simp at c, fun c => absurd (by rw [c.1]) (unhide HC)⟩, unhide FF⟩
  · have b1 : (op == op') = false := by simpa using hop
    rw [b1]
    have HP := hide hop
    clear hop b1
    go_wp2_with fail
    go_ret
    exact ⟨_, rfl, ⟨fun c => by simp at c, fun c => absurd c.2 (unhide HP)⟩, A, Only.refl _ _⟩
end
end Go.Proofs.Qxb6500410aGreat
