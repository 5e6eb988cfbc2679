/-
  OWN WORK. THE B-TREE: Drop, Create.
-/
import Derived.Test.Qxb6500412aGreatBOpI
namespace Go.Proofs.Qxb6500412aGreat
open Go.RowKit Go.PlainAid
set_option linter.unusedSimpArgs false
set_option linter.unusedVariables false

section
variable {q : Gnd} {w : World} {view : List ByteArray} {F : Fo}
set_option maxRecDepth 100000 in
set_option maxHeartbeats 4000000 in
theorem bdrop_ok (A : FA q w true view) (I : FI (NV view) F) {h : Int} {r : Root} (hf : Fz F h = some r) :
    Calls Tryz.prog 241 #[.pointer (some ⟨q.f, 0, none⟩), .int .i64 h] w fun e w' => e = .returned (.int .i64 0) ∧ Turned q F h.toNat (fun ro => ro = none) w w' := by
  have T := I.tree hf
  have z1 := T.z1
  have c1 := A.ptr
  have C := hide (qintxn A)
  obtain ⟨d, hn, hd, CR⟩ := rootT_any A I hf
  have CR := hide CR
  have eF : entsR (F h.toNat) = entsL r.h (itT r.t) := by rw [T.hr]; rfl
  have hle := I.len T.hi
  rw [eF] at hle
  have C4 := hide (fun w (A : FA q w true view) => raze_any r.h A T.gd 8 T.ht (by omega) (by omega))
  have hs := hd.sz
  have q08 := T.h8
  have q00 := T.h0
  have hct := hd.ct
  have hc64 := I.ct
  have hul := upd_len F T.hi none
  rw [eF] at hul
  simp [entsR] at hul
  obtain ⟨m, hm⟩ : ∃ m, (entsL r.h (itT r.t)).length = m := ⟨_, rfl⟩
  obtain ⟨n, hnn⟩ : ∃ n, (all8 entsR (upd F h.toNat none)).length = n := ⟨_, rfl⟩
  have hall : (all8 entsR F).length = n + m := by omega
  rw [hall] at hct hc64
  have HH := hide (And.intro hn (And.intro hd (And.intro T hnn)))
  have hip : h.toNat < 128 := by omega
  have s2 := withB_size d h.toNat 0 hs hip
  have b2 : byteAt (withB d h.toNat 0) 8 = n + m := by rw [byteAt_with d h.toNat 0 hs hip (by omega) 8 (by omega), if_neg (by omega)]; exact hct
  have HM := hide hm
  have CA1 : ∀ w, Calls Tryz.prog 153 #[.string d, .int .i64 h, .int .u8 0] w fun e w' => e = .returned (.string (withB d h.toNat 0)) ∧ Only (fun _ => False) w w' := fun w => by
    have := setAt_any d h.toNat 0 hs hip (by omega) w
    rw [show ((h.toNat : Nat) : Int) = h by omega] at this
    exact this
  have CA1 := hide CA1
  clear hn hd hf T eF hle hct hul hnn hall hm
  go_enter Tryz.func241, Tryz.ntmps241
  go_wp2_with fail
  refine (unhide C).mono ?_
  rintro e w1 ⟨rfl, rfl⟩
  go_wp2_with fail
  refine (unhide CR).mono ?_
  rintro e w1 ⟨rfl, A1, o1⟩
  have C3 := hide (unhide C4 w1 A1)
  have O1 := hide o1
  clear A1 o1 C4
  go_wp2_with fail
  refine (unhide C3).mono ?_
  rintro e w2 ⟨rfl, ⟨view2, A2, e2⟩, o2⟩
  rw [unhide HM]
  have A2 := hide A2
  have O2 := hide ((unhide O1).qt o2)
  have E2 := hide e2
  clear o2 e2 C3 O1
  go_wp2_with fail
  refine (unhide CA1 _).mono ?_
  rintro e w3 ⟨rfl, o3⟩
  obtain ⟨d2, hd2⟩ : ∃ d2, withB d h.toNat 0 = d2 := ⟨_, rfl⟩
  rw [hd2] at s2 b2 ⊢
  have q82 : 8 < d2.size := by omega
  have x1 := wrap_byte d2 8 q82
  rw [b2] at x1
  have en0 : ((n + m : Nat) : Int) = (n : Int) + (m : Int) := by clear x1; omega
  rw [en0] at x1
  have HD2 := hide hd2
  have A3 := hide ((unhide A2).quiet o3)
  have O3 := hide ((unhide O2).q0 o3)
  have wn : IntKind.u8.wrap (n : Int) = (n : Int) := by clear x1; exact IntWalk.u8_in _ (by omega)
  have enm : (n : Int) + (m : Int) - (m : Int) = (n : Int) := by clear x1; omega
  have CA := hide (fun w => setAt_any d2 8 n s2 (by omega) (by clear x1; omega) w)
  clear hd2 b2 o3 A2 O2 en0
  go_wp2_with fail
  clear x1
  refine (unhide CA _).mono ?_
  rintro e w4 ⟨rfl, o4⟩
  have A4 := (unhide A3).quiet o4
  have h21 : NV view2 1 = some d := by
    rw [unhide E2]
    unfold offN
    rw [if_neg (I.one (unhide HH).2.2.1.hi (unhide HH).2.2.1.hr)]
    exact (unhide HH).1
  have CP := hide (putDir_any A4 h21 (withB_size d2 8 n s2 (by omega)))
  have O4 := hide ((unhide O3).q0 o4)
  clear o4 A4
  go_wp2_with fail
  refine (unhide CP).mono ?_
  rintro e w5 ⟨rfl, ⟨view5, A5, e5⟩, o5⟩
  have FF := hide (And.intro A5 (And.intro e5 ((unhide O4).qt o5)))
  clear A5 e5 o5
  go_wp2_with fail
  go_ret
  obtain ⟨hn, hd, T, hnn⟩ := unhide HH
  have hR := hd.root T.hi (ro := none) (show 0 < 256 by omega)
  have hR2 : ∀ j, j < 8 → byteAt d2 j = pgR (upd F h.toNat none j) := by
    intro j hj
    rw [← unhide HD2]
    exact hR.2.1 j hj
  have hD := Dir.cnt (d := d2) (G := upd F h.toNat none) s2 hR2 (by omega)
  rw [hnn] at hD
  have hI := I.raze T.hi T.hr hD (by omega)
  rw [← unhide E2, ← (unhide FF).2.1] at hI
  exact ⟨rfl, view5, none, rfl, (unhide FF).1, hI, (unhide FF).2.2⟩
/-- The lowest free handle. -/
def lowF (F : Fo) (i : Nat) : Prop := i < 8 ∧ F i = none ∧ ∀ j, j < i → F j ≠ none
def CreateR (q : Gnd) (w : World) (view : List ByteArray) (F : Fo) (e : Ending) (w' : World) : Prop :=
  (e = .returned (.tuple #[.int .i64 (-1), .int .i64 6]) ∧ (∀ j, j < 8 → F j ≠ none) ∧ FA q w' true view ∧ Only q.S w w') ∨
  (∃ i : Nat, e = .returned (.tuple #[.int .i64 i, .int .i64 0]) ∧ lowF F i ∧ Turned q F i (fun ro => ∃ r, ro = some r ∧ entsR ro = []) w w')
set_option maxRecDepth 100000 in
set_option maxHeartbeats 4000000 in
theorem bcreate_any (A : FA q w true view) (I : FI (NV view) F) : Calls Tryz.prog 93 #[.pointer (some ⟨q.f, 0, none⟩)] w (CreateR q w view F) := by
  have c1 := A.ptr
  have C := hide (qintxn A)
  obtain ⟨d, hn, hd, CR⟩ := rootF_any A I 0
  have CR := hide CR
  have hs := hd.sz
  have HH := hide (And.intro hn hd)
  clear hn hd
  go_enter Tryz.func93, Tryz.ntmps93
  go_wp2_with fail
  refine (unhide C).mono ?_
  rintro e w1 ⟨rfl, rfl⟩
  go_wp2_with fail
  refine (unhide CR).mono ?_
  rintro e w1 ⟨rfl, A1, o1⟩
  have AA := hide A1
  have O1 := hide o1
  clear A1 o1
  go_upto_region 5 with fail
  go_loop [6] (fun iv => ∃ i : Nat, iv = .int .i64 i ∧ i ≤ 8 ∧ ∀ j, j < i → F j ≠ none) (fun iv => 9 - (intOf iv).toNat)
  case atStart => exact ⟨0, rfl, by omega, fun j hj => by omega⟩
  case round =>
    obtain ⟨i, rfl, hi, hne⟩ := hrel
    have HN := hide hne
    clear hne
    by_cases h8 : i < 8
    · have a1 : decide ((i : Int) < 8) = true := decide_eq_true (by omega)
      have a2 : (i : Int) < 128 := by omega
      have qi : i < d.size := by omega
      have hb := byteAt_idx d i qi
      rw [(unhide HH).2.rt i h8] at hb
      cases hF : F i with
      | some r =>
        have hp := I.pos NV_pos h8 hF
        rw [hF] at hb
        have hb' : (d[i].toNat : Int) = (pgT r.t : Int) := hb
        have z1 : ((pgT r.t : Int) == 0) = false := by clear hb hb'; simp; omega
        have z2 : ((pgT r.t : Int) != 0) = true := by clear hb hb'; simp; omega
        have HN2 : Hid (∀ j, j < i + 1 → F j ≠ none) := hide (fun j hj => by
          by_cases e : j = i
          · rw [e, hF]; simp
          · exact unhide HN j (by omega))
        clear hb hF hp
        go_wp2_with fail
        clear hb'
        go_round
        case rel => exact ⟨i + 1, by go_num, by omega, unhide HN2⟩
        case measure => simp [intOf]; omega
      | none =>
        rw [hF] at hb
        have hb' : (d[i].toNat : Int) = 0 := hb
        have a3 : ((i : Int) == 8) = false := by clear hb hb'; simp; omega
        have cp := (unhide AA).ptr
        have CA := hide (qalloc (unhide AA) I.cov (I.space h8 hF))
        have HF := hide hF
        clear hb hF
        go_wp2_with fail
        clear hb'
        refine (unhide CA).mono ?_
        rintro e w2 ⟨pn, rfl, ⟨view2, A2, e2⟩, ⟨p1, p72, pnone⟩, o2⟩
        have hN2 : NV view2 pn = some zeroB := by rw [e2]; exact setN_same _ _ _
        have ry : Rep 0 { k := 1, n := 0, K := nd0.K, V := nd0.V, C := nd0.C } ([] : List (ByteArray × Tr 0)) := ⟨rfl, rfl, fun j f hf => by have h2 : (none : Option KV) = some f := hf; cases h2⟩
        have ft : Fits 0 ([] : List (ByteArray × Tr 0)) := ⟨by simp, fun e he => by simp at he⟩
        have CS := hide (store_any A2 hN2 ry ft)
        have O2 := hide ((unhide O1).qt o2)
        have E2 := hide (And.intro e2 pnone)
        clear A2 o2 e2 pnone ry ft hN2 cp CA
        go_wp2_with fail
        refine (unhide CS).mono ?_
        rintro e w3 ⟨rfl, ⟨view3, A3, e3⟩, o3⟩
        have A3 := hide A3
        have O3 := hide ((unhide O2).qt o3)
        have E3 := hide e3
        clear o3 e3 CS O2
        have wpn : IntKind.u8.wrap (pn : Int) = (pn : Int) := IntWalk.u8_in _ (by omega)
        have CA1 := hide (fun w => setAt_any d i pn hs (by omega) (by omega) w)
        go_wp2_with fail
        refine (unhide CA1 _).mono ?_
        rintro e w4 ⟨rfl, o4⟩
        have A4 := (unhide A3).quiet o4
        have hpn1 : pn ≠ 1 := fun e => by
          have := (unhide E2).2
          rw [e, (unhide HH).1] at this; cases this
        have h31 : NV view3 1 = some d := by
          rw [unhide E3, setN_other _ _ (fun e => hpn1 e.symm), (unhide E2).1, setN_other _ _ (fun e => hpn1 e.symm)]
          exact (unhide HH).1
        have CP := hide (putDir_any A4 h31 (withB_size d i pn hs (by omega)))
        have O4 := hide ((unhide O3).q0 o4)
        clear o4 A4 h31
        go_wp2_with fail
        refine (unhide CP).mono ?_
        rintro e w5 ⟨rfl, ⟨view5, A5, e5⟩, o5⟩
        have FF := hide (And.intro A5 (And.intro e5 ((unhide O4).qt o5)))
        clear A5 e5 o5
        go_wp2_with fail
        go_ret2
        obtain ⟨hn, hd⟩ := unhide HH
        have hul := upd_len F h8 (some ⟨0, mkT pn []⟩)
        rw [unhide HF] at hul
        have eN : entsR (some ⟨0, mkT pn []⟩) = [] := rfl
        have hlen : (all8 entsR (upd F i (some ⟨0, mkT pn []⟩))).length = (all8 entsR F).length := by rw [eN] at hul; simp [entsR] at hul; exact hul
        have hR := hd.root h8 (ro := some ⟨0, mkT pn []⟩) (show pn < 256 by omega)
        have hD : Dir (withB d i pn) (upd F i (some ⟨0, mkT pn []⟩)) := ⟨hR.1, hR.2.1, by rw [hlen]; exact hR.2.2⟩
        have hI := I.create h8 (unhide HF) (z := zeroB) (unhide E2).2 hD (by rw [hlen]; exact I.ct)
        rw [← (unhide E2).1, ← unhide E3, ← (unhide FF).2.1] at hI
        exact .inr ⟨i, rfl, ⟨h8, unhide HF, unhide HN⟩, view5, some ⟨0, mkT pn []⟩, ⟨_, rfl, eN⟩, (unhide FF).1, hI, (unhide FF).2.2⟩
    · have e8 : i = 8 := by omega
      subst e8
      go_wp2_with fail
      go_ret2
      exact .inl ⟨rfl, unhide HN, unhide AA, unhide O1⟩
end
end Go.Proofs.Qxb6500412aGreat
