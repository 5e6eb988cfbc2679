/-
  OWN WORK. QUERY's LAW: both sides while they are looked at; SameTables, SameSchemaOf, SameView.
-/
import Derived.Test.Qxb6500412aGreatQL1
import Derived.Test.Qxb6500412aGreatQLS
namespace Go.Proofs.Qxb6500412aGreat
open Go.RowKit Go.PlainAid
set_option linter.unusedSimpArgs false
set_option linter.unusedVariables false

def lkA (M : Mu) (s : Int) (nm : ByteArray) : Int := if gdS s then M.lk s.toNat nm else 0
def actA (M : Mu) (s : Int) : Bool := decide (gdS s) && M.act s.toNat
/-- What the observers show of one name to one session. -/
def ObsS (M M2 : Mu) (nm : ByteArray) (s : Int) : Prop := lkA M s nm = lkA M2 s nm ∧ viQ M s nm = viQ M2 s nm
def ObsAt (M M2 : Mu) (nm : ByteArray) : Prop := scqD M.com nm = scqD M2.com nm ∧ ∀ s : Int, -1 ≤ s → s < 5 → ObsS M M2 nm s
def Obs (M M2 : Mu) : Prop := namesD M.com = namesD M2.com ∧ ObsAt M M2 ⟨#[]⟩ ∧ (∀ s : Int, -1 ≤ s → s < 5 → actA M s = actA M2 s) ∧ ∀ nm ∈ namesD M2.com, ObsAt M M2 nm
theorem ObsAt.refl (M : Mu) (nm : ByteArray) : ObsAt M M nm := ⟨rfl, fun s _ _ => ⟨rfl, rfl⟩⟩
theorem Obs.refl (M : Mu) : Obs M M := ⟨rfl, ObsAt.refl M _, fun s _ _ => rfl, fun nm _ => ObsAt.refl M nm⟩
theorem anV_vi (M : Mu) (s : Int) (nm : ByteArray) : (anV M s nm).rows = (viQ M s nm).1 ∧ (anV M s nm).e = (viQ M s nm).2 := by
  unfold anV viQ
  by_cases g : gdS s
  · rw [if_pos g, if_pos g]
    cases findD M.com nm with
    | none => exact ⟨rfl, rfl⟩
    | some t =>
      refine ⟨?_, rfl⟩
      show ((findD (M.see s.toNat) nm).map (·.rows)).getD [] = (tabE (M.see s.toNat) nm).rows
      unfold tabE
      cases findD (M.see s.toNat) nm <;> rfl
  · rw [if_neg g, if_neg g]
    exact ⟨rfl, rfl⟩
/-- Both sides while they are looked at. -/
structure AQ (p : Gnd) (k g x k2 q2 : Nat) (M N : Mu) (K H : Nat → Prop) (last : Int) (w0 w : World) : Prop where
  qr : QR p w k g x M K last
  me : ME w k2 q2 N H
  on : Only p.S w0 w
/-- The two sides are apart, and old. -/
structure ApQ (p : Gnd) (x k k2 : Nat) (K H : Nat → Prop) (w0 : World) : Prop where
  sep : ∀ b, H b ∨ b = k2 → ¬ p.A b ∧ b ≠ x ∧ ¬ K b ∧ b ≠ k
  lr : ∀ b, p.A b ∨ b = x ∨ K b ∨ b = k → b < w0.heap.size
  lh : ∀ b, H b ∨ b = k2 → b < w0.heap.size
/-- What a comparison leaves. -/
def AaQ (p : Gnd) (k g x k2 q2 : Nat) (M N : Mu) (K H : Nat → Prop) (last : Int) (w0 : World) (P : Prop) (e : Ending) (w' : World) : Prop := ∃ b, e = .returned (.bool b) ∧ (b = true ↔ P) ∧ AQ p k g x k2 q2 M N K H last w0 w'
section
variable {p : Gnd} {k g x k2 q2 : Nat} {M N : Mu} {K H : Nat → Prop} {last : Int} {w0 w w' : World}
theorem AQ.quiet (h : AQ p k g x k2 q2 M N K H last w0 w) (o : Only (fun _ => False) w w') : AQ p k g x k2 q2 M N K H last w0 w' := ⟨h.qr.quiet o, h.me.quiet o, h.on.trans (o.mono (T := p.S) (fun _ _ e => e.elim)) (fun _ _ e => e)⟩
theorem AQ.real (h : AQ p k g x k2 q2 M N K H last w0 w) (ap : ApQ p x k k2 K H w0) (r : QR p w' k g x M K last) (o : Only p.S w w') : AQ p k g x k2 q2 M N K H last w0 w' := ⟨r, h.me.keep o (fun b hb c => (ap.sep b hb).1 (Gnd.S_A c)), h.on.trans o (fun _ _ e => e)⟩
theorem AQ.spoil {B : Nat → Prop} (h : AQ p k g x k2 q2 M N K H last w0 w) (ap : ApQ p x k k2 K H w0) (o : Only B w w') (hB : ∀ k, B k → w0.heap.size ≤ k) : AQ p k g x k2 q2 M N K H last w0 w' :=
  ⟨h.qr.keep o (fun k hk c => by have := hB k c; have := ap.lr k hk; omega), h.me.keep o (fun k hk c => by have := hB k c; have := ap.lh k hk; omega), Only.late h.on o hB⟩
theorem AQ.base (h : AQ p k g x k2 q2 M N K H last w0 w) : AQ p k g x k2 q2 M N K H last w w := ⟨h.qr, h.me, Only.refl _ _⟩
theorem AQ.join (h : AQ p k g x k2 q2 M N K H last w0 w) (j : AQ p k g x k2 q2 M N K H last w w') : AQ p k g x k2 q2 M N K H last w0 w' := ⟨j.qr, j.me, h.on.trans j.on (fun _ _ e => e)⟩
theorem ApQ.up (h : ApQ p x k k2 K H w0) (hs : w0.heap.size ≤ w.heap.size) : ApQ p x k k2 K H w := ⟨h.sep, fun b hb => Nat.lt_of_lt_of_le (h.lr b hb) hs, fun b hb => Nat.lt_of_lt_of_le (h.lh b hb) hs⟩
theorem AaQ.lift {P : Prop} {e : Ending} (h : AQ p k g x k2 q2 M N K H last w0 w) (a : AaQ p k g x k2 q2 M N K H last w P e w') : AaQ p k g x k2 q2 M N K H last w0 P e w' := by
  obtain ⟨b, h1, h2, h3⟩ := a
  exact ⟨b, h1, h2, h.join h3⟩
set_option maxRecDepth 100000 in
set_option maxHeartbeats 4000000 in
theorem slsameTables_any (A : AQ p k g x k2 q2 M N K H last w w) (ap : ApQ p x k k2 K H w) : Calls Tryz.prog 67 #[.pointer (some ⟨k, 0, none⟩), .pointer (some ⟨k2, 0, none⟩)] w (AaQ p k g x k2 q2 M N K H last w (namesD M.com = namesD N.com)) := by
  have hl1 : (namesD M.com).length ≤ 3 := by unfold namesD; rw [List.length_map]; exact A.qr.rx.muQ.g.len
  have C1 := sqtables_any A.qr
  have HAP := hide ap
  have HA := hide A
  obtain ⟨N1, hN1⟩ : ∃ N, namesD M.com = N := ⟨_, rfl⟩
  obtain ⟨N2, hN2⟩ : ∃ l, namesD N.com = l := ⟨_, rfl⟩
  rw [hN1] at C1 hl1
  rw [hN1, hN2]
  have HNN := hide hN2
  have C1 := hide C1
  clear A ap hN1 hN2
  go_enter Tryz.func67, Tryz.ntmps67
  go_wp2_with fail
  refine (unhide C1).mono ?_
  rintro e w1 ⟨xv, rfl, OX, nX, r1, o1⟩
  have HA1 := hide ((unhide HA).real (unhide HAP) r1 o1)
  have C2 := smtables_any (unhide HA1).me
  rw [unhide HNN] at C2
  have C2 := hide C2
  have HX := hide (And.intro OX nX)
  clear C1 r1 o1 OX nX
  go_wp2_with fail
  refine (unhide C2).mono ?_
  rintro e w2 ⟨nv, rfl, G1⟩
  have HA2 := hide ((unhide HA1).quiet G1.ho)
  have OX2 : OwnN w2 xv N1 := ownsRow_keep (unhide HX).1 G1.ho (fun _ _ e => e)
  obtain ⟨R, hR⟩ : ∃ R : Bool, decide (N1 = N2) = R := ⟨_, rfl⟩
  have C3 := hide (sameNames_any OX2 G1.own (by omega) R hR)
  have HR := hide hR
  have HX2 := hide OX2
  clear C2 G1 OX2 hR HA1
  go_wp2_with fail
  refine (unhide C3).mono ?_
  rintro e w3 ⟨rfl, o3⟩
  have HA3 := hide ((unhide HA2).quiet o3)
  have C4 := hide (spoilNames_any (show OwnN w3 xv N1 from ownsRow_keep (unhide HX2) o3 (fun _ _ e => e)) (by omega))
  clear C3 o3 HA2 HX2
  go_wp2_with fail
  refine (unhide C4).mono ?_
  rintro e w4 ⟨rfl, o4⟩
  have HA4 := hide ((unhide HA3).spoil (unhide HAP) o4 (fun k hk => (unhide HX).2 k hk))
  clear C4 o4 HA3
  go_wp2_with fail
  go_ret
  exact ⟨R, rfl, by rw [← unhide HR]; exact decide_eq_true_iff, unhide HA4⟩
set_option maxRecDepth 100000 in
set_option maxHeartbeats 4000000 in
theorem slsameView_any (A : AQ p k g x k2 q2 M N K H last w w) (ap : ApQ p x k k2 K H w) (s : Int) (nm : ByteArray) : Calls Tryz.prog 73 #[.pointer (some ⟨k, 0, none⟩), .pointer (some ⟨k2, 0, none⟩), .int .i64 s, .string nm] w (AaQ p k g x k2 q2 M N K H last w (viQ M s nm = viQ N s nm)) := by
  have C1 := sqview_any A.qr s nm
  have HAP := hide ap
  have HA := hide A
  obtain ⟨A1, hA1⟩ : ∃ V, viQ M s nm = V := ⟨_, rfl⟩
  obtain ⟨A2, hA2⟩ : ∃ V, viQ N s nm = V := ⟨_, rfl⟩
  rw [hA1] at C1
  rw [hA1, hA2]
  have HV := hide hA2
  have C1 := hide C1
  clear A ap hA1 hA2
  go_enter Tryz.func73, Tryz.ntmps73
  go_wp2_with fail
  refine (unhide C1).mono ?_
  rintro e w1 ⟨r1, o1, ra, rn, rc, Z, rfl, hRL, hZ8, hZr, hZm⟩
  have HA1 := hide ((unhide HA).real (unhide HAP) r1 o1)
  have HRL := hide (And.intro hRL (And.intro hZ8 (And.intro hZr hZm)))
  have C2 := smview_any (unhide HA1).me s nm
  rw [(anV_vi N s nm).1, (anV_vi N s nm).2, unhide HV] at C2
  have C2 := hide C2
  clear C1 r1 o1 hRL hZ8 hZr hZm
  go_wp2_with fail
  refine (unhide C2).mono ?_
  rintro e w2 ⟨v, Y, rfl, hYm, own, hr, hNv, o2⟩
  obtain ⟨pa, pc, rfl⟩ := ownsRow_shape own
  obtain ⟨pn, hpn⟩ : ∃ k, Y.length = k := ⟨_, rfl⟩
  rw [hpn] at own ⊢
  have HA2 := hide ((unhide HA1).quiet o2)
  have RL2 := (unhide HRL).1.quiet o2
  obtain ⟨R, hR⟩ : ∃ R : Bool, decide (A1.1 = A2.1) = R := ⟨_, rfl⟩
  have CR := sameRows_any (A := A1.1) (B := A2.1) (by rw [← (unhide HRL).2.2.2]; exact rd_of RL2.own (fun z hz => (RL2.row z hz).1)) (by rw [← hYm]; exact rd_of (by rw [hpn]; exact own) (fun z hz => (hr z hz).1)) (by rw [← (unhide HRL).2.2.2, List.length_map]; have := (unhide HRL).2.1; omega) (fun r hr => by
    rw [← (unhide HRL).2.2.2] at hr
    obtain ⟨y, hy, rfl⟩ := List.mem_map.mp hr
    have := (unhide HRL).2.2.1 y hy
    omega) R hR
  have CR := hide CR
  have HR := hide hR
  have HR2 := hide RL2
  clear C2 hYm own hr hNv o2 hpn RL2 hR HA1
  by_cases hee : A1.2 = A2.2
  · have d2 : (A1.2 == A2.2) = true := by simp [hee]
    have HE := hide hee
    clear hee
    go_wp2_with fail
    refine (unhide CR).mono ?_
    rintro e w3 ⟨rfl, o3⟩
    have HA3 := hide ((unhide HA2).quiet o3)
    have C4 := hide (spoilAllL_any ((unhide HR2).quiet o3) (by have := (unhide HRL).2.1; omega) (fun z hz => by have := (unhide HRL).2.2.1 z hz; omega))
    clear CR o3 HA2 d2
    go_wp2_with fail
    refine (unhide C4).mono ?_
    rintro e w4 ⟨rfl, o4⟩
    have HA4 := hide ((unhide HA3).spoil (unhide HAP) o4 (fun b hb => by
      rcases hb with hb | ⟨z, hz, hb⟩
      · exact (unhide HR2).nb b hb
      · exact ((unhide HR2).row z hz).2 b hb))
    clear C4 o4 HA3
    go_wp2_with fail
    go_ret
    refine ⟨R, rfl, ?_, unhide HA4⟩
    rw [← unhide HR]
    have he := unhide HE
    refine ⟨fun h => ?_, fun h => decide_eq_true (by rw [h])⟩
    have h1 : A1.1 = A2.1 := of_decide_eq_true h
    cases A1
    cases A2
    simp only at h1 he
    rw [h1, he]
  · have d2 : (A1.2 == A2.2) = false := by simpa using hee
    have HE := hide hee
    have C4 := hide (spoilAllL_any (unhide HR2) (by have := (unhide HRL).2.1; omega) (fun z hz => by have := (unhide HRL).2.2.1 z hz; omega))
    clear hee
    go_wp2_with fail
    refine (unhide C4).mono ?_
    rintro e w4 ⟨rfl, o4⟩
    have HA4 := hide ((unhide HA2).spoil (unhide HAP) o4 (fun b hb => by
      rcases hb with hb | ⟨z, hz, hb⟩
      · exact (unhide HR2).nb b hb
      · exact ((unhide HR2).row z hz).2 b hb))
    clear C4 o4 HA2 CR d2
    go_wp2_with fail
    go_ret
    exact ⟨false, rfl, ⟨(fun e => by cases e), fun e => absurd (by rw [e]) (unhide HE)⟩, unhide HA4⟩
set_option maxRecDepth 100000 in
set_option maxHeartbeats 4000000 in
theorem slsameSchemaOf_any (A : AQ p k g x k2 q2 M N K H last w w) (ap : ApQ p x k k2 K H w) (nm : ByteArray) : Calls Tryz.prog 74 #[.pointer (some ⟨k, 0, none⟩), .pointer (some ⟨k2, 0, none⟩), .string nm] w (AaQ p k g x k2 q2 M N K H last w (scqD M.com nm = scqD N.com nm)) := by
  have C1 := sqschemaOf_any A.qr nm
  have HAP := hide ap
  have HA := hide A
  obtain ⟨S1, hS1⟩ : ∃ S1, scqD M.com nm = S1 := ⟨_, rfl⟩
  obtain ⟨S2, hS2⟩ : ∃ S2, scqD N.com nm = S2 := ⟨_, rfl⟩
  rw [hS1] at C1
  rw [hS1, hS2]
  have HS := hide hS2
  have C1 := hide C1
  clear A ap hS1 hS2
  go_enter Tryz.func74, Tryz.ntmps74
  go_wp2_with fail
  refine (unhide C1).mono ?_
  rintro e w1 ⟨r1, o1, ca, cn, cc, rfl, hC1, hN1, hl1⟩
  have oA : Only (fun _ => False) w1 (w1.alloc (.cells #[.string S1.nm, .slice ca cn cc, .int .i64 S1.pk, .int .i64 S1.ix] 79)) := (Only.refl _ _).alloc _
  have HB1 := hide (Has.new w1 #[.string S1.nm, .slice ca cn cc, .int .i64 S1.pk, .int .i64 S1.ix] 79)
  have HA1 := hide (((unhide HA).real (unhide HAP) r1 o1).quiet oA)
  have HC1 := hide (And.intro (hC1.keep oA (fun _ _ e => e)) (And.intro hN1 hl1))
  clear C1 r1 o1 hC1 hN1 hl1 oA
  go_upto_region 2 with fail
  generalize w1.alloc (.cells #[.string S1.nm, .slice ca cn cc, .int .i64 S1.pk, .int .i64 S1.ix] 79) = w2 at *
  generalize w1.heap.size = k1 at *
  have C2 := smschemaOf_any (unhide HA1).me nm
  rw [unhide HS] at C2
  have C2 := hide C2
  go_wp2_with fail
  refine (unhide C2).mono ?_
  rintro e w3 ⟨da, dn, dc, rfl, hC3, hN3, hl3, o3⟩
  have oB : Only (fun _ => False) w3 (w3.alloc (.cells #[.string S2.nm, .slice da dn dc, .int .i64 S2.pk, .int .i64 S2.ix] 79)) := (Only.refl _ _).alloc _
  have o3B := o3.trans oB (fun _ _ e => e)
  have HB2 := hide (Has.new w3 #[.string S2.nm, .slice da dn dc, .int .i64 S2.pk, .int .i64 S2.ix] 79)
  have HB1 := hide ((unhide HB1).keep o3B (fun e => e))
  have HA2 := hide ((unhide HA1).quiet o3B)
  have HC2 := hide (And.intro ((unhide HC1).1.keep o3B (fun _ _ e => e)) (hC3.keep oB (fun _ _ e => e)))
  clear C2 hC3 hN3 hl3 o3 oB o3B HA1
  go_upto_region 3 with fail
  generalize w3.alloc (.cells #[.string S2.nm, .slice da dn dc, .int .i64 S2.pk, .int .i64 S2.ix] 79) = w4 at *
  generalize w3.heap.size = g2 at *
  have a0 : w4.cell? ⟨k1, 0, none⟩ = some (.string S1.nm) := (unhide HB1).cell 0
  have a1 : w4.cell? ⟨k1, 1, none⟩ = some (.slice ca cn cc) := (unhide HB1).cell 1
  have a2 : w4.cell? ⟨k1, 2, none⟩ = some (.int .i64 S1.pk) := (unhide HB1).cell 2
  have a3 : w4.cell? ⟨k1, 3, none⟩ = some (.int .i64 S1.ix) := (unhide HB1).cell 3
  have al := (unhide HB1).lt
  have b0 : w4.cell? ⟨g2, 0, none⟩ = some (.string S2.nm) := (unhide HB2).cell 0
  have b1 : w4.cell? ⟨g2, 1, none⟩ = some (.slice da dn dc) := (unhide HB2).cell 1
  have b2 : w4.cell? ⟨g2, 2, none⟩ = some (.int .i64 S2.pk) := (unhide HB2).cell 2
  have b3 : w4.cell? ⟨g2, 3, none⟩ = some (.int .i64 S2.ix) := (unhide HB2).cell 3
  have bl := (unhide HB2).lt
  by_cases hz : S1.z = S2.z
  rotate_left
  · have d2 : (S1.z == S2.z) = false := by simpa using hz
    have HZ := hide hz
    have C4 := hide (spoilCols_any (unhide HC2).1 (by have := (unhide HC1).2.2; omega))
    clear hz
    go_wp2_with fail
    refine (unhide C4).mono ?_
    rintro e w6 ⟨rfl, o6⟩
    have FF := hide (show AaQ p k g x k2 q2 M N K H last w (S1 = S2) (.returned (.bool false)) w6 from ⟨false, rfl, ⟨(fun e => by cases e), fun e => absurd (by rw [e]) (unhide HZ)⟩, (unhide HA2).spoil (unhide HAP) o6 (fun b hb => (unhide HC1).2.1 b hb)⟩)
    clear C4 o6 HA2 HC2 HC1 HB1 HB2 a0 a1 a2 a3 b0 b1 b2 b3 al bl
    go_wp2_with fail
    go_ret
    exact unhide FF
  have d2 : (S1.z == S2.z) = true := by simp [hz]
  have HZ := hide hz
  clear hz
  obtain ⟨R, hR⟩ : ∃ R : Bool, decide (S1.nm = S2.nm ∧ S1.pk = S2.pk ∧ S1.ix = S2.ix ∧ S1.cols = S2.cols) = R := ⟨_, rfl⟩
  have CS := jsameSchema_any (unhide HC2).1 (unhide HC2).2 (by have := (unhide HC1).2.2; omega) R hR
  unfold schA at CS
  have CS := hide CS
  have HR := hide hR
  clear hR
  go_wp2_with fail
  refine (unhide CS).mono ?_
  rintro e w5 ⟨rfl, o5⟩
  clear CS
  have HA3 := hide ((unhide HA2).quiet o5)
  have HC3 := hide ((unhide HC2).1.keep o5 (fun _ _ e => e))
  have a1 : w5.cell? ⟨k1, 1, none⟩ = some (.slice ca cn cc) := cell_keep a1 o5 (fun e => e)
  have al : k1 < w5.heap.size := Nat.lt_of_lt_of_le al o5.size
  clear o5 HA2 HC2 a0 a2 a3 b0 b1 b2 b3 bl d2
  have C4 := hide (spoilCols_any (unhide HC3) (by have := (unhide HC1).2.2; omega))
  go_wp2_with fail
  refine (unhide C4).mono ?_
  rintro e w6 ⟨rfl, o6⟩
  have FF := hide (show AaQ p k g x k2 q2 M N K H last w (S1 = S2) (.returned (.bool R)) w6 from ⟨R, rfl, (by
    rw [← unhide HR]
    have e5 := unhide HZ
    refine ⟨fun h => ?_, fun h => decide_eq_true (by rw [h]; exact ⟨rfl, rfl, rfl, rfl⟩)⟩
    obtain ⟨e1, e2, e3, e4⟩ := of_decide_eq_true h
    cases S1
    cases S2
    simp only at e1 e2 e3 e4 e5
    simp only [Scq.mk.injEq]
    exact ⟨e1, e4, e2, e3, e5⟩), (unhide HA3).spoil (unhide HAP) o6 (fun b hb => (unhide HC1).2.1 b hb)⟩)
  clear C4 o6 HA3 HC3 HC1 HB1 HB2 a1 al
  go_wp2_with fail
  go_ret
  exact unhide FF
end
end Go.Proofs.Qxb6500412aGreat
