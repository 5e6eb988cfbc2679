/-
  OWN WORK. THE TXN LAW: AlikeAt.
-/
import Derived.Test.Qxb6500414aGreatXR0
import Derived.Test.Qxb6500414aGreatXL8
namespace Go.Proofs.Qxb6500414aGreat
open Go.RowKit Go.PlainAid
set_option linter.unusedSimpArgs false
set_option linter.unusedVariables false

section
variable {w w' : World} {m : Nat} {M : Mu} {U : Db} {hist : Option Db} {H : Nat → Prop}
/-- Rows in memory, no block of them below lo. -/
structure RLw (lo : Nat) (v : Value) (Z : List (Value × List Vl)) (w : World) : Prop where
  own : w.ownsRow 0 47 1 v Z.length (Z.map (·.1))
  row : ∀ z ∈ Z, OwnV w z.1 z.2 ∧ ∀ k, z.1.ownBlock = some k → lo ≤ k
  nb : ∀ k, v.ownBlock = some k → lo ≤ k
/-- The model's View. -/
def XvP (w : World) (m : Nat) (M : Mu) (U : Db) (hist : Option Db) (H : Nat → Prop) (A : An) (x : Ending) (w' : World) : Prop :=
  ∃ (ra : Option Addr) (rn rc : Nat) (Z : List (Value × List Vl)), x = .returned (.tuple #[.slice ra rn rc, .int .i64 A.e]) ∧ Z.map (·.2) = A.rows ∧ RLw w.heap.size (.slice ra rn rc) Z w' ∧ NX w' m M U hist H ∧ Only (fun k => k = m) w w'
theorem NX.multi (h : NX w m M U hist H) : ∃ k P, MX w k M P ∧ w.cell? ⟨m, 0, none⟩ = some (.pointer (some ⟨k, 0, none⟩)) := by
  obtain ⟨k, bv, hv, got, P, O, h1, h2, h3, h4, h5, h6⟩ := h.ex
  exact ⟨k, P, h2, by rw [h1.cell]; rfl⟩
set_option maxRecDepth 100000 in
set_option maxHeartbeats 4000000 in
theorem xnview_any (h : NX w m M U hist H) (a : Int) (s : ByteArray) : Calls Tryz.prog 107 #[.pointer (some ⟨m, 0, none⟩), .int .i64 a, .string s] w (XvP w m M U hist H (anV M a s)) := by
  obtain ⟨k, P, X, c0⟩ := h.multi
  have CC := xmview_any X a s
  generalize anV M a s = A at *
  have CC := hide CC
  have HH := hide h
  have kl := X.kl
  have ml := h.ml
  clear X h
  go_enter Tryz.func107, Tryz.ntmps107
  go_wp2_with fail
  refine (unhide CC).mono ?_
  rintro x w3 ⟨v, Z, rfl, hZ, own, hr, hN, o2⟩
  obtain ⟨ra, rc, rfl⟩ := ownsRow_shape own
  obtain ⟨y, g3, f3⟩ := ((unhide HH).quiet o2).gotc
  have ml3 := ((unhide HH).quiet o2).ml
  have HG := hide (fun y => show XvP w m M U hist H A (.returned (.tuple #[.slice ra Z.length rc, .int .i64 A.e])) (w3.setCell ⟨m, 3, none⟩ (.int .i64 y)) from by
    have o3 : Only (fun k => k = m) w3 (w3.setCell ⟨m, 3, none⟩ (.int .i64 y)) := only1 _ _
    have ne : ∀ b, w.heap.size ≤ b → b ≠ m := fun b hb e => by have := (unhide HH).ml; omega
    exact ⟨ra, _, rc, Z, rfl, hZ, ⟨ownsRow_keep own o3 (fun b hb e => ne b (hN b hb) e), fun z hz => ⟨(hr z hz).1.keep o3 (fun b hb e => ne b ((hr z hz).2 b hb) e), (hr z hz).2⟩, hN⟩, ((unhide HH).quiet o2).got y, (o2.mono (fun _ _ e => e.elim)).trans o3 (fun _ _ e => e)⟩)
  obtain ⟨zn, hzn⟩ : ∃ k, Z.length = k := ⟨_, rfl⟩
  rw [hzn] at HG ⊢
  clear CC hZ own hr hN o2 c0 hzn
  go_wp2_with fail
  go_ret2
  exact unhide HG _
end
/-- Both sides while they are looked at. -/
structure AL (q : Gnd) (g x m : Nat) (M M2 : Mu) (K H : Nat → Prop) (U : Db) (hist : Option Db) (w0 w : World) : Prop where
  rx : RX q w g x M K
  nx : NX w m M2 U hist H
  on : Only (fun k => q.S k ∨ k = m) w0 w
/-- The two sides are apart, and old. -/
structure Apt (q : Gnd) (x : Nat) (K H : Nat → Prop) (w0 : World) : Prop where
  sep : ∀ b, H b → ¬ q.A b ∧ b ≠ x ∧ ¬ K b
  lr : ∀ b, q.A b ∨ b = x ∨ K b → b < w0.heap.size
  lh : ∀ b, H b → b < w0.heap.size
section
variable {q : Gnd} {g x m : Nat} {M M2 : Mu} {K H : Nat → Prop} {U : Db} {hist : Option Db} {w0 w w' : World}
theorem AL.quiet (h : AL q g x m M M2 K H U hist w0 w) (o : Only (fun _ => False) w w') : AL q g x m M M2 K H U hist w0 w' := ⟨h.rx.quiet o, h.nx.quiet o, h.on.trans (o.mono (T := fun k => q.S k ∨ k = m) (fun _ _ e => e.elim)) (fun _ _ e => e)⟩
theorem AL.real (h : AL q g x m M M2 K H U hist w0 w) (ap : Apt q x K H w0) (r : RX q w' g x M K) (o : Only q.S w w') : AL q g x m M M2 K H U hist w0 w' := ⟨r, h.nx.keep o (fun b hb c => (ap.sep b hb).1 (Gnd.S_A c)), h.on.trans (o.mono (T := fun k => q.S k ∨ k = m) (fun _ _ e => .inl e)) (fun _ _ e => e)⟩
theorem AL.model (h : AL q g x m M M2 K H U hist w0 w) (ap : Apt q x K H w0) (n : NX w' m M2 U hist H) (o : Only (fun k => k = m) w w') : AL q g x m M M2 K H U hist w0 w' := ⟨h.rx.keep o (fun k hk e => by
    have e' : k = m := e
    subst e'
    have hs := ap.sep k h.nx.hm
    rcases hk with c | c | c
    · exact hs.1 c
    · exact hs.2.1 c
    · exact hs.2.2 c), n, h.on.trans (o.mono (T := fun k => q.S k ∨ k = m) (fun _ _ e => .inr e)) (fun _ _ e => e)⟩
theorem AL.spoil {B : Nat → Prop} (h : AL q g x m M M2 K H U hist w0 w) (ap : Apt q x K H w0) (o : Only B w w') (hB : ∀ k, B k → w0.heap.size ≤ k) : AL q g x m M M2 K H U hist w0 w' :=
  ⟨h.rx.keep o (fun k hk c => by have := hB k c; have := ap.lr k hk; omega), h.nx.keep o (fun k hk c => by have := hB k c; have := ap.lh k hk; omega), Only.late h.on o hB⟩
/-- What the real SchemaOf answers. -/
theorem rschemaD_any (R : RX q w g x M K) (nm : ByteArray) : Calls Tryz.prog 66 #[.pointer (some ⟨g, 0, none⟩), .string nm] w fun e w' => RX q w' g x M K ∧ Only q.S w w' ∧ ∃ ca cn cc, e = .returned (.tuple #[.agg #[.string (schD M.com nm).nm, .slice ca cn cc, .int .i64 (schD M.com nm).pk, .int .i64 (schD M.com nm).ix], .int .i64 (schD M.com nm).z]) ∧ OwnC w' (.slice ca cn cc) (schD M.com nm).cols ∧ Newer w (.slice ca cn cc) ∧ (schD M.com nm).cols.length ≤ 3 :=
  (rschemaOf_any R nm).mono (by
    rintro e w1 ⟨r, ho, h⟩
    refine ⟨r, ho, ?_⟩
    unfold schD
    rcases h with ⟨hf, he⟩ | ⟨u, cv, hf, he, hc, hn⟩
    · rw [hf]
      exact ⟨none, 0, 0, he, OwnC.nil _, (fun k h => by cases h), by simp⟩
    · rw [hf]
      obtain ⟨ca, cc, rfl⟩ := hc.shape
      exact ⟨ca, _, cc, he, hc, hn, (R.dg.1.tb u (findD_mem hf).1).n3⟩)
/-- What the real View answers. -/
theorem rviewA_any (R : RX q w g x M K) (a : Int) (s : ByteArray) : Calls Tryz.prog 65 #[.pointer (some ⟨g, 0, none⟩), .int .i64 a, .string s] w fun e w' => RX q w' g x M K ∧ Only q.S w w' ∧ ∃ ra rn rc Z, e = .returned (.tuple #[.slice ra rn rc, .int .i64 (anV M a s).e]) ∧ RL w.heap.size (.slice ra rn rc) Z w' ∧ Z.length ≤ 8 ∧ (∀ y ∈ Z, y.2.length ≤ 1000) ∧ Z.map (·.2) = (anV M a s).rows :=
  (rview_any R a s).mono (by
    rintro e w1 ⟨r, ho, h⟩
    refine ⟨r, ho, ?_⟩
    unfold anV
    rcases h with ⟨hs, he⟩ | ⟨hs, hf, he⟩ | ⟨u, v, Z, hs, hf, hf2, he, hr, hz⟩
    · rw [if_neg hs]
      exact ⟨none, 0, 0, [], he, RL.nil _ _, by simp, by simp, rfl⟩
    · rw [if_pos hs, hf]
      exact ⟨none, 0, 0, [], he, RL.nil _ _, by simp, by simp, rfl⟩
    · have h4 : a.toNat < 4 := by have := hs.1; have := hs.2; omega
      have ok := (R.dg.2 a.toNat h4).tb u (findD_mem hf).1
      have hl : Z.length ≤ 8 := by have e := congrArg List.length hz; rw [List.length_map] at e; rw [e]; exact ok.len
      obtain ⟨ra, rc, rfl⟩ := ownsRow_shape hr.own
      rw [if_pos hs]
      cases hc : findD M.com s with
      | none => exact absurd hc hf2
      | some _ =>
        refine ⟨ra, _, rc, Z, he, hr, hl, fun y hy => ?_, by rw [hf]; exact hz⟩
        have : y.2 ∈ u.rows := by rw [← hz]; exact List.mem_map.mpr ⟨y, hy, rfl⟩
        rw [(ok.row _ this).len]
        have := ok.n3
        omega)
/-- What AlikeAt leaves. -/
def AaP (q : Gnd) (g x m : Nat) (M M2 : Mu) (K H : Nat → Prop) (U : Db) (hist : Option Db) (w0 : World) (P : Prop) (e : Ending) (w' : World) : Prop := ∃ b, e = .returned (.bool b) ∧ (b = true ↔ P) ∧ AL q g x m M M2 K H U hist w0 w'
theorem An.ext_v {a b : Int} {s : ByteArray} (h1 : (anV M a s).e = (anV M2 a s).e) (h2 : (anV M a s).rows = (anV M2 a s).rows) : anV M a s = anV M2 a s := by
  have key : ∀ N : Mu, anV N a s = { An.z with e := (anV N a s).e, rows := (anV N a s).rows } := fun N => by
    unfold anV
    by_cases g : gdS a
    · rw [if_pos g]
      cases findD N.com s <;> rfl
    · rw [if_neg g]; rfl
  rw [key M, key M2, h1, h2]
set_option maxRecDepth 100000 in
set_option maxHeartbeats 8000000 in
theorem xlalikeAt_any (A : AL q g x m M M2 K H U hist w0 w) (ap : Apt q x K H w0) (nm : ByteArray) : Calls Tryz.prog 33 #[.pointer (some ⟨g, 0, none⟩), .pointer (some ⟨m, 0, none⟩), .string nm] w (AaP q g x m M M2 K H U hist w0 (ObsAt M M2 nm)) := by
  have C1 := rschemaD_any A.rx nm
  have HAP := hide ap
  have HA := hide A
  obtain ⟨S1, hS1⟩ : ∃ S1, schD M.com nm = S1 := ⟨_, rfl⟩
  obtain ⟨S2, hS2⟩ : ∃ S2, schD M2.com nm = S2 := ⟨_, rfl⟩
  rw [hS1] at C1
  have HS := hide (And.intro hS1 hS2)
  have C1 := hide C1
  clear A ap hS1 hS2
  go_enter Tryz.func33, Tryz.ntmps33
  go_wp2_with fail
  refine (unhide C1).mono ?_
  rintro e w1 ⟨r1, o1, ca, cn, cc, rfl, hC1, hN1, hl1⟩
  have oA : Only (fun _ => False) w1 (w1.alloc (.cells #[.string S1.nm, .slice ca cn cc, .int .i64 S1.pk, .int .i64 S1.ix] 51)) := (Only.refl _ _).alloc _
  have HB1 := hide (Has.new w1 #[.string S1.nm, .slice ca cn cc, .int .i64 S1.pk, .int .i64 S1.ix] 51)
  have z0 := (unhide HA).on.size
  have z1 := o1.size
  have zA := oA.size
  have HA1 := hide (((unhide HA).real (unhide HAP) r1 o1).quiet oA)
  have HC1 := hide (And.intro (hC1.keep oA (fun _ _ e => e)) (And.intro (show ∀ k, (Value.slice ca cn cc).ownBlock = some k → w0.heap.size ≤ k from fun k h => by have := hN1 k h; omega) hl1))
  have Hks := hide (show w0.heap.size ≤ w1.heap.size by omega)
  clear C1 r1 o1 hC1 hN1 hl1 oA
  go_upto_region 2 with fail
  generalize w1.alloc (.cells #[.string S1.nm, .slice ca cn cc, .int .i64 S1.pk, .int .i64 S1.ix] 51) = w2 at *
  generalize w1.heap.size = k1 at *
  have C2 := xnschema_any (unhide HA1).nx nm
  rw [(unhide HS).2] at C2
  have C2 := hide C2
  go_wp2_with fail
  refine (unhide C2).mono ?_
  rintro e w3 ⟨cv, rfl, hC3, hN3, o3⟩
  obtain ⟨da, dc, hdv⟩ := hC3.shape
  obtain ⟨dn, hdn⟩ : ∃ k, S2.cols.length = k := ⟨_, rfl⟩
  rw [hdn] at hdv
  subst hdv
  have oB : Only (fun _ => False) w3 (w3.alloc (.cells #[.string S2.nm, .slice da dn dc, .int .i64 S2.pk, .int .i64 S2.ix] 51)) := (Only.refl _ _).alloc _
  have o3B := o3.trans oB (fun _ _ e => e)
  have HB2 := hide (Has.new w3 #[.string S2.nm, .slice da dn dc, .int .i64 S2.pk, .int .i64 S2.ix] 51)
  have HB1 := hide ((unhide HB1).keep o3B (fun e => e))
  have HA2 := hide ((unhide HA1).quiet o3B)
  have HC2 := hide (And.intro ((unhide HC1).1.keep o3B (fun _ _ e => e)) (hC3.keep oB (fun _ _ e => e)))
  clear C2 hC3 hN3 o3 oB o3B hdn HA1
  go_upto_region 3 with fail
  generalize w3.alloc (.cells #[.string S2.nm, .slice da dn dc, .int .i64 S2.pk, .int .i64 S2.ix] 51) = w4 at *
  generalize w3.heap.size = k2 at *
  have a0 : w4.cell? ⟨k1, 0, none⟩ = some (.string S1.nm) := (unhide HB1).cell 0
  have a1 : w4.cell? ⟨k1, 1, none⟩ = some (.slice ca cn cc) := (unhide HB1).cell 1
  have a2 : w4.cell? ⟨k1, 2, none⟩ = some (.int .i64 S1.pk) := (unhide HB1).cell 2
  have a3 : w4.cell? ⟨k1, 3, none⟩ = some (.int .i64 S1.ix) := (unhide HB1).cell 3
  have al := (unhide HB1).lt
  have b0 : w4.cell? ⟨k2, 0, none⟩ = some (.string S2.nm) := (unhide HB2).cell 0
  have b1 : w4.cell? ⟨k2, 1, none⟩ = some (.slice da dn dc) := (unhide HB2).cell 1
  have b2 : w4.cell? ⟨k2, 2, none⟩ = some (.int .i64 S2.pk) := (unhide HB2).cell 2
  have b3 : w4.cell? ⟨k2, 3, none⟩ = some (.int .i64 S2.ix) := (unhide HB2).cell 3
  have bl := (unhide HB2).lt
  by_cases hz : S1.z = S2.z
  rotate_left
  · have d1 : (S1.z != S2.z) = true := by simpa using hz
    have d2 : (S1.z == S2.z) = false := by simpa using hz
    have FF := hide (show AaP q g x m M M2 K H U hist w0 (ObsAt M M2 nm) (.returned (.bool false)) w4 from ⟨false, rfl, ⟨(fun e => by cases e), fun e => absurd (by rw [← (unhide HS).1, ← (unhide HS).2, e.1]) hz⟩, unhide HA2⟩)
    clear hz
    go_wp2_with fail
    go_ret
    exact unhide FF
  have d1 : (S1.z != S2.z) = false := by simp [hz]
  have d2 : (S1.z == S2.z) = true := by simp [hz]
  have HZ := hide hz
  clear hz
  obtain ⟨R, hR⟩ : ∃ R : Bool, decide (S1.nm = S2.nm ∧ S1.pk = S2.pk ∧ S1.ix = S2.ix ∧ S1.cols = S2.cols) = R := ⟨_, rfl⟩
  have CS := jsameSchema_any (unhide HC2).1 (unhide HC2).2 (by have := (unhide HC1).2.2; omega) R hR
  unfold schA at CS
  have CS := hide CS
  have HR := hide hR
  clear hR
  go_wp2_with fail
  refine (unhide CS).mono ?_
  rintro e w5 ⟨rfl, o5⟩
  clear CS
  have HA3 := hide ((unhide HA2).quiet o5)
  have HC3 := hide ((unhide HC2).1.keep o5 (fun _ _ e => e))
  have a1 : w5.cell? ⟨k1, 1, none⟩ = some (.slice ca cn cc) := cell_keep a1 o5 (fun e => e)
  have al : k1 < w5.heap.size := Nat.lt_of_lt_of_le al o5.size
  clear o5 HA2 HC2 a0 a2 a3 b0 b1 b2 b3 bl d1 d2
  cases R with
  | false =>
    have FF := hide (show AaP q g x m M M2 K H U hist w0 (ObsAt M M2 nm) (.returned (.bool false)) w5 from ⟨false, rfl, ⟨(fun e => by cases e), fun e => absurd (show S1.nm = S2.nm ∧ S1.pk = S2.pk ∧ S1.ix = S2.ix ∧ S1.cols = S2.cols from by rw [← (unhide HS).1, ← (unhide HS).2, e.1]; exact ⟨rfl, rfl, rfl, rfl⟩) (of_decide_eq_false (unhide HR))⟩, unhide HA3⟩)
    go_wp2_with fail
    go_ret
    exact unhide FF
  | true =>
  have HSS := hide (show schD M.com nm = schD M2.com nm from by
    rw [(unhide HS).1, (unhide HS).2]
    obtain ⟨e1, e2, e3, e4⟩ := of_decide_eq_true (unhide HR)
    have e5 := unhide HZ
    cases S1
    cases S2
    simp only at e1 e2 e3 e4 e5
    simp only [Sch.mk.injEq]
    exact ⟨e1, e4, e2, e3, e5⟩)
  have C4 := hide (spoilCols_any (unhide HC3) (by have := (unhide HC1).2.2; omega))
  go_wp2_with fail
  refine (unhide C4).mono ?_
  rintro e w6 ⟨rfl, o6⟩
  have HA4 := hide ((unhide HA3).spoil (unhide HAP) o6 (unhide HC1).2.1)
  clear C4 o6 HA3 HC3 HC1 HR HZ HS HB1 HB2 a1 al
  go_upto_region 7 with fail
  go_loopw [11, 12, 13, 14, 15, 16, 17] (fun iv _ _ _ _ _ _ wr => ∃ s : Int, iv = .int .i64 s ∧ -1 ≤ s ∧ s ≤ 5 ∧ (∀ r, -1 ≤ r → r < s → ObsS M M2 nm r) ∧ AL q g x m M M2 K H U hist w0 wr) (fun iv _ _ _ _ _ _ _ => (5 - intOf iv).toNat)
  case atStart => exact ⟨-1, rfl, by omega, by omega, fun r h1 h2 => by omega, unhide HA4⟩
  case round =>
    clear HA4
    obtain ⟨s, rfl, hs1, hs5, hall, A5⟩ := hrel
    have HAL := hide hall
    have HA5 := hide A5
    clear hall A5
    by_cases hs : s ≤ 4
    · have e1 : decide (s ≤ 4) = true := decide_eq_true hs
      have C5 := rlockOf_any (unhide HA5).rx s nm
      have C6 := xnlockOf_any (unhide HA5).nx s nm
      obtain ⟨l1, hl1⟩ : ∃ l, (if gdS s then M.lk s.toNat nm else 0) = l := ⟨_, rfl⟩
      obtain ⟨l2, hl2⟩ : ∃ l, (if gdS s then M2.lk s.toNat nm else 0) = l := ⟨_, rfl⟩
      rw [hl1] at C5
      rw [hl2] at C6
      have HL := hide (show lkA M s nm = l1 ∧ lkA M2 s nm = l2 from ⟨hl1, hl2⟩)
      have C5 := hide C5
      have C6 := hide C6
      clear hl1 hl2
      go_wp2_with fail
      refine (unhide C5).mono ?_
      rintro e w7 ⟨rfl, rfl⟩
      go_wp2_with fail
      refine (unhide C6).mono ?_
      rintro e w7 ⟨rfl, rfl⟩
      clear C5 C6
      by_cases hll : l1 = l2
      rotate_left
      · have d1 : (l1 != l2) = true := by simpa using hll
        have d2 : (l1 == l2) = false := by simpa using hll
        have FF := hide (show AaP q g x m M M2 K H U hist w0 (ObsAt M M2 nm) (.returned (.bool false)) wr from ⟨false, rfl, ⟨(fun e => by cases e), fun e => absurd (by rw [← (unhide HL).1, ← (unhide HL).2]; exact (e.2 s hs1 (by omega)).1) hll⟩, unhide HA5⟩)
        clear hll
        go_wp2_with fail
        go_ret
        exact unhide FF
      have d1 : (l1 != l2) = false := by simp [hll]
      have d2 : (l1 == l2) = true := by simp [hll]
      have HLL := hide (show lkA M s nm = lkA M2 s nm from by rw [(unhide HL).1, (unhide HL).2]; exact hll)
      have C7 := rviewA_any (unhide HA5).rx s nm
      obtain ⟨A1, hA1⟩ : ∃ A, anV M s nm = A := ⟨_, rfl⟩
      obtain ⟨A2, hA2⟩ : ∃ A, anV M2 s nm = A := ⟨_, rfl⟩
      rw [hA1] at C7
      have HV := hide (And.intro hA1 hA2)
      have C7 := hide C7
      clear hll hA1 hA2 HL
      go_wp2_with fail
      refine (unhide C7).mono ?_
      rintro e w7 ⟨r7, o7, ra, rn, rc, Z, rfl, hRL, hZ8, hZr, hZm⟩
      have zw := (unhide HA5).on.size
      have z7 := o7.size
      have HA6 := hide ((unhide HA5).real (unhide HAP) r7 o7)
      have HRL := hide (And.intro hRL (And.intro hZ8 (And.intro hZr hZm)))
      have Hzw := hide (show w0.heap.size ≤ wr.heap.size from zw)
      clear C7 r7 o7 hRL hZ8 hZr hZm d1 d2
      have C8 := xnview_any (unhide HA6).nx s nm
      rw [(unhide HV).2] at C8
      have C8 := hide C8
      go_wp2_with fail
      refine (unhide C8).mono ?_
      rintro e w8 ⟨pa, pn, pc, Y, rfl, hYm, hRY, nx8, o8⟩
      have HA7 := hide ((unhide HA6).model (unhide HAP) nx8 o8)
      have nem : ∀ k, wr.heap.size ≤ k → k ≠ m := fun k hk e => by have := (unhide HAP).lh m (unhide HA6).nx.hm; have := unhide Hzw; omega
      have RL8 : RL wr.heap.size (.slice ra rn rc) Z w8 := ⟨ownsRow_keep (unhide HRL).1.own o8 (fun k hk e => nem k ((unhide HRL).1.nb k hk) e), fun z hz => ⟨((unhide HRL).1.row z hz).1.keep o8 (fun k hk e => nem k (((unhide HRL).1.row z hz).2 k hk) e), ((unhide HRL).1.row z hz).2⟩, (unhide HRL).1.nb, (unhide HRL).1.ap⟩
      have HR8 := hide (And.intro RL8 hRY)
      have HYm := hide hYm
      clear C8 nx8 o8 hRY hYm RL8 nem HA6
      by_cases hee : A1.e = A2.e
      rotate_left
      · have d1 : (A1.e != A2.e) = true := by simpa using hee
        have d2 : (A1.e == A2.e) = false := by simpa using hee
        have FF := hide (show AaP q g x m M M2 K H U hist w0 (ObsAt M M2 nm) (.returned (.bool false)) w8 from ⟨false, rfl, ⟨(fun e => by cases e), fun e => absurd (by rw [← (unhide HV).1, ← (unhide HV).2, (e.2 s hs1 (by omega)).2]) hee⟩, unhide HA7⟩)
        clear hee
        go_wp2_with fail
        go_ret
        exact unhide FF
      have d1 : (A1.e != A2.e) = false := by simp [hee]
      have d2 : (A1.e == A2.e) = true := by simp [hee]
      have HEE := hide hee
      clear hee
      obtain ⟨R, hR⟩ : ∃ R : Bool, decide (A1.rows = A2.rows) = R := ⟨_, rfl⟩
      have HR := hide hR
      have CR := sameRows_any (A := A1.rows) (B := A2.rows) (by rw [← (unhide HRL).2.2.2]; exact rd_of (unhide HR8).1.own (fun z hz => ((unhide HR8).1.row z hz).1)) (by rw [← unhide HYm]; exact rd_of (unhide HR8).2.own (fun z hz => ((unhide HR8).2.row z hz).1)) (by rw [← (unhide HRL).2.2.2, List.length_map]; have := (unhide HRL).2.1; omega) (fun r hr => by
        rw [← (unhide HRL).2.2.2] at hr
        obtain ⟨y, hy, rfl⟩ := List.mem_map.mp hr
        exact (unhide HRL).2.2.1 y hy) R hR
      have CR := hide CR
      clear hR
      go_wp2_with fail
      refine (unhide CR).mono ?_
      rintro e w9 ⟨rfl, o9⟩
      have HA8 := hide ((unhide HA7).quiet o9)
      have HR9 := hide ((unhide HR8).1.quiet o9)
      clear CR o9 HA7 d1 d2
      cases R with
      | false =>
        have FF := hide (show AaP q g x m M M2 K H U hist w0 (ObsAt M M2 nm) (.returned (.bool false)) w9 from ⟨false, rfl, ⟨(fun e => by cases e), fun e => absurd (show A1.rows = A2.rows from by rw [← (unhide HV).1, ← (unhide HV).2, (e.2 s hs1 (by omega)).2]) (of_decide_eq_false (unhide HR))⟩, unhide HA8⟩)
        go_wp2_with fail
        go_ret
        exact unhide FF
      | true =>
      have HOS := hide (show ∀ r, -1 ≤ r → r < s + 1 → ObsS M M2 nm r from fun r h1 h2 => by
        by_cases c : r = s
        · subst c
          refine ⟨unhide HLL, An.ext_v (b := 0) ?_ ?_⟩
          · rw [(unhide HV).1, (unhide HV).2]; exact unhide HEE
          · rw [(unhide HV).1, (unhide HV).2]; exact of_decide_eq_true (unhide HR)
        · exact unhide HAL r h1 (by omega))
      have C9 := hide (spoilAllL_any (unhide HR9) (by have := (unhide HRL).2.1; omega) (unhide HRL).2.2.1)
      go_wp2_with fail
      refine (unhide C9).mono ?_
      rintro e w10 ⟨rfl, o10⟩
      have HA9 := hide ((unhide HA8).spoil (unhide HAP) o10 (fun k hk => by
        have h0 := unhide Hzw
        rcases hk with hk | ⟨z, hz, hk⟩
        · have := (unhide HR9).nb k hk; omega
        · have := ((unhide HR9).row z hz).2 k hk; omega))
      clear C9 o10 HA8 HR9 HR8 HRL
      go_wp2_with fail
      go_roundw
      case rel => exact ⟨s + 1, by go_num, by omega, by omega, unhide HOS, unhide HA9⟩
      case measure => simp [intOf]; omega
    · obtain rfl : s = 5 := by omega
      have FF := hide (show AaP q g x m M M2 K H U hist w0 (ObsAt M M2 nm) (.returned (.bool true)) wr from ⟨true, rfl, ⟨fun _ => ⟨unhide HSS, fun r h1 h2 => unhide HAL r h1 h2⟩, fun _ => rfl⟩, unhide HA5⟩)
      clear hs hs5
      go_wp2_with fail
      go_ret
      exact unhide FF
end
end Go.Proofs.Qxb6500414aGreat
