/-
  OWN WORK. TXN's MODEL: api.Multi: LockOf, seen, View, Lookup, Scan.
-/
import Derived.Test.Qxb6500412aGreatXM5
import Derived.Test.Qxb6500412aGreatMM17
import Derived.Test.Qxb6500412aGreatMM2
namespace Go.Proofs.Qxb6500412aGreat
open Go.RowKit Go.PlainAid
set_option linter.unusedSimpArgs false
set_option linter.unusedVariables false

/-- Rows copied, as rows handed out. -/
theorem CrP.fr {w w' : World} {R : List (List Vl)} {x : Ending} (h : CrP w R x w') : ∃ v, x = .returned v ∧ FrR w R 0 (.returned (.tuple #[v, .int .i64 0])) w' := by
  obtain ⟨z, us, rfl, hl, own, hr, hz, hn, ho⟩ := h
  refine ⟨_, rfl, _, us.zip R, rfl, List.map_snd_zip (by omega), ?_, fun y hy => ?_, fun k hk => ?_, ho⟩
  · rw [List.length_zip, List.map_fst_zip (by omega), show min us.length R.length = us.length by omega]
    exact own
  · obtain ⟨j, hj⟩ := List.getElem?_of_mem hy
    rw [List.getElem?_zip_eq_some] at hj
    exact ⟨hr j y.1 y.2 hj.1 hj.2, fun k hk => hn y.1 (List.mem_of_getElem? hj.1) k hk⟩
  · simp [Value.ownBlock] at hk
    omega
section
variable {w w' : World} {k : Nat} {M : Mu} {H : Nat → Prop} {n : Nat}
/-- A name's place and lock. -/
theorem MX.find (X : MX w k M H) (nm : ByteArray) : Calls Tryz.prog 194 #[.pointer (some ⟨k, 0, none⟩), .string nm] w fun e w' => ∃ r, e = .returned (.int .i64 r) ∧ w = w' ∧ ((r = -1 ∧ findD M.com nm = none) ∨ ∃ (i : Nat) (t : Tb), r = i ∧ i < 3 ∧ M.com[i]? = some t ∧ t.nm = nm ∧ findD M.com nm = some t) := by
  obtain ⟨Z, h, hS, hA⟩ := X.ex
  refine (mfind_any h.c0 (h.ml 0 (by omega)) nm).mono ?_
  rintro e w2 ⟨r, rfl, hr, rfl⟩
  refine ⟨r, rfl, rfl, ?_⟩
  by_cases r0 : r < 0
  · refine .inl ⟨?_, hr.mno hS.com hS.cok r0⟩
    rcases hr with ⟨e, _⟩ | ⟨i, x, _, e, _⟩
    · exact e
    · omega
  · obtain ⟨i, e, rfl, hi, hn, hf, hm⟩ := hr.myes hS.com hS.cok (by omega)
    exact .inr ⟨i, e.t, rfl, hS.i3 (hS.com_at hi), hS.com_at hi, hn, hf⟩
theorem MX.lkc (X : MX w k M H) (hn : n < 4) {i : Nat} {t : Tb} (hi : M.com[i]? = some t) : w.cell? ⟨k, 5 + n * 3 + i, none⟩ = some (.int .i64 (M.lk n t.nm)) := by
  obtain ⟨Z, h, hS, hA⟩ := X.ex
  rw [hS.lk n i t hn hi]
  exact h.cK hn (hS.i3 hi)
theorem MX.lk0 (X : MX w k M H) (hn : n < 4) {nm : ByteArray} (hf : findD M.com nm = none) : M.lk n nm = 0 := by
  obtain ⟨Z, h, hS, hA⟩ := X.ex
  exact hS.lk0 n nm hn hf
theorem MX.kl (X : MX w k M H) : k < w.heap.size := X.lt k X.kH
/-- The database in which a session sees the table. -/
theorem MX.db (X : MX w k M H) (hn : n < 4) {nm : ByteArray} {o : Nat} (ho : (M.lk n nm = 2 ∧ o = 17 + n) ∨ (M.lk n nm ≠ 2 ∧ o = 0)) : ∃ v l D, MDb w k o v l D ∧ findD D nm = findD (M.see n) nm := by
  obtain ⟨Z, h, hS, hA⟩ := X.ex
  rcases ho with ⟨h2, rfl⟩ | ⟨h2, rfl⟩
  · exact ⟨_, _, _, (h.mdc (j := 1 + n) (o := 17 + n) (by omega) offM_pos (hS.ok (1 + n) (by omega))).db, (hS.own hn h2).symm⟩
  · exact ⟨_, _, _, (h.mdc (j := 0) (o := 0) (by omega) rfl (hS.ok 0 (by omega))).db, by rw [hS.com]; exact (hS.their hn h2).symm⟩
/-- The table itself, at its place. -/
theorem MX.tab (X : MX w k M H) (hn : n < 4) {nm : ByteArray} {o i : Nat} {t : Tb} (hi : M.com[i]? = some t) (htn : t.nm = nm) (ho : (M.lk n nm = 2 ∧ o = 17 + n) ∨ (M.lk n nm ≠ 2 ∧ o = 0)) : ∃ v l e, w.cell? ⟨k, o, none⟩ = some v ∧ ML w v l ∧ l[i]? = some e ∧ findD (M.see n) nm = some e.t := by
  obtain ⟨Z, h, hS, hA⟩ := X.ex
  subst htn
  rcases ho with ⟨h2, rfl⟩ | ⟨h2, rfl⟩
  · have hact := hS.isAct hn (nm := t.nm) (by omega)
    obtain ⟨u, hu, hun⟩ := nms_at (hS.nms n hn hact) hi
    obtain ⟨ee, hee, heu⟩ : ∃ ee : GE, (Z.l (1 + n))[i]? = some ee ∧ ee.t = u := by
      unfold Mm.db at hu
      rw [List.getElem?_map] at hu
      cases c : (Z.l (1 + n))[i]? with
      | none => rw [c] at hu; cases hu
      | some ee => rw [c] at hu; exact ⟨ee, rfl, by simpa using hu⟩
    refine ⟨_, _, ee, h.cP hn, h.ml (1 + n) (by omega), hee, ?_⟩
    rw [hS.own hn h2, heu, ← hun]
    exact (hS.ok (1 + n) (by omega)).gd.find (List.mem_of_getElem? hu)
  · obtain ⟨ee, hee, heu⟩ : ∃ ee : GE, (Z.l 0)[i]? = some ee ∧ ee.t = t := by
      rw [← hS.com] at hi
      unfold Mm.db at hi
      rw [List.getElem?_map] at hi
      cases c : (Z.l 0)[i]? with
      | none => rw [c] at hi; cases hi
      | some ee => rw [c] at hi; exact ⟨ee, rfl, by simpa using hi⟩
    refine ⟨_, _, ee, h.c0, h.ml 0 (by omega), hee, ?_⟩
    rw [hS.their hn h2, heu]
    exact hS.cok.gd.find (List.mem_of_getElem? hi)
set_option maxRecDepth 100000 in
set_option maxHeartbeats 4000000 in
theorem xmlockOf_any (X : MX w k M H) (s : Int) (nm : ByteArray) : Calls Tryz.prog 193 #[.pointer (some ⟨k, 0, none⟩), .int .i64 s, .string nm] w fun e w' => e = .returned (.int .i64 (if gdS s then M.lk s.toNat nm else 0)) ∧ w = w' := by
  have C1 := hide (X.find nm)
  have C2 := xgood_any s w
  have HX := hide X
  have gl := X.kl
  clear X
  obtain ⟨R, hR⟩ : ∃ R : Int, (if gdS s then M.lk s.toNat nm else 0) = R := ⟨_, rfl⟩
  rw [hR]
  have HR := hide hR
  clear hR
  go_enter Tryz.func193, Tryz.ntmps193
  go_wp2_with fail
  refine (unhide C1).mono ?_
  rintro e w2 ⟨r, rfl, rfl, hr⟩
  clear C1
  by_cases hs : gdS s
  · rw [decide_eq_true hs] at C2
    have C2 := hide C2
    have hR := unhide HR
    rw [if_pos hs] at hR
    obtain ⟨n, rfl⟩ : ∃ n : Nat, s = n := ⟨s.toNat, by have := hs.1; omega⟩
    have hn : n < 4 := by have := hs.2; omega
    have n4 : (n : Int) < 4 := by omega
    rw [show ((n : Nat) : Int).toNat = n by omega] at hR
    rcases hr with ⟨rfl, hf⟩ | ⟨i, t, rfl, hi, hci, htn, hf⟩
    · have e0 : R = 0 := by rw [← hR]; exact (unhide HX).lk0 hn hf
      subst e0
      clear hs hR hf
      go_wp2_with fail
      refine (unhide C2).mono ?_
      rintro e w2 ⟨rfl, rfl⟩
      go_wp2_with fail
      go_ret
      exact ⟨rfl, rfl⟩
    · have m0 := (unhide HX).lkc hn hci
      rw [htn, hR] at m0
      have i3 : (i : Int) < 3 := by omega
      have i0 : decide ((i : Int) < 0) = false := decide_eq_false (by omega)
      clear hs hR hf hci htn
      go_wp2_with fail
      refine (unhide C2).mono ?_
      rintro e w2 ⟨rfl, rfl⟩
      go_wp2_with fail
      go_ret
      exact ⟨rfl, rfl⟩
  · rw [decide_eq_false hs] at C2
    have C2 := hide C2
    have e0 : R = 0 := by rw [← unhide HR, if_neg hs]
    subst e0
    clear hs hr HR
    go_wp2_with fail
    refine (unhide C2).mono ?_
    rintro e w2 ⟨rfl, rfl⟩
    go_wp2_with fail
    go_ret
    exact ⟨rfl, rfl⟩
set_option maxRecDepth 100000 in
set_option maxHeartbeats 4000000 in
theorem xmseen_any (X : MX w k M H) (hn : n < 4) (nm : ByteArray) : Calls Tryz.prog 195 #[.pointer (some ⟨k, 0, none⟩), .int .i64 (n : Int), .string nm] w fun e w' => ∃ o, e = .returned (.pointer (some ⟨k, o, none⟩)) ∧ w = w' ∧ ((M.lk n nm = 2 ∧ o = 17 + n) ∨ (M.lk n nm ≠ 2 ∧ o = 0)) := by
  have C1 := hide (X.find nm)
  have HX := hide X
  have gl := X.kl
  have n4 : (n : Int) < 4 := by omega
  clear X
  go_enter Tryz.func195, Tryz.ntmps195
  go_wp2_with fail
  refine (unhide C1).mono ?_
  rintro e w2 ⟨r, rfl, rfl, hr⟩
  clear C1
  rcases hr with ⟨rfl, hf⟩ | ⟨i, t, rfl, hi, hci, htn, hf⟩
  · have FF := hide (show M.lk n nm ≠ 2 from by rw [(unhide HX).lk0 hn hf]; omega)
    clear hf
    go_wp2_with fail
    go_ret
    exact ⟨0, rfl, rfl, .inr ⟨unhide FF, rfl⟩⟩
  · have m0 := (unhide HX).lkc hn hci
    rw [htn] at m0
    have i3 : (i : Int) < 3 := by omega
    have i0 : decide ((i : Int) ≥ 0) = true := decide_eq_true (by omega)
    have i1 : decide ((0 : Int) ≤ (i : Int)) = true := decide_eq_true (by omega)
    obtain ⟨z, hz⟩ : ∃ z : Int, M.lk n nm = z := ⟨_, rfl⟩
    rw [hz] at m0
    have HZ := hide hz
    clear hz hf hci htn
    by_cases z2 : z = 2
    · subst z2
      go_wp2_with fail
      go_ret
      exact ⟨17 + n, rfl, rfl, .inl ⟨unhide HZ, rfl⟩⟩
    · have b2 : (z == 2) = false := ne_intO z2
      have FF := hide (show M.lk n nm ≠ 2 from by rw [unhide HZ]; exact z2)
      clear z2
      go_wp2_with fail
      go_ret
      exact ⟨0, rfl, rfl, .inr ⟨unhide FF, rfl⟩⟩
set_option maxRecDepth 100000 in
set_option maxHeartbeats 4000000 in
theorem xmview_any (X : MX w k M H) (s : Int) (nm : ByteArray) : Calls Tryz.prog 132 #[.pointer (some ⟨k, 0, none⟩), .int .i64 s, .string nm] w (FrR w (anV M s nm).rows (anV M s nm).e) := by
  have C1 := xgood_any s w
  by_cases hs : gdS s
  · rw [decide_eq_true hs] at C1
    obtain ⟨n, rfl⟩ : ∃ n : Nat, s = n := ⟨s.toNat, by have := hs.1; omega⟩
    have hn : n < 4 := by have := hs.2; omega
    have n4 : (n : Int) < 4 := by omega
    have C1 := hide C1
    have C2 := hide (X.find nm)
    have C3 := hide (xmseen_any X hn nm)
    have HX := hide X
    have gl := X.kl
    obtain ⟨A, hA⟩ : ∃ A, anV M (n : Int) nm = A := ⟨_, rfl⟩
    rw [hA]
    have HA := hide hA
    have Hs := hide hs
    clear X hA hs
    go_enter Tryz.func132, Tryz.ntmps132
    go_wp2_with fail
    refine (unhide C1).mono ?_
    rintro e w2 ⟨rfl, rfl⟩
    go_wp2_with fail
    refine (unhide C2).mono ?_
    rintro e w2 ⟨r, rfl, rfl, hr⟩
    clear C1 C2
    rcases hr with ⟨rfl, hf⟩ | ⟨i, t, rfl, hi, hci, htn, hf⟩
    · have FF := hide (show FrR w A.rows A.e (.returned (.tuple #[.slice none 0 0, .int .i64 10])) w from by
        rw [← unhide HA]
        unfold anV
        rw [if_pos (unhide Hs), hf]
        exact FrR.none (Only.refl _ _))
      clear hf C3
      go_wp2_with fail
      go_ret2
      exact unhide FF
    · have i3 : (i : Int) < 3 := by omega
      have i0 : decide ((i : Int) < 0) = false := decide_eq_false (by omega)
      have HI := hide (And.intro hci (And.intro htn hf))
      clear hf hci htn
      go_wp2_with fail
      refine (unhide C3).mono ?_
      rintro e w2 ⟨o, rfl, rfl, ho⟩
      clear C3
      obtain ⟨v, l, e, cv, hM, he, hsee⟩ := (unhide HX).tab hn (unhide HI).1 (unhide HI).2.1 ho
      obtain ⟨b, cap, hv, P, E⟩ := hM.pt he
      rw [hv] at cv
      have p4 := P.c4
      obtain ⟨ra, rc, hrv⟩ := E.rshape
      have CC := mcloneRows_any E
      rw [hrv] at p4 CC
      have il : (i : Int) < (l.length : Int) := by have := (List.getElem?_eq_some_iff.mp he).1; omega
      have HE := hide (show A.rows = e.t.rows ∧ A.e = 0 from by
        rw [← unhide HA]
        unfold anV
        rw [if_pos (unhide Hs), (unhide HI).2.2, show ((n : Nat) : Int).toNat = n by omega, hsee]
        exact ⟨rfl, rfl⟩)
      have CC := hide CC
      have ol := hide (show (M.lk n nm = 2 ∧ o = 17 + n) ∨ (M.lk n nm ≠ 2 ∧ o = 0) from ho)
      clear hM he hsee hv P E hrv ho
      go_wp2_with fail
      refine (unhide CC).mono ?_
      intro x w3 hx
      obtain ⟨v3, rfl, hF⟩ := hx.fr
      have FF := hide (show FrR w A.rows A.e (.returned (.tuple #[v3, .int .i64 0])) w3 from by rw [(unhide HE).1, (unhide HE).2]; exact hF)
      clear CC hx hF
      go_wp2_with fail
      go_ret2
      exact unhide FF
  · rw [decide_eq_false hs] at C1
    have C1 := hide C1
    have FF := hide (show FrR w (anV M s nm).rows (anV M s nm).e (.returned (.tuple #[.slice none 0 0, .int .i64 20])) w from by
      unfold anV
      rw [if_neg hs]
      exact FrR.none (Only.refl _ _))
    generalize anV M s nm = A at *
    clear X hs
    go_enter Tryz.func132, Tryz.ntmps132
    go_wp2_with fail
    refine (unhide C1).mono ?_
    rintro e w2 ⟨rfl, rfl⟩
    go_wp2_with fail
    go_ret2
    exact unhide FF
/-- A reader of a session: the lock is taken (w1), then the answer is made. -/
def LkQ (w : World) (k : Nat) (M : Mu) (H : Nat → Prop) (P : World → Ending → World → Prop) (x : Ending) (w' : World) : Prop := ∃ w1, MX w1 k M (Ext H w w1) ∧ Only H w w1 ∧ P w1 x w'
def MlP (w : World) (k : Nat) (M : Mu) (H : Nat → Prop) (s : Int) (nm : ByteArray) (N : Int → World → Ending → World → Prop) (P : World → Ending → World → Prop) (x : Ending) (w' : World) : Prop :=
  (∃ z, z ≠ 0 ∧ M.TkZ s nm 1 z ∧ LkQ w k M H (N z) x w') ∨ (M.TkZ s nm 1 0 ∧ LkQ w k (M.setL s.toNat nm 1) H P x w')
theorem lkpD_eq {A B : Db} {nm : ByteArray} (h : findD A nm = findD B nm) (key : Vl) : lkpD A nm key = lkpD B nm key := by unfold lkpD; rw [h]
theorem scnD_eq {A B : Db} {nm : ByteArray} (h : findD A nm = findD B nm) (col : Int) (lo hi : Bnd) : scnD A nm col lo hi = scnD B nm col lo hi := by unfold scnD; rw [h]
theorem MX.low {w0 w1 : World} (o0 : Only (fun _ => False) w0 w) (X : MX w1 k M (Ext H w w1)) (o1 : Only H w w1) (hH : ∀ b, H b → b < w0.heap.size) : MX w1 k M (Ext H w0 w1) ∧ Only H w0 w1 := by
  have z0 := o0.size
  have z1 := o1.size
  exact ⟨X.mono (fun b hb => hb.imp id (fun c => ⟨by omega, c.2⟩)) (Ext.in hH (by omega)), (o0.mono (fun _ _ e => e.elim)).trans o1 (fun _ _ h => h)⟩
def XlP (w : World) (k : Nat) (M : Mu) (H : Nat → Prop) (s : Int) (nm : ByteArray) (key : Vl) (x : Ending) (w' : World) : Prop := MlP w k M H s nm (fun z w1 => FrV w1 [] z) (fun w1 => FrV w1 (lkpD (M.see s.toNat) nm key).1 (lkpD (M.see s.toNat) nm key).2) x w'
def XsP (w : World) (k : Nat) (M : Mu) (H : Nat → Prop) (s : Int) (nm : ByteArray) (col : Int) (lo hi : Bnd) (x : Ending) (w' : World) : Prop := MlP w k M H s nm (fun z w1 => FrS w1 [] z) (fun w1 => FrS w1 (scnD (M.see s.toNat) nm col lo hi).1 (scnD (M.see s.toNat) nm col lo hi).2) x w'
set_option maxRecDepth 100000 in
set_option maxHeartbeats 4000000 in
theorem xmscan_any (X : MX w k M H) (s : Int) (nm : ByteArray) (col : Int) (lh hh : Bool) (lv hv : Vl) (hlw : lv.wf) (hhw : hv.wf) : Calls Tryz.prog 277 #[.pointer (some ⟨k, 0, none⟩), .int .i64 s, .string nm, .int .i64 col, bdA lh lv, bdA hh hv] w (XsP w k M H s nm col (bndOf lh lv) (bndOf hh hv)) := by
  have o1 : Only (fun _ => False) w ((w.alloc (.cells #[.bool lh, .bool lv.str, .int .i64 lv.i, .string lv.s] 244)).alloc (.cells #[.bool hh, .bool hv.str, .int .i64 hv.i, .string hv.s] 244)) := ((Only.refl _ _).alloc _).alloc _
  have Bx : Has ((w.alloc (.cells #[.bool lh, .bool lv.str, .int .i64 lv.i, .string lv.s] 244)).alloc (.cells #[.bool hh, .bool hv.str, .int .i64 hv.i, .string hv.s] 244)) w.heap.size #[.bool lh, .bool lv.str, .int .i64 lv.i, .string lv.s] 244 := (Has.new _ _ _).alloc _
  have By : Has ((w.alloc (.cells #[.bool lh, .bool lv.str, .int .i64 lv.i, .string lv.s] 244)).alloc (.cells #[.bool hh, .bool hv.str, .int .i64 hv.i, .string hv.s] 244)) (w.heap.size + 1) #[.bool hh, .bool hv.str, .int .i64 hv.i, .string hv.s] 244 := Has.new' _ _ _ _ (by simp)
  have CA := hide (xmtake1_any (X.quiet o1) s nm)
  have HX := hide (And.intro X (And.intro True.intro (And.intro o1 (And.intro (X.quiet o1) (And.intro Bx (And.intro By (And.intro hlw hhw)))))))
  clear X hlw hhw o1 Bx By
  unfold bdA
  go_enter Tryz.func277, Tryz.ntmps277
  go_upto_region 1 with fail
  generalize (w.alloc (.cells #[.bool lh, .bool lv.str, .int .i64 lv.i, .string lv.s] 244)).alloc (.cells #[.bool hh, .bool hv.str, .int .i64 hv.i, .string hv.s] 244) = w1 at *
  generalize hkb : w.heap.size = kb at *
  have HKB := hide hkb
  clear hkb
  go_wp2_with fail
  refine (unhide CA).mono ?_
  rintro e w2 (⟨z, rfl, z0, hz, rfl⟩ | ⟨rfl, hz, X2, o2⟩)
  · have b0 : (z != 0) = true := by simpa using z0
    have FF := hide (show XsP w k M H s nm col (bndOf lh lv) (bndOf hh hv) (.returned (.tuple #[.slice none 0 0, .int .i64 z])) w1 from .inl ⟨z, z0, hz, w1, (unhide HX).2.2.2.1.mono (fun b hb => .inl hb) (Ext.in (unhide HX).1.lt (unhide HX).2.2.1.size), (unhide HX).2.2.1.mono (fun _ _ e => e.elim), FrS.none (Only.refl _ _)⟩)
    clear CA hz z0
    go_wp2_with fail
    go_ret2
    exact unhide FF
  · clear CA
    obtain ⟨n, rfl, hn⟩ := TkZ_good hz
    have n4 : (n : Int) < 4 := by omega
    have en : ((n : Nat) : Int).toNat = n := by omega
    rw [en] at X2
    have B2 := (unhide HX).2.2.2.2.1.keep o2 (fun hb => by have := (unhide HX).1.lt kb hb; have := unhide HKB; omega)
    have B3 := (unhide HX).2.2.2.2.2.1.keep o2 (fun hb => by have := (unhide HX).1.lt _ hb; have := unhide HKB; omega)
    have C2 := hide (xmseen_any X2 hn nm)
    obtain ⟨Y1, Y2⟩ := MX.low (unhide HX).2.2.1 X2 o2 (unhide HX).1.lt
    have HY := hide (And.intro X2 (And.intro Y1 (And.intro Y2 hz)))
    have b0 := B2.cell 0
    have b1 := B2.cell 1
    have b2 := B2.cell 2
    have b3 := B2.cell 3
    have bl := B2.lt
    have c0 := B3.cell 0
    have c1 := B3.cell 1
    have c2 := B3.cell 2
    have c3 := B3.cell 3
    have cl := B3.lt
    simp at b0 b1 b2 b3 c0 c1 c2 c3
    clear X2 o2 Y1 Y2 B2 B3 hz
    go_wp2_with fail
    refine (unhide C2).mono ?_
    rintro e w3 ⟨o, rfl, rfl, ho⟩
    clear C2
    obtain ⟨v, l, D, hD, hfd⟩ := (unhide HY).1.db hn ho
    have hfd2 : findD D nm = findD (M.see n) nm := hfd
    have C3 := mdbScan_any hD nm col lh hh lv hv (unhide HX).2.2.2.2.2.2.1 (unhide HX).2.2.2.2.2.2.2
    rw [scnD_eq hfd2 col] at C3
    unfold bdA at C3
    have HK := hide (fun (x : Ending) (w' : World) (hp : FrS w2 (scnD (M.see n) nm col (bndOf lh lv) (bndOf hh hv)).1 (scnD (M.see n) nm col (bndOf lh lv) (bndOf hh hv)).2 x w') => show XsP w k M H (n : Int) nm col (bndOf lh lv) (bndOf hh hv) x w' from by
      unfold XsP MlP
      rw [en]
      refine .inr ⟨(unhide HY).2.2.2, ?_⟩
      exact ⟨w2, (unhide HY).2.1, (unhide HY).2.2.1, hp⟩)
    obtain ⟨R1, R2, hR⟩ : ∃ R1 R2, scnD (M.see n) nm col (bndOf lh lv) (bndOf hh hv) = (R1, R2) := ⟨_, _, rfl⟩
    rw [hR] at C3 HK
    have C3 := hide C3
    clear hD hfd hfd2 ho hR en
    go_wp2_with fail
    refine (unhide C3).mono ?_
    intro x w3 hp
    have FF := hide (unhide HK x w3 hp)
    obtain ⟨rv, Zr, rfl, _⟩ := hp
    clear C3 HK
    go_wp2_with fail
    go_ret2
    exact unhide FF
end
end Go.Proofs.Qxb6500412aGreat
