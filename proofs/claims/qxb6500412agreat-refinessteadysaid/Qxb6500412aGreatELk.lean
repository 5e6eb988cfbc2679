/-
  OWN WORK. TABLE: Lookup.
-/
import Derived.Test.Qxb6500412aGreatEIn
namespace Go.Proofs.Qxb6500412aGreat
open Go.RowKit Go.PlainAid
set_option linter.unusedSimpArgs false
set_option linter.unusedVariables false

section
variable {q : Gnd} {w : World} {x : Nat} {op : Bool} {S S1 : Vu} {T : List (Tb × Hd)} {t : Tb} {h : Hd}
abbrev vlC (v : Vl) : Array Value := #[.bool v.str, .int .i64 v.i, .string v.s]
theorem pk_col (ok : TbOk t) : ∃ c, t.cols[t.pk]? = some c := getE ok.pkn
theorem chkKey_eq {c : Cl} (h : t.cols[t.pk]? = some c) (key : Vl) : chkKey t key = chkVal c key := by unfold chkKey; rw [h]; rfl
set_option maxRecDepth 100000 in
set_option maxHeartbeats 4000000 in
theorem elookup_no (H : ST q w x op S) (L : Lay S T) {nm : ByteArray} (hno : ∀ y ∈ T, y.1.nm ≠ nm) (key : Vl) : Calls Tryz.prog 297 #[.pointer (some ⟨x, 0, none⟩), .string nm, vlA key] w fun e w' => e = .returned (.tuple #[.slice none 0 0, .int .i64 10]) ∧ ST q w' x op S ∧ Only q.S w w' := by
  have o0 : Only (fun _ => False) w (w.alloc (.cells #[.bool key.str, .int .i64 key.i, .string key.s] 152)) := (Only.refl _ w).alloc _
  have CL := hide (eload_no (H.quiet o0) L hno)
  unfold vlA
  go_enter Tryz.func297, Tryz.ntmps297
  go_wp2_with fail
  refine (unhide CL).mono ?_
  rintro e w1 ⟨rfl, st1, o1⟩
  have HO := hide (show ST q ((w1.alloc (.cells hdZ 275)).alloc (.cells scN 79)) x op S ∧ Only q.S w ((w1.alloc (.cells hdZ 275)).alloc (.cells scN 79)) from ⟨st1.quiet (((Only.refl _ w1).alloc _).alloc _), ((o0.toS (q := q)).ss o1).andS (((Only.refl _ w1).alloc _).alloc _)⟩)
  clear st1 o1 CL
  unfold hdZ scN at HO
  unfold hdZ scN
  go_wp2_with fail
  go_ret2
  exact ⟨rfl, unhide HO⟩
set_option maxRecDepth 100000 in
set_option maxHeartbeats 4000000 in
theorem elookup_in (H : ST q w x op S) (L : Lay S T) (hx : (t, h) ∈ T) (key : Vl) (hkw : key.wf) (o : Option (List Vl)) (ho : fndR t (cV key) = o) : Calls Tryz.prog 297 #[.pointer (some ⟨x, 0, none⟩), .string t.nm, vlA key] w fun e w' => ∃ v, e = .returned (.tuple #[v, .int .i64 (if chkKey t key = 0 then errR o else chkKey t key)]) ∧ OwnV w' v (if chkKey t key = 0 then o.getD [] else []) ∧ Newer w v ∧ ST q w' x op S ∧ Only q.S w w' := by
  have o0 : Only (fun _ => False) w (w.alloc (.cells #[.bool key.str, .int .i64 key.i, .string key.s] 152)) := (Only.refl _ w).alloc _
  have K0 := Has.new w #[.bool key.str, .int .i64 key.i, .string key.s] 152
  have H0 := H.quiet o0
  have CL := hide (eload_yes H0 L hx)
  have ok := L.tb _ hx
  have epk : h.pk = t.pk := (L.hd _ hx).pk
  obtain ⟨c, hc⟩ := pk_col ok
  have hck := chkKey_eq hc key
  have HX := hide (And.intro L (And.intro hx (And.intro ho (And.intro hc epk))))
  have HH := hide H0
  have hwl : w.heap.size ≤ (w.alloc (.cells #[.bool key.str, .int .i64 key.i, .string key.s] 152)).heap.size := o0.size
  have k0l := K0.lt
  obtain ⟨z, hz⟩ : ∃ z, chkKey t key = z := ⟨_, rfl⟩
  rw [hz]
  rw [hz] at hck
  obtain ⟨EE, hEE⟩ : ∃ E, (if z = 0 then errR o else z) = E := ⟨_, rfl⟩
  obtain ⟨RR, hRR⟩ : ∃ R, (if z = 0 then o.getD [] else []) = R := ⟨_, rfl⟩
  rw [hEE, hRR]
  have HER := hide (And.intro hEE hRR)
  clear hEE hRR
  have HZ := hide hck
  clear H0 L hx ho hc hck hz epk
  unfold vlA
  go_enter Tryz.func297, Tryz.ntmps297
  go_upto_region 1 with fail
  generalize w.alloc (.cells #[.bool key.str, .int .i64 key.i, .string key.s] 152) = w0 at *
  go_wp2_with fail
  refine (unhide CL).mono ?_
  rintro e w1 ⟨cv, rfl, hoc, nc, st1, o1⟩
  have K1 := K0.keep o1 (H.new (Nat.le_refl _))
  obtain ⟨ca, cc, rfl⟩ := hoc.shape
  have I2 := OpI.start (t := t) (h := h) o1.size st1 o1 hoc nc
  have oB : Only (fun _ => False) w1 ((w1.alloc (.cells (hdC h) 275)).alloc (.cells (scC t.nm (.slice ca t.cols.length cc) (t.pk : Int) (ixI t.ix)) 79)) := ((Only.refl _ w1).alloc _).alloc _
  have K2 := K1.keep oB (fun e => e)
  clear CL hoc nc st1 o1 K1 oB K0
  unfold hdC scC at I2 K2
  unfold hdC scC
  go_upto_region 4 with fail
  generalize (w1.alloc (.cells #[.int .i64 (h.n : Int), .int .i64 (h.pk : Int), .int .i64 (ixI h.ix), .int .i64 (h.rows : Int), .int .i64 (ixI h.idx)] 275)).alloc (.cells #[.string t.nm, .slice ca t.cols.length cc, .int .i64 (t.pk : Int), .int .i64 (ixI t.ix)] 79) = w2 at *
  generalize w1.heap.size = g at *
  have a0 := I2.ha.cell 0
  have a1 := I2.ha.cell 1
  have a2 := I2.ha.cell 2
  have a3 := I2.ha.cell 3
  have a4 := I2.ha.cell 4
  have b0 := I2.hb.cell 0
  have b1 := I2.hb.cell 1
  have b2 := I2.hb.cell 2
  have b3 := I2.hb.cell 3
  have k0 := K2.cell 0
  have k1 := K2.cell 1
  have k2 := K2.cell 2
  simp [hdC] at a0 a1 a2 a3 a4
  simp [scC] at b0 b1 b2 b3
  simp at k0 k1 k2
  have CC := eCheckVal_any I2.oc t.nm (t.pk : Int) (ixI t.ix) h.pk (x := c) (by rw [(unhide HX).2.2.2.2]; exact (unhide HX).2.2.2.1) key
  rw [← unhide HZ] at CC
  unfold schA vlA at CC
  have CC := hide CC
  have HI := hide (And.intro I2 K2)
  clear I2 K2
  go_wp2_with fail
  refine (unhide CC).mono ?_
  rintro e w3 ⟨rfl, o3⟩
  have I3 := (unhide HI).1.quiet o3
  have K3 := (unhide HI).2.keep o3 (fun e => e)
  clear HI CC o3 a0 a1 a2 a3 a4 b0 b1 b2 b3 k0 k1 k2
  by_cases h0 : z = 0
  · obtain ⟨e1, e2⟩ := unhide HER
    rw [if_pos h0] at e1 e2
    have HER2 := hide (And.intro e1 e2)
    clear e1 e2 HER
    have hz0 := unhide HZ
    rw [h0] at hz0
    subst h0
    have hfit := (chkVal_ok hz0.symm hkw).1
    have a0 := I3.ha.cell 0
    have a1 := I3.ha.cell 1
    have a2 := I3.ha.cell 2
    have a3 := I3.ha.cell 3
    have a4 := I3.ha.cell 4
    have b0 := I3.hb.cell 0
    have b1 := I3.hb.cell 1
    have b2 := I3.hb.cell 2
    have b3 := I3.hb.cell 3
    have k0 := K3.cell 0
    have k1 := K3.cell 1
    have k2 := K3.cell 2
    simp [hdC] at a0 a1 a2 a3 a4
    simp [scC] at b0 b1 b2 b3
    simp at k0 k1 k2
    have CK := ecodeVal_any key hfit w3
    unfold vlA at CK
    have CK := hide CK
    have HI := hide I3
    clear I3 K3 hz0 hfit
    go_wp2_with fail
    refine (unhide CK).mono ?_
    rintro e w4 ⟨rfl, o4⟩
    have I4 := (unhide HI).quiet o4
    clear CK HI o4 a0 a1 a2 a3 a4 b0 b1 b2 b3 k0 k1 k2
    have a0 := I4.ha.cell 0
    have a1 := I4.ha.cell 1
    have a2 := I4.ha.cell 2
    have a3 := I4.ha.cell 3
    have a4 := I4.ha.cell 4
    have b0 := I4.hb.cell 0
    have b1 := I4.hb.cell 1
    have b2 := I4.hb.cell 2
    have b3 := I4.hb.cell 3
    simp [hdC] at a0 a1 a2 a3 a4
    simp [scC] at b0 b1 b2 b3
    have CF := efetch_o I4.st (unhide HX).1 (unhide HX).2.1 I4.oc (I4.notS (unhide HH)) t.nm (ixI t.ix) (cV key) o (unhide HX).2.2.1
    unfold hdA schA at CF
    have CF := hide CF
    have HI := hide I4
    generalize cV key = K at *
    clear I4
    go_wp2_with fail
    refine (unhide CF).mono ?_
    rintro e w5 ⟨v, c5, rfl, hv, nv, hc5, st5, o5⟩
    obtain ⟨e1, e2⟩ := unhide HER2
    rw [e1] at hc5
    rw [e2] at hv
    subst hc5
    clear e1 e2 HER2
    obtain ⟨va, vc, rfl⟩ := hv.shape
    have HF := hide (show OwnV w5 (.slice va RR.length vc) RR ∧ Newer w (.slice va RR.length vc) ∧ ST q w5 x op S ∧ Only q.S w w5 from ⟨hv, fun k hk => Nat.le_trans (Nat.le_trans hwl (unhide HI).on.size) (nv k hk), st5, ((o0.toS (q := q)).ss (unhide HI).on).ss o5⟩)
    clear hv nv st5 o5 HI CF a0 a1 a2 a3 a4 b0 b1 b2 b3
    go_wp2_with fail
    go_ret2
    exact ⟨_, rfl, unhide HF⟩
  · obtain ⟨e1, e2⟩ := unhide HER
    rw [if_neg h0] at e1 e2
    have HER2 := hide (And.intro e1 e2)
    clear e1 e2 HER
    have hzb : (z != 0) = true := by simpa using h0
    have HF := hide (show ST q w3 x op S ∧ Only q.S w w3 from ⟨I3.st, (o0.toS (q := q)).ss I3.on⟩)
    clear I3 K3 h0
    go_wp2_with fail
    go_ret2
    exact ⟨_, by rw [← (unhide HER2).1]; rfl, by rw [← (unhide HER2).2]; exact OwnV.nil _, fun k hk => by simp [Value.ownBlock] at hk, unhide HF⟩
theorem elookup_any (H : ST q w x op S) (L : Lay S T) (nm : ByteArray) (key : Vl) (hkw : key.wf) : Calls Tryz.prog 297 #[.pointer (some ⟨x, 0, none⟩), .string nm, vlA key] w fun e w' => ∃ v, e = .returned (.tuple #[v, .int .i64 (lkpD (dbOf T) nm key).2]) ∧ OwnV w' v (lkpD (dbOf T) nm key).1 ∧ Newer w v ∧ ST q w' x op S ∧ Only q.S w w' := by
  unfold lkpD
  cases hf : findD (dbOf T) nm with
  | none =>
    refine (elookup_no H L (find_none hf) key).mono ?_
    rintro e w' ⟨rfl, h1⟩
    exact ⟨_, rfl, OwnV.nil _, fun k hk => by simp [Value.ownBlock] at hk, h1⟩
  | some t =>
    obtain ⟨h, hx, rfl⟩ := find_some hf
    have := elookup_in H L hx key hkw _ rfl
    have e1 : (lkpR t key).2 = (if chkKey t key = 0 then errR (fndR t (cV key)) else chkKey t key) := by
      unfold lkpR
      by_cases c : chkKey t key = 0
      · rw [if_neg (by simpa using c), if_pos c]
        show (match fndR t (cV key) with | none => (([], 9) : List Vl × Int) | some r => (r, 0)).2 = _
        cases fndR t (cV key) <;> rfl
      · rw [if_pos c, if_neg c]
    have e2 : (lkpR t key).1 = (if chkKey t key = 0 then (fndR t (cV key)).getD [] else []) := by
      unfold lkpR
      by_cases c : chkKey t key = 0
      · rw [if_neg (by simpa using c), if_pos c]
        show (match fndR t (cV key) with | none => (([], 9) : List Vl × Int) | some r => (r, 0)).1 = _
        cases fndR t (cV key) <;> rfl
      · rw [if_pos c, if_neg c]
    rw [← e1, ← e2] at this
    exact this
end
end Go.Proofs.Qxb6500412aGreat
