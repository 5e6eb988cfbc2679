/-
  OWN WORK. THE TABLE LAW: Lookup, Scan, SchemaOf on both sides (written by tools/gen_yl2.py).
-/
import Derived.Test.Qxb6500413aGreatYL2
import Derived.Test.Qxb6500413aGreatMS3
namespace Go.Proofs.Qxb6500413aGreat
open Go.RowKit Go.PlainAid
set_option linter.unusedSimpArgs false
set_option linter.unusedVariables false

theorem scn_mem {D : Db} (nm : ByteArray) (col : Int) (lo hi : Bnd) : ∀ r ∈ (scnD D nm col lo hi).1, ∃ t, findD D nm = some t ∧ r ∈ t.rows := by
  intro r hr
  unfold scnD at hr
  cases hf : findD D nm with
  | none => rw [hf] at hr; simp at hr
  | some t =>
    rw [hf] at hr
    simp only [] at hr
    split at hr
    · refine ⟨t, rfl, ?_⟩
      have h1 := (List.mem_filter.mp hr).1
      split at h1
      · exact h1
      · exact idxR_sub h1
    · simp at hr
theorem scn_row {D : Db} (d : DOk D) (nm : ByteArray) (col : Int) (lo hi : Bnd) : ∀ r ∈ (scnD D nm col lo hi).1, r.length ≤ 1000 := by
  intro r hr
  obtain ⟨t, hf, hm⟩ := scn_mem nm col lo hi r hr
  have ok := d.tb t (List.mem_of_find?_eq_some hf)
  have := (ok.row r hm).len
  have := ok.cols.1.2.1
  omega
theorem scn_len {D : Db} (d : DOk D) (nm : ByteArray) (col : Int) (lo hi : Bnd) : (scnD D nm col lo hi).1.length ≤ 1000 := by
  unfold scnD
  cases hf : findD D nm with
  | none => simp
  | some t =>
    have ok := d.tb t (List.mem_of_find?_eq_some hf)
    simp only []
    split
    · have h1 : (scnL t col.toNat lo hi).length ≤ (scnB t col.toNat).length := List.length_filter_le _ _
      have h2 := (scnB_perm ok col.toNat).length_eq
      have := ok.len
      show (scnL t col.toNat lo hi).length ≤ 1000
      omega
    · simp
deriving instance DecidableEq for Sch
section
variable {q : Gnd} {w : World} {x z : Nat} {op opz : Bool} {S : Vu} {T : List (Tb × Hd)} {D Tz U : Db} {hist : Option Db} {Hz : Nat → Prop}
theorem eschema_any (H : ST q w x op S) (L : Lay S T) (nm : ByteArray) : Calls Tryz.prog 95 #[.pointer (some ⟨x, 0, none⟩), .string nm] w fun e w' => ∃ cv, e = .returned (.tuple #[.agg #[.string (schD (dbOf T) nm).nm, cv, .int .i64 (schD (dbOf T) nm).pk, .int .i64 (schD (dbOf T) nm).ix], .int .i64 (schD (dbOf T) nm).z]) ∧ OwnC w' cv (schD (dbOf T) nm).cols ∧ Newer w cv ∧ ST q w' x op S ∧ Only q.S w w' := by
  unfold schD
  cases hf : findD (dbOf T) nm with
  | none =>
    refine (eschemaOf_no H L (find_none hf)).mono ?_
    rintro e w' ⟨rfl, st, o⟩
    exact ⟨.slice none 0 0, rfl, World.ownsRow_nil _ _ _ _, fun k hk => by simp [Value.ownBlock] at hk, st, o⟩
  | some t =>
    obtain ⟨h, hx, rfl⟩ := find_some hf
    refine (eschemaOf_yes H L hx).mono ?_
    rintro e w' ⟨cv, rfl, C, n, st, o⟩
    exact ⟨cv, rfl, C, n, st, o⟩
theorem sch_len {D : Db} (d : DOk D) (nm : ByteArray) : (schD D nm).cols.length ≤ 1000 := by
  unfold schD
  cases hf : findD D nm with
  | none => simp
  | some t =>
    have ok := d.tb t (List.mem_of_find?_eq_some hf)
    have := ok.cols.1.2.1
    show t.cols.length ≤ 1000
    omega
set_option maxRecDepth 100000 in
set_option maxHeartbeats 4000000 in
theorem sameLookup_any (H : ST q w x op S) (L : Lay S T) (Y : YAt w z D Tz U hist opz Hz) (sep : ∀ k, Hz k → ¬ q.S k) (nm : ByteArray) (key : Vl) (hw : key.wf) (R : Bool) (hR : decide (lkpD (dbOf T) nm key = lkpD D nm key) = R) : Calls Tryz.prog 83 #[.pointer (some ⟨x, 0, none⟩), .pointer (some ⟨z, 0, none⟩), .string nm, vlA key] w fun e w' => e = .returned (.bool R) ∧ ST q w' x op S ∧ Only q.S w w' := by
  have o0 : Only (fun _ => False) w (w.alloc (.cells #[.bool key.str, .int .i64 key.i, .string key.s] 72)) := (Only.refl _ _).alloc _
  have Bx : Has (w.alloc (.cells #[.bool key.str, .int .i64 key.i, .string key.s] 72)) w.heap.size #[.bool key.str, .int .i64 key.i, .string key.s] 72 := Has.new _ _ _
  have H0 := H.quiet o0
  have HH := hide (And.intro H0 (And.intro L (And.intro (Y.quiet o0) (And.intro sep (And.intro o0 (And.intro Bx (H.new (Nat.le_refl _))))))))
  have HL := hide (show (lkpD (dbOf T) nm key).1.length ≤ 1000 from lkp_len L.dok)
  have C1 := elookup_any H0 L nm key hw
  obtain ⟨r1, z1, h1⟩ : ∃ r z, lkpD (dbOf T) nm key = (r, z) := ⟨_, _, rfl⟩
  obtain ⟨r2, z2, h2⟩ : ∃ r z, lkpD D nm key = (r, z) := ⟨_, _, rfl⟩
  rw [h1] at C1 HL
  unfold vlA at C1 ⊢
  have C1 := hide C1
  have HR := hide hR
  have HE := hide (And.intro h1 h2)
  have HW := hide hw
  clear H L Y sep o0 H0 Bx hR h1 h2 hw
  go_enter Tryz.func83, Tryz.ntmps83
  go_upto_region 1 with fail
  generalize w.alloc (.cells #[.bool key.str, .int .i64 key.i, .string key.s] 72) = w0 at *
  have hs0 := (unhide HH).2.2.2.2.1.size
  have hbx := (unhide HH).2.2.2.2.2.1.lt
  have nbx := (unhide HH).2.2.2.2.2.2
  generalize hkb : w.heap.size = kb at *
  have b0 := (unhide HH).2.2.2.2.2.1.cell 0
  have b1 := (unhide HH).2.2.2.2.2.1.cell 1
  have b2 := (unhide HH).2.2.2.2.2.1.cell 2
  simp at b0 b1 b2
  go_wp2_with fail
  refine (unhide C1).mono ?_
  rintro e w1 ⟨v1, rfl, O1, n1, st1, o1⟩
  have b0 := cell_keep b0 o1 nbx
  have b1 := cell_keep b1 o1 nbx
  have b2 := cell_keep b2 o1 nbx
  have Y1 := (unhide HH).2.2.1.keep o1 (unhide HH).2.2.2.1
  have C2 := ylookup_any Y1 nm key (unhide HW)
  rw [(unhide HE).2] at C2
  unfold vlA at C2
  have C2 := hide C2
  have HS := hide (And.intro O1 (And.intro n1 (And.intro st1 o1)))
  obtain ⟨s1, t1, hs1⟩ := O1.shape
  obtain ⟨l1, hl1⟩ : ∃ l, r1.length = l := ⟨_, rfl⟩
  rw [hl1] at hs1
  subst hs1
  clear O1 n1 st1 o1 C1 Y1 hl1
  go_wp2_with fail
  refine (unhide C2).mono ?_
  rintro e w2 ⟨v2, rfl, O2, n2, o2⟩
  have O1 := (unhide HS).1.keep o2 (fun _ _ e => e)
  have C3 := hide (jsameRow_any O1 O2 (unhide HL))
  have st2 := (unhide HS).2.2.1.quiet o2
  have HS2 := hide (And.intro O1 (And.intro st2 ((unhide HS).2.2.2.andS o2)))
  obtain ⟨s2, t2, hs2⟩ := O2.shape
  obtain ⟨l2, hl2⟩ : ∃ l, r2.length = l := ⟨_, rfl⟩
  rw [hl2] at hs2
  subst hs2
  clear O1 O2 n2 o2 C2 st2 hl2 b0 b1 b2
  by_cases hz : z1 = z2
  · have d1 : (z1 == z2) = true := by simpa using hz
    obtain ⟨b, hb⟩ : ∃ b, decide (r1 = r2) = b := ⟨_, rfl⟩
    rw [hb] at C3
    have HB := hide (show b = R from by
      rw [← unhide HR, ← hb]
      refine decide_eq_decide.mpr ?_
      rw [(unhide HE).1, (unhide HE).2, hz]
      simp)
    clear hz hb
    go_wp2_with fail
    refine (unhide C3).mono ?_
    rintro e w3 ⟨rfl, o3⟩
    have C4 := hide (spoil_any ((unhide HS2).1.keep o3 (fun _ _ e => e)) (unhide HL))
    have HS3 := hide (And.intro ((unhide HS2).2.1.quiet o3) ((unhide HS2).2.2.andS o3))
    clear o3 C3 d1
    go_wp2_with fail
    refine (unhide C4).mono ?_
    rintro e w4 ⟨rfl, o4⟩
    have HP := hide (show ST q w4 x op S ∧ Only q.S w w4 from by
      have nv : ∀ k, (Value.slice s1 l1 t1).ownBlock = some k → w0.heap.size ≤ k := (unhide HS).2.1
      refine ⟨(unhide HS3).1.keep o4 (fun k hk e => ?_), ?_⟩
      · have := nv k e
        rcases hk with hk | hk
        · have := (unhide HH).1.fv.Alt k hk
          omega
        · have := (unhide HH).1.has.lt
          omega
      · exact ((unhide HH).2.2.2.2.1.toS.ss (unhide HS3).2).trans o4 (fun k hk e => by have := nv k e; omega))
    clear o4 C4
    go_wp2_with fail
    go_ret
    exact ⟨by rw [← unhide HB]; rfl, unhide HP⟩
  · have d1 : (z1 == z2) = false := by simpa using hz
    have HB := hide (show false = R from by
      rw [← unhide HR]
      refine (decide_eq_false (fun e => hz ?_)).symm
      rw [(unhide HE).1, (unhide HE).2] at e
      exact (Prod.mk.inj e).2)
    have C4 := hide (spoil_any (unhide HS2).1 (unhide HL))
    clear hz C3
    go_wp2_with fail
    refine (unhide C4).mono ?_
    rintro e w4 ⟨rfl, o4⟩
    have HP := hide (show ST q w4 x op S ∧ Only q.S w w4 from by
      have nv : ∀ k, (Value.slice s1 l1 t1).ownBlock = some k → w0.heap.size ≤ k := (unhide HS).2.1
      refine ⟨(unhide HS2).2.1.keep o4 (fun k hk e => ?_), ?_⟩
      · have := nv k e
        rcases hk with hk | hk
        · have := (unhide HH).1.fv.Alt k hk
          omega
        · have := (unhide HH).1.has.lt
          omega
      · exact ((unhide HH).2.2.2.2.1.toS.ss (unhide HS2).2.2).trans o4 (fun k hk e => by have := nv k e; omega))
    clear o4 C4 d1
    go_wp2_with fail
    go_ret
    exact ⟨by rw [← unhide HB]; rfl, unhide HP⟩
set_option maxRecDepth 100000 in
set_option maxHeartbeats 4000000 in
theorem sameScan_any (H : ST q w x op S) (L : Lay S T) (Y : YAt w z D Tz U hist opz Hz) (sep : ∀ k, Hz k → ¬ q.S k) (nm : ByteArray) (col : Int) (lh hh : Bool) (lv hv : Vl) (hlw : lv.wf) (hhw : hv.wf) (R : Bool) (hR : decide (scnD (dbOf T) nm col (bndOf lh lv) (bndOf hh hv) = scnD D nm col (bndOf lh lv) (bndOf hh hv)) = R) : Calls Tryz.prog 84 #[.pointer (some ⟨x, 0, none⟩), .pointer (some ⟨z, 0, none⟩), .string nm, .int .i64 col, bdA lh lv, bdA hh hv] w fun e w' => e = .returned (.bool R) ∧ ST q w' x op S ∧ Only q.S w w' := by
  have o0 : Only (fun _ => False) w ((w.alloc (.cells #[.bool lh, .bool lv.str, .int .i64 lv.i, .string lv.s] 74)).alloc (.cells #[.bool hh, .bool hv.str, .int .i64 hv.i, .string hv.s] 74)) := ((Only.refl _ w).alloc _).alloc _
  have KL : Has ((w.alloc (.cells #[.bool lh, .bool lv.str, .int .i64 lv.i, .string lv.s] 74)).alloc (.cells #[.bool hh, .bool hv.str, .int .i64 hv.i, .string hv.s] 74)) w.heap.size #[.bool lh, .bool lv.str, .int .i64 lv.i, .string lv.s] 74 := (Has.new w _ _).alloc _
  have KH : Has ((w.alloc (.cells #[.bool lh, .bool lv.str, .int .i64 lv.i, .string lv.s] 74)).alloc (.cells #[.bool hh, .bool hv.str, .int .i64 hv.i, .string hv.s] 74)) (w.heap.size + 1) #[.bool hh, .bool hv.str, .int .i64 hv.i, .string hv.s] 74 := Has.new' _ _ _ _ (by simp)
  have H0 := H.quiet o0
  have HH := hide (And.intro H0 (And.intro L (And.intro (Y.quiet o0) (And.intro sep (And.intro o0 (And.intro KL (And.intro KH (And.intro (H.new (Nat.le_refl _)) (H.new (Nat.le_succ _))))))))))
  have HL := hide (And.intro (scn_len L.dok nm col (bndOf lh lv) (bndOf hh hv)) (scn_row L.dok nm col (bndOf lh lv) (bndOf hh hv)))
  have C1 := escan_any H0 L nm col lh hh lv hv hlw hhw
  obtain ⟨r1, z1, h1⟩ : ∃ r z, scnD (dbOf T) nm col (bndOf lh lv) (bndOf hh hv) = (r, z) := ⟨_, _, rfl⟩
  obtain ⟨r2, z2, h2⟩ : ∃ r z, scnD D nm col (bndOf lh lv) (bndOf hh hv) = (r, z) := ⟨_, _, rfl⟩
  rw [h1] at C1 HL
  unfold bdA at C1 ⊢
  have C1 := hide C1
  have HR := hide hR
  have HE := hide (And.intro h1 h2)
  have HW := hide (And.intro hlw hhw)
  clear H L Y sep o0 H0 KL KH hR h1 h2 hlw hhw
  go_enter Tryz.func84, Tryz.ntmps84
  go_upto_region 1 with fail
  generalize (w.alloc (.cells #[.bool lh, .bool lv.str, .int .i64 lv.i, .string lv.s] 74)).alloc (.cells #[.bool hh, .bool hv.str, .int .i64 hv.i, .string hv.s] 74) = w0 at *
  have hs0 := (unhide HH).2.2.2.2.1.size
  have hbx := (unhide HH).2.2.2.2.2.2.1.lt
  have nbx := (unhide HH).2.2.2.2.2.2.2.1
  have nby := (unhide HH).2.2.2.2.2.2.2.2
  generalize hkb : w.heap.size = kb at *
  have nby : ¬ q.S (kb + 1) := nby
  have l0 := (unhide HH).2.2.2.2.2.1.cell 0
  have l1 := (unhide HH).2.2.2.2.2.1.cell 1
  have l2 := (unhide HH).2.2.2.2.2.1.cell 2
  have l3 := (unhide HH).2.2.2.2.2.1.cell 3
  have m0 := (unhide HH).2.2.2.2.2.2.1.cell 0
  have m1 := (unhide HH).2.2.2.2.2.2.1.cell 1
  have m2 := (unhide HH).2.2.2.2.2.2.1.cell 2
  have m3 := (unhide HH).2.2.2.2.2.2.1.cell 3
  simp at l0 l1 l2 l3 m0 m1 m2 m3
  go_wp2_with fail
  refine (unhide C1).mono ?_
  rintro e w1 ⟨v1, rfl, O1, st1, o1⟩
  have l0 := cell_keep l0 o1 nbx
  have l1 := cell_keep l1 o1 nbx
  have l2 := cell_keep l2 o1 nbx
  have l3 := cell_keep l3 o1 nbx
  have m0 := cell_keep m0 o1 nby
  have m1 := cell_keep m1 o1 nby
  have m2 := cell_keep m2 o1 nby
  have m3 := cell_keep m3 o1 nby
  have Y1 := (unhide HH).2.2.1.keep o1 (unhide HH).2.2.2.1
  have C2 := yscan_any Y1 nm col lh hh lv hv (unhide HW).1 (unhide HW).2
  rw [(unhide HE).2] at C2
  unfold bdA at C2
  have C2 := hide C2
  have HS := hide (And.intro O1 (And.intro st1 o1))
  obtain ⟨s1, hs1⟩ := O1.shape
  obtain ⟨ln1, hl1⟩ : ∃ l, r1.length = l := ⟨_, rfl⟩
  rw [hl1] at hs1
  subst hs1
  clear O1 st1 o1 C1 Y1 hl1
  go_wp2_with fail
  refine (unhide C2).mono ?_
  rintro e w2 ⟨v2, Z2, rfl, hZ2, R2, hO2, n2, o2⟩
  have O1 := (unhide HS).1.keep o2 (fun _ _ e => e)
  have D2 := rd_of R2 (fun z hz => (hO2 z hz).1)
  rw [hZ2] at D2
  have HD2 := hide D2
  have st2 := (unhide HS).2.1.quiet o2
  have HS2 := hide (And.intro O1 (And.intro st2 ((unhide HS).2.2.andS o2)))
  obtain ⟨s2, t2, hs2, _⟩ := D2
  obtain ⟨ln2, hl2⟩ : ∃ l, r2.length = l := ⟨_, rfl⟩
  rw [hl2] at hs2
  subst hs2
  clear O1 R2 hO2 n2 o2 C2 st2 hl2 hZ2 l0 l1 l2 l3 m0 m1 m2 m3
  by_cases hz : z1 = z2
  · have d1 : (z1 == z2) = true := by simpa using hz
    obtain ⟨b, hb⟩ : ∃ b, decide (r1 = r2) = b := ⟨_, rfl⟩
    have C3 := hide (sameRows_any (unhide HS2).1.rd (unhide HD2) (unhide HL).1 (unhide HL).2 b hb)
    have HB := hide (show b = R from by
      rw [← unhide HR, ← hb]
      refine decide_eq_decide.mpr ?_
      rw [(unhide HE).1, (unhide HE).2, hz]
      simp)
    clear hz hb
    go_wp2_with fail
    refine (unhide C3).mono ?_
    rintro e w3 ⟨rfl, o3⟩
    have C4 := hide (spoilAll_any ((unhide HS2).1.keep o3 (fun _ _ e => e)) (unhide HL).1 (unhide HL).2)
    have HS3 := hide (And.intro ((unhide HS2).2.1.quiet o3) ((unhide HS2).2.2.andS o3))
    clear o3 C3 d1
    go_wp2_with fail
    refine (unhide C4).mono ?_
    rintro e w4 ⟨rfl, o4⟩
    have HP := hide (show ST q w4 x op S ∧ Only q.S w w4 from by
      refine ⟨(unhide HS3).1.keep o4 (fun k hk e => ?_), ?_⟩
      · rcases hk with hk | hk
        · have := (unhide HH).1.fv.Alt k hk
          omega
        · have := (unhide HH).1.has.lt
          omega
      · exact ((unhide HH).2.2.2.2.1.toS.ss (unhide HS3).2).trans o4 (fun k hk e => by omega))
    clear o4 C4
    go_wp2_with fail
    go_ret
    exact ⟨by rw [← unhide HB]; rfl, unhide HP⟩
  · have d1 : (z1 == z2) = false := by simpa using hz
    have HB := hide (show false = R from by
      rw [← unhide HR]
      refine (decide_eq_false (fun e => hz ?_)).symm
      rw [(unhide HE).1, (unhide HE).2] at e
      exact (Prod.mk.inj e).2)
    have C4 := hide (spoilAll_any (unhide HS2).1 (unhide HL).1 (unhide HL).2)
    clear hz
    go_wp2_with fail
    refine (unhide C4).mono ?_
    rintro e w4 ⟨rfl, o4⟩
    have HP := hide (show ST q w4 x op S ∧ Only q.S w w4 from by
      refine ⟨(unhide HS2).2.1.keep o4 (fun k hk e => ?_), ?_⟩
      · rcases hk with hk | hk
        · have := (unhide HH).1.fv.Alt k hk
          omega
        · have := (unhide HH).1.has.lt
          omega
      · exact ((unhide HH).2.2.2.2.1.toS.ss (unhide HS2).2.2).trans o4 (fun k hk e => by omega))
    clear o4 C4 d1
    go_wp2_with fail
    go_ret
    exact ⟨by rw [← unhide HB]; rfl, unhide HP⟩
set_option maxRecDepth 100000 in
set_option maxHeartbeats 4000000 in
theorem sameSchemaOf_any (H : ST q w x op S) (L : Lay S T) (Y : YAt w z D Tz U hist opz Hz) (sep : ∀ k, Hz k → ¬ q.S k) (nm : ByteArray) (R : Bool) (hR : decide (schD (dbOf T) nm = schD D nm) = R) : Calls Tryz.prog 85 #[.pointer (some ⟨x, 0, none⟩), .pointer (some ⟨z, 0, none⟩), .string nm] w fun e w' => e = .returned (.bool R) ∧ ST q w' x op S ∧ Only q.S w w' := by
  have HH := hide (And.intro H (And.intro Y sep))
  have HL := hide (sch_len L.dok nm)
  have C1 := eschema_any H L nm
  obtain ⟨a, ha⟩ : ∃ a, schD (dbOf T) nm = a := ⟨_, rfl⟩
  obtain ⟨b, hb⟩ : ∃ b, schD D nm = b := ⟨_, rfl⟩
  rw [ha] at C1 HL
  have C1 := hide C1
  have HR := hide hR
  have HE := hide (And.intro ha hb)
  clear H L Y sep hR ha hb
  go_enter Tryz.func85, Tryz.ntmps85
  go_wp2_with fail
  refine (unhide C1).mono ?_
  rintro e w1 ⟨v1, rfl, O1, n1, st1, o1⟩
  obtain ⟨s1, t1, hs1⟩ := O1.shape
  obtain ⟨l1, hl1⟩ : ∃ l, a.cols.length = l := ⟨_, rfl⟩
  rw [hl1] at hs1
  subst hs1
  have oA : Only (fun _ => False) w1 (w1.alloc (.cells #[.string a.nm, .slice s1 l1 t1, .int .i64 a.pk, .int .i64 a.ix] 65)) := (Only.refl _ _).alloc _
  have A1 : Has (w1.alloc (.cells #[.string a.nm, .slice s1 l1 t1, .int .i64 a.pk, .int .i64 a.ix] 65)) w1.heap.size #[.string a.nm, .slice s1 l1 t1, .int .i64 a.pk, .int .i64 a.ix] 65 := Has.new _ _ _
  have HS := hide (And.intro (O1.keep oA (fun _ _ e => e)) (And.intro n1 (And.intro (st1.quiet oA) (And.intro (o1.andS oA) A1))))
  clear O1 n1 st1 o1 oA A1 C1 hl1
  go_upto_region 2 with fail
  generalize w1.alloc (.cells #[.string a.nm, .slice s1 l1 t1, .int .i64 a.pk, .int .i64 a.ix] 65) = w2 at *
  have hA := (unhide HS).2.2.2.2.lt
  generalize w1.heap.size = ka at *
  have Y2 := (unhide HH).2.1.keep (unhide HS).2.2.2.1 (unhide HH).2.2
  have C2 := yschema_any Y2 nm
  rw [(unhide HE).2] at C2
  have C2 := hide C2
  clear Y2
  go_wp2_with fail
  refine (unhide C2).mono ?_
  rintro e w3 ⟨v2, rfl, O2, n2, o2⟩
  obtain ⟨s2, t2, hs2⟩ := O2.shape
  obtain ⟨l2, hl2⟩ : ∃ l, b.cols.length = l := ⟨_, rfl⟩
  rw [hl2] at hs2
  subst hs2
  have oB : Only (fun _ => False) w3 (w3.alloc (.cells #[.string b.nm, .slice s2 l2 t2, .int .i64 b.pk, .int .i64 b.ix] 65)) := (Only.refl _ _).alloc _
  have B1 : Has (w3.alloc (.cells #[.string b.nm, .slice s2 l2 t2, .int .i64 b.pk, .int .i64 b.ix] 65)) w3.heap.size #[.string b.nm, .slice s2 l2 t2, .int .i64 b.pk, .int .i64 b.ix] 65 := Has.new _ _ _
  have o23 := o2.trans oB (fun _ _ e => e)
  have HS2 := hide (And.intro ((unhide HS).1.keep o23 (fun _ _ e => e)) (And.intro (O2.keep oB (fun _ _ e => e)) (And.intro ((unhide HS).2.2.1.quiet o23) (And.intro ((unhide HS).2.2.2.1.andS o23) (And.intro ((unhide HS).2.2.2.2.keep o23 (fun e => e)) B1)))))
  clear O2 n2 o2 oB B1 o23 C2 hl2
  go_upto_region 3 with fail
  generalize w3.alloc (.cells #[.string b.nm, .slice s2 l2 t2, .int .i64 b.pk, .int .i64 b.ix] 65) = w4 at *
  have hB := (unhide HS2).2.2.2.2.2.lt
  generalize w3.heap.size = kb at *
  have a0 := (unhide HS2).2.2.2.2.1.cell 0
  have a1 := (unhide HS2).2.2.2.2.1.cell 1
  have a2 := (unhide HS2).2.2.2.2.1.cell 2
  have a3 := (unhide HS2).2.2.2.2.1.cell 3
  have b0 := (unhide HS2).2.2.2.2.2.cell 0
  have b1 := (unhide HS2).2.2.2.2.2.cell 1
  have b2 := (unhide HS2).2.2.2.2.2.cell 2
  have b3 := (unhide HS2).2.2.2.2.2.cell 3
  simp at a0 a1 a2 a3 b0 b1 b2 b3
  obtain ⟨z1, hz1⟩ : ∃ z1, a.z = z1 := ⟨_, rfl⟩
  obtain ⟨z2, hz2⟩ : ∃ z2, b.z = z2 := ⟨_, rfl⟩
  rw [hz1, hz2]
  have HZ := hide (And.intro hz1 hz2)
  clear hz1 hz2
  by_cases hz : z1 = z2
  · have d1 : (z1 == z2) = true := by simpa using hz
    obtain ⟨r, hr⟩ : ∃ r, decide (a.nm = b.nm ∧ a.pk = b.pk ∧ a.ix = b.ix ∧ a.cols = b.cols) = r := ⟨_, rfl⟩
    have C3 := jsameSchema_any (unhide HS2).1 (unhide HS2).2.1 (unhide HL) r hr
    unfold schA at C3
    have C3 := hide C3
    have HB := hide (show r = R from by
      rw [← unhide HR, ← hr, (unhide HE).1, (unhide HE).2]
      refine decide_eq_decide.mpr ?_
      have hz' : a.z = b.z := by rw [(unhide HZ).1, (unhide HZ).2, hz]
      constructor
      · rintro ⟨e1, e2, e3, e4⟩
        cases a
        cases b
        simp at e1 e2 e3 e4 hz'
        subst e1 e2 e3 e4 hz'
        rfl
      · intro e
        rw [e]
        exact ⟨rfl, rfl, rfl, rfl⟩)
    clear hz hr
    go_wp2_with fail
    refine (unhide C3).mono ?_
    rintro e w5 ⟨rfl, o5⟩
    have C4 := hide (spoilCols_any ((unhide HS2).1.keep o5 (fun _ _ e => e)) (unhide HL))
    have a1 := cell_keep a1 o5 (fun e => e)
    have HS3 := hide (And.intro ((unhide HS2).2.2.1.quiet o5) ((unhide HS2).2.2.2.1.andS o5))
    clear o5 C3 d1 a0 a2 a3 b0 b1 b2 b3
    go_wp2_with fail
    refine (unhide C4).mono ?_
    rintro e w6 ⟨rfl, o6⟩
    have HP := hide (show ST q w6 x op S ∧ Only q.S w w6 from by
      have nv : ∀ k, (Value.slice s1 l1 t1).ownBlock = some k → w.heap.size ≤ k := (unhide HS).2.1
      refine ⟨(unhide HS3).1.keep o6 (fun k hk e => ?_), ?_⟩
      · have := nv k e
        rcases hk with hk | hk
        · have := (unhide HH).1.fv.Alt k hk
          omega
        · have := (unhide HH).1.has.lt
          omega
      · exact (unhide HS3).2.trans o6 (fun k hk e => by have := nv k e; omega))
    clear o6 C4 a1
    go_wp2_with fail
    go_ret
    exact ⟨by rw [← unhide HB]; rfl, unhide HP⟩
  · have d1 : (z1 == z2) = false := by simpa using hz
    have HB := hide (show false = R from by
      rw [← unhide HR, (unhide HE).1, (unhide HE).2]
      refine (decide_eq_false (fun e => hz ?_)).symm
      rw [← (unhide HZ).1, ← (unhide HZ).2, e])
    have C4 := hide (spoilCols_any (unhide HS2).1 (unhide HL))
    clear hz a0 a2 a3 b0 b1 b2 b3
    go_wp2_with fail
    refine (unhide C4).mono ?_
    rintro e w6 ⟨rfl, o6⟩
    have HP := hide (show ST q w6 x op S ∧ Only q.S w w6 from by
      have nv : ∀ k, (Value.slice s1 l1 t1).ownBlock = some k → w.heap.size ≤ k := (unhide HS).2.1
      refine ⟨(unhide HS2).2.2.1.keep o6 (fun k hk e => ?_), ?_⟩
      · have := nv k e
        rcases hk with hk | hk
        · have := (unhide HH).1.fv.Alt k hk
          omega
        · have := (unhide HH).1.has.lt
          omega
      · exact (unhide HS2).2.2.2.1.trans o6 (fun k hk e => by have := nv k e; omega))
    clear o6 C4 a1 d1
    go_wp2_with fail
    go_ret
    exact ⟨by rw [← unhide HB]; rfl, unhide HP⟩
end
end Go.Proofs.Qxb6500413aGreat
