/-
  OWN WORK. THE TABLE LAW's GHOST: DueRow of an Update, an Insert.
-/
import Derived.Test.Qxb6500413aGreatJG8
import Derived.Deep.AppendLies
namespace Go.Proofs.Qxb6500413aGreat
open Go.RowKit Go.PlainAid
set_option linter.unusedSimpArgs false
set_option linter.unusedVariables false

theorem rowP_len (t : ByteArray) : (rowP t).length ≤ 4 := fieldsP_len t 4 0
theorem RoP.same8 {z : Int} {w w' : World} {l : List GE} {b cap i : Nat} {e : GE} {t0 : Tb} {T : ByteArray} {kind : Int} (hk : kind = 8) (G : GL w (.slice (some ⟨b, 0, none⟩) l.length cap) l) (hi : l[i]? = some e) (g : GT e.t t0) (h0 : TbOk t0) (ho : Only (fun _ => False) w w') (hz : updR t0 (rowP T) = (t0, z)) : RoP kind T t0 w b cap l i e (.returned (.int .i64 z)) w' := by
  subst hk
  exact RoP.same G hi g h0 ho hz
theorem RoP.same7 {z : Int} {w w' : World} {l : List GE} {b cap i : Nat} {e : GE} {t0 : Tb} {T : ByteArray} {kind : Int} (hk : kind = 7) (G : GL w (.slice (some ⟨b, 0, none⟩) l.length cap) l) (hi : l[i]? = some e) (g : GT e.t t0) (h0 : TbOk t0) (ho : Only (fun _ => False) w w') (hz : insR t0 (rowP T) = (t0, z)) : RoP kind T t0 w b cap l i e (.returned (.int .i64 z)) w' := by
  subst hk
  exact RoP.same G hi g h0 ho hz
section
variable {w : World} {l : List GE} {b cap i : Nat} {e : GE} {t0 : Tb}
set_option maxRecDepth 100000 in
set_option maxHeartbeats 4000000 in
theorem jdueI_any (G : GL w (.slice (some ⟨b, 0, none⟩) l.length cap) l) (hi : l[i]? = some e) (g : GT e.t t0) (h0 : TbOk t0) (kind a bb cc : Int) (hk : kind = 7 ∨ kind = 8) (s T : ByteArray) (hT : T.size ≤ maxLen) : Calls Tryz.prog 107 #[.pointer (some ⟨b, i * 5, none⟩), .agg #[.int .i64 kind, .int .i64 a, .int .i64 bb, .int .i64 cc, .string s, .string T]] w (RoP kind T t0 w b cap l i e) := by
  obtain ⟨i0, hi0, hz0, hz1, hz2⟩ := info_parts Tryz.infoEVals
  have o1 : Only (fun _ => False) w (w.alloc (.cells #[.int .i64 kind, .int .i64 a, .int .i64 bb, .int .i64 cc, .string s, .string T] 41)) := (Only.refl _ w).alloc _
  have A1 : Has (w.alloc (.cells #[.int .i64 kind, .int .i64 a, .int .i64 bb, .int .i64 cc, .string s, .string T] 41)) w.heap.size #[.int .i64 kind, .int .i64 a, .int .i64 bb, .int .i64 cc, .string s, .string T] 41 := Has.new w _ _
  have a0 := A1.cell 0
  have a5 := A1.cell 5
  simp at a0 a5
  have d9 : (kind == 9) = false := by simp; omega
  have CF := hide (eRowOf_any T hT (w.alloc (.cells #[.int .i64 kind, .int .i64 a, .int .i64 bb, .int .i64 cc, .string s, .string T] 41)))
  have HG := hide (And.intro G (And.intro hi (And.intro g h0)))
  have HO := hide (And.intro o1 A1)
  have HK := hide hk
  clear G hi g h0 o1 A1 hk
  go_enter Tryz.func107, Tryz.ntmps107
  go_wp2_with fail
  refine (unhide CF).mono ?_
  rintro x w2 ⟨u, rfl, R2⟩
  generalize w.alloc (.cells #[.int .i64 kind, .int .i64 a, .int .i64 bb, .int .i64 cc, .string s, .string T] 41) = w1 at *
  have ob := (unhide HO).2.lt
  generalize hkb : w.heap.size = kb at *
  have HW := hide (And.intro (rowP_wf T) (rowP_len T))
  obtain ⟨row, hrow⟩ : ∃ row, rowP T = row := ⟨_, rfl⟩
  rw [hrow] at HW R2
  have HKEY := hide hrow
  clear hrow
  have A2 := (unhide HO).2.keep R2.ho (fun e => e)
  have HO2 := hide ((unhide HO).1.trans R2.ho (fun _ _ e => e))
  have OU : OwnV w2 u row := R2.own
  have HUB := hide (show ∀ k, u.ownBlock = some k → w.heap.size ≤ k from fun k hk => Nat.le_trans (unhide HO).1.size (R2.hb k hk))
  clear a0 a5 CF HO R2
  have G2 := (unhide HG).1.quiet (unhide HO2)
  obtain ⟨bx, capx, hvx, P3, E3⟩ := G2.pt (unhide HG).2.1
  simp only [Value.slice.injEq, Option.some.injEq, Addr.mk.injEq] at hvx
  obtain ⟨⟨rfl, _⟩, _, rfl⟩ := hvx
  have q0 := P3.c0
  have q1 := P3.c1
  have q2 := P3.c2
  have q3 := P3.c3
  obtain ⟨ua, uc, hus⟩ := OU.shape
  have CV := eCheckRow_any E3.col OU (by have := (unhide HW).2; omega) e.t.nm (e.t.pk : Int) (ixI e.t.ix)
  obtain ⟨z, hz⟩ : ∃ z, chkRow e.t.cols row = z := ⟨_, rfl⟩
  rw [hz] at CV
  unfold schA at CV
  obtain ⟨ca, ccp, hcs⟩ := E3.col.shape
  rw [hcs] at q1
  rw [hcs, hus] at CV
  have CV := hide CV
  have HP := hide (And.intro P3 (And.intro E3 (And.intro A2 (And.intro OU (And.intro hus hz)))))
  clear P3 E3 A2 OU G2 hz
  subst hus
  obtain ⟨rn, hrn⟩ : ∃ rn, row.length = rn := ⟨_, rfl⟩
  rw [hrn] at CV HP ⊢
  have HRN := hide hrn
  clear hrn hcs
  go_wp2_with fail
  refine (unhide CV).mono ?_
  rintro x w4 ⟨rfl, o4⟩
  have HO4 := hide ((unhide HO2).trans o4 (fun _ _ e => e))
  have P4 := (unhide HP).1.keep o4 (fun e => e)
  have E4 := (unhide HP).2.1.keep o4 (fun _ _ e => e) (fun _ _ e => e)
  have A4 := (unhide HP).2.2.1.keep o4 (fun e => e)
  have U4 := (unhide HP).2.2.2.1.keep o4 (fun _ _ e => e)
  have HZ := hide (unhide HP).2.2.2.2.2
  clear o4 HO2 HP CV q0 q1 q2 q3
  by_cases z0 : z = 0
  · have d : (z != 0) = false := by simpa using z0
    have hrl : row.length = e.t.cols.length := by
      obtain ⟨R, _⟩ := (unhide HG).2.2.1.keyrow (unhide HG).2.2.2 (unhide HW).1 (by rw [unhide HZ]; exact z0)
      rw [R.len, (unhide HG).2.2.1.cols]
    obtain ⟨kv, hkv⟩ := getE (l := row) (i := e.t.pk) (by rw [hrl]; exact E4.ok.pkn)
    obtain ⟨ug, uc', hue, e0, e1, e2⟩ := getv_at U4 hkv
    rw [unhide HRN] at hue
    simp only [Value.slice.injEq] at hue
    obtain ⟨rfl, _, rfl⟩ := hue
    have hpkI : (e.t.pk : Int) < (rn : Int) := by rw [← unhide HRN]; have := (List.getElem?_eq_some_iff.mp hkv).1; omega
    have a0 := A4.cell 0
    simp at a0
    have q2 := P4.c2
    have hky : kyR e.t.pk row = kv := by unfold kyR; rw [hkv]; rfl
    have CR := jgrow_any P4 E4 kv
    unfold vlA at CR
    have CR := hide CR
    have HP := hide (And.intro P4 (And.intro E4 (And.intro A4 (And.intro U4 hky))))
    have HZ0 := hide z0
    clear P4 E4 A4 U4 z0 hkv hky hrl
    obtain ⟨pk, hpk⟩ : ∃ pk, e.t.pk = pk := ⟨_, rfl⟩
    rw [hpk] at q2 e0 e1 e2 hpkI
    clear hpk
    go_wp2_with fail
    refine (unhide CR).mono ?_
    rintro x w5 ⟨r, rfl, hr, o5⟩
    have HO5 := hide ((unhide HO4).trans o5 (fun _ _ e => e))
    have P5 := (unhide HP).1.keep o5 (fun e => e)
    have E5 := (unhide HP).2.1.keep o5 (fun _ _ e => e) (fun _ _ e => e)
    have U5 := (unhide HP).2.2.2.1.keep o5 (fun _ _ e => e)
    have A5 := (unhide HP).2.2.1.keep o5 (fun e => e)
    rw [← (unhide HP).2.2.2.2] at hr
    clear o5 CR HP HO4 q2 e0 e1 e2 a0
    have a0 := A5.cell 0
    simp at a0
    have c4 := P5.c4
    have G5 := (unhide HG).1.quiet (unhide HO5)
    rcases unhide HK with k7 | k8
    · have d8 : (kind == 8) = false := by simp; omega
      have HY := hide ((unhide HG).2.2.1.ins_yes (unhide HG).2.2.2 (unhide HW).1 (by rw [unhide HZ, unhide HZ0]) hr)
      by_cases r0 : 0 ≤ r
      · have dr : decide (0 ≤ r) = true := decide_eq_true r0
        have dr' : decide (r ≥ 0) = true := decide_eq_true r0
        have HR := hide (RoP.same7 (T := T) (z := 17) k7 (unhide HG).1 (unhide HG).2.1 (unhide HG).2.2.1 (unhide HG).2.2.2 (unhide HO5) (by rw [unhide HKEY]; exact (unhide HY).1 r0))
        clear P5 E5 G5 hr
        go_wp2_with fail
        go_ret
        exact unhide HR
      · have dr : decide (0 ≤ r) = false := decide_eq_false r0
        have dr' : decide (r ≥ 0) = false := decide_eq_false r0
        obtain ⟨ra, rc, hrs⟩ := E5.rshape
        have hn8 := E5.ok.len
        obtain ⟨n, hn⟩ : ∃ n, e.t.rows.length = n := ⟨_, rfl⟩
        rw [hn] at hrs hn8
        by_cases h8 : 8 ≤ n
        · have d8' : decide ((n : Int) ≥ 8) = true := decide_eq_true (by omega)
          have d8'' : decide ((8 : Int) ≤ (n : Int)) = true := decide_eq_true (by omega)
          have HR := hide (RoP.same7 (T := T) (z := 6) k7 (unhide HG).1 (unhide HG).2.1 (unhide HG).2.2.1 (unhide HG).2.2.2 (unhide HO5) (by rw [unhide HKEY]; exact (unhide HY).2.1 (by omega) (by omega)))
          rw [hrs] at c4
          clear P5 E5 G5 hr hrs
          go_wp2_with fail
          go_ret
          exact unhide HR
        · have d8' : decide ((n : Int) ≥ 8) = false := decide_eq_false (by omega)
          have d8'' : decide ((8 : Int) ≤ (n : Int)) = false := decide_eq_false (by omega)
          obtain ⟨y1, y2, y3⟩ := (unhide HY).2.2 (by omega) (by omega)
          have own1 : w5.ownsRow 0 76 1 (.slice ra n rc) n e.us := by have := E5.rs; rw [hrs, E5.n, hn] at this; exact this
          have fb := gownFree G5.own (i * 5 + 4)
          have hbl : b < w5.heap.size := ownsRow_lt G5.own b rfl
          obtain ⟨cb, hb5⟩ := ownsRow_has G5.own (k := b) rfl
          have nb : (Value.slice ra n rc).ownBlock ≠ some b := fun e' => G5.bne (unhide HG).2.1 b (.inl (by unfold GEm; rw [hrs]; exact e')) rfl
          have HD := hide (fun (v' : Value) (w' : World) (o : Obj) (m : Nat) (h1 : w'.ownsRow 0 76 1 v' m (e.us ++ [.slice (some ⟨ug, 0, none⟩) rn uc])) (h2 : m = e.us.length + 1) (h3 : (w5.alloc o).grownBy w' (Value.slice ra n rc).ownBlock) (h4 : ∀ k, v'.ownBlock = some k → (Value.slice ra n rc).ownBlock = some k ∨ k = w5.heap.size + 1) => show RoP kind T t0 w b cap l i e (.returned (.int .i64 0)) (w'.setCell ⟨b, i * 5 + 4, none⟩ v') from by
            rw [← hrs] at h3 h4
            obtain ⟨a1, a2⟩ := G5.pushRow (unhide HG).2.1 U5 (y2.ok y3) h1 h2 h3 h4
            have hro : rowOp kind T t0 = insR t0 row := by unfold rowOp; rw [if_neg (by omega), if_neg (by omega), unhide HKEY]
            refine ⟨_, by rw [hro, y1], a1, by rw [hro]; exact y2, by rw [hro]; exact y3, ((unhide HO5).mono (fun _ _ e => e.elim)).trans a2 (fun _ _ e => e), fun k hk => ?_, fun k hk => ?_⟩
            · rcases h4 k hk with c | c
              · exact .inl c
              · exact .inr (by have := (unhide HO5).size; omega)
            · rcases hk with hk | ⟨x, hx, hk⟩
              · exact .inl (.inl hk)
              · rcases List.mem_append.mp hx with hx | hx
                · exact .inl (.inr ⟨x, hx, hk⟩)
                · obtain rfl : x = _ := by simpa using hx
                  exact .inr (unhide HUB k hk))
          have hul : e.us.length = n := by rw [E5.n, hn]
          rw [hrs] at c4
          have HN := hide hul
          clear P5 E5 G5 hr hrs hn HY y1 y2 y3 U5 A5 hul
          generalize hus : e.us = us at *
          clear hus
          go_wp2_with (at_builtin; refine wpList_append2 _ rfl _ _ 66 rfl 76 i0 _ 1 24 Tryz.underlying66 hi0 hz0 hz1 hz2 rfl (by decide) _ _ _ rfl (own1.alloc _) ⟨w5.heap.size, 0, none⟩ 1 1 [.slice (some ⟨ug, 0, none⟩) rn uc] rfl rfl ?c1 ?c2 ?c3 ?c4 ?_)
          case c1 => exact news_ok _ [.slice (some ⟨ug, 0, none⟩) rn uc] 76 _ rfl
          case c2 => intro u hu; simp at hu; subst hu; rfl
          case c3 => unfold maxLen; omega
          case c4 => omega
          intro v' w' hown hgrow hwhere
          obtain ⟨na, ncap, hvs⟩ := ownsRow_shape hown
          subst hvs
          have HD2 := hide (unhide HD _ w' _ _ hown (by rw [unhide HN]) hgrow hwhere)
          have y3 := (hgrow.cell_far ⟨b, i * 5 + 4, none⟩ (by simp; omega) (Ne.symm nb)).trans (cell_keep c4 ((Only.refl (fun _ => False) w5).alloc _) (fun e => e))
          have yz := (hgrow.frozen_far ⟨b, i * 5 + 4, none⟩ (by simp; omega) (Ne.symm nb)).trans ((hb5.alloc _).free _)
          clear hown hgrow hwhere HD own1 c4 fb hb5
          go_wp2_with fail
          go_ret
          exact unhide HD2
    · have d8 : (kind == 8) = true := by simp; omega
      have HY := hide ((unhide HG).2.2.1.upd_yes (unhide HG).2.2.2 (unhide HW).1 (by rw [unhide HZ, unhide HZ0]) hr)
      rcases hr with ⟨rfl, _⟩ | ⟨j, xr, hxr, rfl, _⟩
      · have HR := hide (RoP.same8 (T := T) (z := 9) k8 (unhide HG).1 (unhide HG).2.1 (unhide HG).2.2.1 (unhide HG).2.2.2 (unhide HO5) (by rw [unhide HKEY]; exact (unhide HY).1 (by omega)))
        clear P5 E5 G5
        go_wp2_with fail
        go_ret
        exact unhide HR
      · have hjl := (List.getElem?_eq_some_iff.mp hxr).1
        obtain ⟨rg, ux, rc, hrv, _, cx, _⟩ := E5.at_ hxr
        have fz := fun k => gownFree (by have R := E5.rs; rw [hrv, E5.n] at R; exact R) k
        have fj := fz j
        obtain ⟨y1, y2, y3⟩ := (unhide HY).2 j rfl
        have HD := hide (show RoP kind T t0 w b cap l i e (.returned (.int .i64 0)) (w5.setCell ⟨rg, j, none⟩ (.slice (some ⟨ug, 0, none⟩) rn uc)) from by
          obtain ⟨a1, a2⟩ := G5.setRow (unhide HG).2.1 hrv hjl U5 (y2.ok y3)
          have hro : rowOp kind T t0 = updR t0 row := by unfold rowOp; rw [if_neg (by omega), if_pos (by omega), unhide HKEY]
          exact ⟨_, by rw [hro, y1], a1, by rw [hro]; exact y2, by rw [hro]; exact y3, ((unhide HO5).mono (fun _ _ e => e.elim)).trans a2 (fun _ _ e => e), fun k hk => .inl hk, fun k hk => by
            rcases hk with hk | ⟨x, hx, hk⟩
            · exact .inl (.inl hk)
            · rcases List.mem_or_eq_of_mem_set hx with hx | rfl
              · exact .inl (.inr ⟨x, hx, hk⟩)
              · exact .inr (unhide HUB k hk)⟩)
        rw [hrv] at c4
        obtain ⟨n, hn⟩ : ∃ n, e.t.rows.length = n := ⟨_, rfl⟩
        rw [hn] at hjl c4
        have hjI : (j : Int) < (n : Int) := by omega
        clear P5 E5 G5 hrv U5 A5 y1 y2 y3 HY hxr hn fz
        go_wp2_with fail
        go_ret
        exact unhide HD
  · have d : (z != 0) = true := by simpa using z0
    have HR := hide (show RoP kind T t0 w b cap l i e (.returned (.int .i64 z)) w4 from by
      rcases unhide HK with k7 | k8
      · exact RoP.same7 k7 (unhide HG).1 (unhide HG).2.1 (unhide HG).2.2.1 (unhide HG).2.2.2 (unhide HO4) (by rw [unhide HKEY, ← unhide HZ]; exact (unhide HG).2.2.1.ins_no (by rw [unhide HZ]; exact z0))
      · exact RoP.same8 k8 (unhide HG).1 (unhide HG).2.1 (unhide HG).2.2.1 (unhide HG).2.2.2 (unhide HO4) (by rw [unhide HKEY, ← unhide HZ]; exact (unhide HG).2.2.1.upd_no (by rw [unhide HZ]; exact z0)))
    clear z0 P4 E4 A4 U4
    go_wp2_with fail
    go_ret
    exact unhide HR
end
end Go.Proofs.Qxb6500413aGreat
