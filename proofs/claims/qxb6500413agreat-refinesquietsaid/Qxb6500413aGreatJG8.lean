/-
  OWN WORK. THE TABLE LAW's GHOST: DueRow of a Delete.
-/
import Derived.Test.Qxb6500413aGreatJG7
namespace Go.Proofs.Qxb6500413aGreat
open Go.RowKit Go.PlainAid
set_option linter.unusedSimpArgs false
set_option linter.unusedVariables false

section
variable {w : World} {l : List GE} {b cap i : Nat} {e : GE} {t0 : Tb}
set_option maxRecDepth 100000 in
set_option maxHeartbeats 4000000 in
theorem jdueD_any (G : GL w (.slice (some ⟨b, 0, none⟩) l.length cap) l) (hi : l[i]? = some e) (g : GT e.t t0) (h0 : TbOk t0) (a bb cc : Int) (s T : ByteArray) (hT : T.size ≤ maxLen) : Calls Tryz.prog 107 #[.pointer (some ⟨b, i * 5, none⟩), .agg #[.int .i64 9, .int .i64 a, .int .i64 bb, .int .i64 cc, .string s, .string T]] w (RoP 9 T t0 w b cap l i e) := by
  have o1 : Only (fun _ => False) w (w.alloc (.cells #[.int .i64 9, .int .i64 a, .int .i64 bb, .int .i64 cc, .string s, .string T] 41)) := (Only.refl _ w).alloc _
  have A1 : Has (w.alloc (.cells #[.int .i64 9, .int .i64 a, .int .i64 bb, .int .i64 cc, .string s, .string T] 41)) w.heap.size #[.int .i64 9, .int .i64 a, .int .i64 bb, .int .i64 cc, .string s, .string T] 41 := Has.new w _ _
  have a0 := A1.cell 0
  have a5 := A1.cell 5
  simp at a0 a5
  have CF := hide (eFirst_any T hT (w.alloc (.cells #[.int .i64 9, .int .i64 a, .int .i64 bb, .int .i64 cc, .string s, .string T] 41)))
  have HG := hide (And.intro G (And.intro hi (And.intro g h0)))
  have HO := hide o1
  clear G hi g h0 o1 A1
  go_enter Tryz.func107, Tryz.ntmps107
  go_wp2_with fail
  refine (unhide CF).mono ?_
  rintro e w2 ⟨rfl, o2⟩
  have HO2 := hide ((unhide HO).trans o2 (fun _ _ e => e))
  have HW := hide (fstP_wf T)
  have HK : Hid (fstP T = fstP T) := hide rfl
  clear o2 CF a0 a5 HO
  unfold vlA
  obtain ⟨key, hkey⟩ : ∃ key, fstP T = key := ⟨_, rfl⟩
  have o3 : Only (fun _ => False) w2 (w2.alloc (.cells #[.bool key.str, .int .i64 key.i, .string key.s] 72)) := (Only.refl _ w2).alloc _
  have A3 : Has (w2.alloc (.cells #[.bool key.str, .int .i64 key.i, .string key.s] 72)) w2.heap.size #[.bool key.str, .int .i64 key.i, .string key.s] 72 := Has.new w2 _ _
  rw [hkey] at HW ⊢
  have HKEY := hide hkey
  clear hkey HK
  go_upto_region 3 with fail
  generalize w2.alloc (.cells #[.bool key.str, .int .i64 key.i, .string key.s] 72) = w3 at *
  generalize w2.heap.size = kb at *
  have HO3 := hide ((unhide HO2).trans o3 (fun _ _ e => e))
  clear o3 HO2
  obtain ⟨bx, capx, hvx, P3, E3⟩ := ((unhide HG).1.quiet (unhide HO3)).pt (unhide HG).2.1
  simp only [Value.slice.injEq, Option.some.injEq, Addr.mk.injEq] at hvx
  obtain ⟨⟨rfl, _⟩, _, rfl⟩ := hvx
  have q0 := P3.c0
  have q1 := P3.c1
  have q2 := P3.c2
  have q3 := P3.c3
  have k0 := A3.cell 0
  have k1 := A3.cell 1
  have k2 := A3.cell 2
  simp at k0 k1 k2
  obtain ⟨xc, hxc⟩ := getE (l := e.t.cols) (i := e.t.pk) E3.ok.pkn
  have CV := eCheckVal_any (E3.col.keep ((Only.refl (fun _ => False) w3).drew) (fun _ _ e => e)) e.t.nm (e.t.pk : Int) (ixI e.t.ix) e.t.pk hxc key
  obtain ⟨z, hz⟩ : ∃ z, chkVal xc key = z := ⟨_, rfl⟩
  rw [hz] at CV
  have HZ := hide (show chkKey e.t key = z from by unfold chkKey; rw [hxc]; exact hz)
  unfold vlA schA at CV
  have CV := hide CV
  have HP := hide (And.intro P3 (And.intro E3 A3))
  clear P3 E3 A3 hxc hz
  go_cut [6] (fun zv wx => zv = .int .i64 z ∧ Only (fun _ => False) w3 wx)
  case first =>
    go_region_with (go_at_call 101; refine (unhide CV).mono ?_; rintro e w2 ⟨rfl, o2⟩; have HF := hide ((Only.refl (fun _ => False) w3).drew.trans o2 (fun _ _ e => e)); clear o2)
    all_goals
      go_wp2_with fail
      go_meet
      exact ⟨rfl, unhide HF⟩
  case rest =>
  obtain ⟨rfl, o4⟩ := hcut
  have HO4 := hide ((unhide HO3).trans o4 (fun _ _ e => e))
  have P4 := (unhide HP).1.keep o4 (fun e => e)
  have E4 := (unhide HP).2.1.keep o4 (fun _ _ e => e) (fun _ _ e => e)
  have A4 := (unhide HP).2.2.keep o4 (fun e => e)
  clear o4 HO3 HP CV q0 q1 q2 q3 k0 k1 k2
  by_cases z0 : z = 0
  · have d : (z != 0) = false := by simpa using z0
    have k0 := A4.cell 0
    have k1 := A4.cell 1
    have k2 := A4.cell 2
    simp at k0 k1 k2
    have CR := jgrow_any P4 E4 key
    unfold vlA at CR
    have CR := hide CR
    have HP := hide (And.intro P4 E4)
    have HZ0 := hide z0
    clear P4 E4 A4 z0
    go_wp2_with fail
    refine (unhide CR).mono ?_
    rintro x w5 ⟨r, rfl, hr, o5⟩
    have HO5 := hide ((unhide HO4).trans o5 (fun _ _ e => e))
    have P5 := (unhide HP).1.keep o5 (fun e => e)
    have E5 := (unhide HP).2.keep o5 (fun _ _ e => e) (fun _ _ e => e)
    have HY := hide ((unhide HG).2.2.1.del_yes (unhide HG).2.2.2 (unhide HW) (by rw [unhide HZ, unhide HZ0]) hr)
    clear o5 CR HP HO4 k0 k1 k2
    rcases hr with ⟨rfl, _⟩ | ⟨j, xr, hxr, rfl, _⟩
    · have HR := hide (RoP.same (kind := 9) (T := T) (z := 9) (unhide HG).1 (unhide HG).2.1 (unhide HG).2.2.1 (unhide HG).2.2.2 (unhide HO5) (by unfold rowOp; rw [if_pos rfl, unhide HKEY]; exact (unhide HY).1 (by omega)))
      clear P5 E5
      go_wp2_with fail
      go_ret
      exact unhide HR
    · have hjl := (List.getElem?_eq_some_iff.mp hxr).1
      obtain ⟨yr, hyr⟩ := getE (l := e.t.rows) (i := e.t.rows.length - 1) (by omega)
      obtain ⟨rg, ux, rc, hrv, _, cx, _⟩ := E5.at_ hxr
      obtain ⟨rg', uy, rc', hrv', huy, cy, OY⟩ := E5.at_ hyr
      obtain ⟨rfl, rfl⟩ : rg' = rg ∧ rc' = rc := by rw [hrv] at hrv'; simp at hrv'; exact ⟨hrv'.1.symm, hrv'.2.symm⟩
      have G5 := (unhide HG).1.quiet (unhide HO5)
      have fz := fun k => gownFree (by have R := E5.rs; rw [hrv, E5.n] at R; exact R) k
      have fj := fz j
      have fb := gownFree G5.own (i * 5 + 4)
      obtain ⟨y1, y2, y3⟩ := (unhide HY).2 j yr rfl hyr
      have HD := hide (fun (w1 : World) (ho : Only (fun _ => False) (w5.setCell ⟨rg', j, none⟩ uy) w1) => show RoP 9 T t0 w b cap l i e (.returned (.int .i64 0)) (w1.setCell ⟨b, i * 5 + 4, none⟩ (.slice (some ⟨rg', 0, none⟩) (e.t.rows.length - 1) rc')) from by
        obtain ⟨a1, a2⟩ := G5.delRow (unhide HG).2.1 hrv hjl (by omega) OY (y2.ok y3) ho
        have hro : rowOp 9 T t0 = delR t0 key := by unfold rowOp; rw [if_pos rfl, unhide HKEY]
        exact ⟨_, by rw [hro, y1], a1, by rw [hro]; exact y2, by rw [hro]; exact y3, ((unhide HO5).mono (fun _ _ e => e.elim)).trans a2 (fun _ _ e => e), fun k hk => .inl (by unfold GEm at hk ⊢; rw [hrv]; exact hk), fun k hk => .inl (by
          rcases hk with hk | ⟨u, hu, hk⟩
          · exact .inl hk
          · rcases List.mem_or_eq_of_mem_set (List.mem_of_mem_take hu) with hu | rfl
            · exact .inr ⟨u, hu, hk⟩
            · exact .inr ⟨u, List.mem_of_getElem? huy, hk⟩)⟩)
      have hrc : e.t.rows.length ≤ rc' := by
        have R := E5.rs
        rw [hrv, E5.n] at R
        rcases R.2 with ⟨he, _⟩ | ⟨g', c', cur, he, _, _, hh, _⟩
        · simp at he
        · simp at he
          omega
      have c4 := P5.c4
      rw [hrv] at c4
      obtain ⟨n, hn⟩ : ∃ n, e.t.rows.length = n := ⟨_, rfl⟩
      rw [hn] at hjl c4 cy HD hrc
      have hrcI : ((n : Int) - 1) ≤ (rc' : Int) := by omega
      have h8 : n ≤ 8 := by rw [← hn]; exact E5.ok.len
      have hjI : (j : Int) < (n : Int) := by omega
      have hn1 : ((n : Int) - 1) < (n : Int) := by omega
      have hn0 : (0 : Int) ≤ (n : Int) - 1 := by omega
      have nb : b ≠ rg' := fun e' => G5.bne (unhide HG).2.1 rg' (.inl (by unfold GEm; rw [hrv]; rfl)) e'.symm
      obtain ⟨ya, yc, hys⟩ := OY.shape
      rw [hys] at cy HD
      have c4' : (w5.setCell ⟨rg', j, none⟩ (.slice ya yr.length yc)).cell? ⟨b, i * 5 + 4, none⟩ = some (.slice (some ⟨rg', 0, none⟩) n rc') := cell_keep c4 (only1 _ _) nb
      clear P5 E5 G5 hrv hrv' OY huy y1 y2 y3 HY hxr hyr hn hys fz
      go_upto_region 9 with fail
      go_region
      go_upto_region 10 with fail
      go_region
      go_wp2_with fail
      go_ret
      exact unhide HD ((w5.setCell ⟨rg', j, none⟩ (.slice ya yr.length yc)).drew.drew) (Only.refl _ _).drew.drew
  · have d : (z != 0) = true := by simpa using z0
    have HR := hide (RoP.same (kind := 9) (T := T) (unhide HG).1 (unhide HG).2.1 (unhide HG).2.2.1 (unhide HG).2.2.2 (unhide HO4) (z := z) (by unfold rowOp; rw [if_pos rfl, unhide HKEY, ← unhide HZ]; exact (unhide HG).2.2.1.del_no (by rw [unhide HZ]; exact z0)))
    clear z0 P4 E4 A4
    go_wp2_with fail
    go_ret
    exact unhide HR
end
end Go.Proofs.Qxb6500413aGreat
