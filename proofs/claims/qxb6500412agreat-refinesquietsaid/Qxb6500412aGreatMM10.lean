/-
  OWN WORK. THE TABLE LAW's MODEL: Insert (its opening lines are Update's).
-/
import Derived.Test.Qxb6500412aGreatMM9
import Derived.Deep.AppendLies
namespace Go.Proofs.Qxb6500412aGreat
open Go.RowKit Go.PlainAid
set_option linter.unusedSimpArgs false
set_option linter.unusedVariables false

section
variable {w wF : World} {l : List GE} {b cap i : Nat} {e : GE}
/-- The rows of a table turned at will. -/
theorem ML.turnRows (h : ML w (.slice (some ⟨b, 0, none⟩) l.length cap) l) (hi : l[i]? = some e) {v' : Value} {us' : List Value} {rows' : List (List Vl)} (oo : Only (GUp b e) w wF) (hT : wF.ownsRow 0 249 5 (.slice (some ⟨b, 0, none⟩) l.length cap) l.length ((gcs l).set (i * 5 + 4) v')) (hR : wF.ownsRow 0 95 1 v' us'.length us') (hn : us'.length = rows'.length) (hrow : ∀ (j : Nat) (u : Value) (r : List Vl), us'[j]? = some u → rows'[j]? = some r → OwnV wF u r) (ok : GOk (withR e.t rows')) (hv : ∀ k, v'.ownBlock = some k → GEm e k ∨ w.heap.size ≤ k) :
    ML wF (.slice (some ⟨b, 0, none⟩) l.length cap) (l.set i ⟨withR e.t rows', e.cv, v', us'⟩) := by
  have E := h.el e (List.mem_of_getElem? hi)
  have imm : ∀ k, GEi e k → ¬ GUp b e k := fun k hk hk' => by
    rcases hk' with hk' | hk'
    · exact h.bne hi k (.inr hk) hk'
    · obtain ⟨c, hc⟩ := ownsRow_has E.rs hk'
      exact E.imm hk hc (by decide) (by decide)
  refine h.upd hi oo ?_ ⟨ok, E.col.keep oo (fun k hk => imm k (.inl hk)), hR, hn, hrow⟩ rfl hv
  rw [gcs_rv (e' := ⟨withR e.t rows', e.cv, v', us'⟩) hi rfl rfl rfl rfl]
  exact hT
end
theorem rmid_get {α : Type} {l : List α} {p : Nat} (hp : p ≤ l.length) (x : α) (j : Nat) : (l.take p ++ x :: l.drop p)[j]? = if j < p then l[j]? else if j = p then some x else l[j - 1]? := by
  have hl : (l.take p).length = p := by rw [List.length_take]; omega
  by_cases c : j < p
  · rw [if_pos c, List.getElem?_append_left (by omega), List.getElem?_take, if_pos c]
  · rw [if_neg c, List.getElem?_append_right (by omega), hl]
    by_cases c2 : j = p
    · rw [if_pos c2, c2, Nat.sub_self]; rfl
    · rw [if_neg c2]
      obtain ⟨q, rfl⟩ : ∃ q, j = p + q + 1 := ⟨j - p - 1, by omega⟩
      rw [show p + q + 1 - p = q + 1 by omega, List.getElem?_cons_succ, List.getElem?_drop]
      rfl
theorem rmid_len {α : Type} {l : List α} {p : Nat} (hp : p ≤ l.length) (x : α) : (l.take p ++ x :: l.drop p).length = l.length + 1 := by
  simp; omega
/-- One step of the shift. -/
theorem rmid_step {α : Type} {l : List α} {j : Nat} {x y : α} (hj : j + 1 ≤ l.length) (hx : l[j]? = some x) : (l.take (j + 1) ++ y :: l.drop (j + 1)).set (j + 1) x = l.take j ++ x :: l.drop j := by
  apply List.ext_getElem?
  intro q
  rw [rmid_get (by omega) x q]
  by_cases c : j + 1 = q
  · subst c
    rw [List.getElem?_set_self (by rw [rmid_len hj]; omega), if_neg (by omega), if_neg (by omega)]
    simpa using hx.symm
  · rw [List.getElem?_set_ne c, rmid_get hj y q]
    by_cases c1 : q < j
    · rw [if_pos (by omega), if_pos c1]
    · by_cases c2 : q = j
      · subst c2
        rw [if_pos (by omega), if_neg (by omega), if_pos rfl]
        exact hx
      · rw [if_neg (by omega), if_neg (by omega), if_neg c1, if_neg c2]
theorem rmid_set {α : Type} {l : List α} {p : Nat} {x y : α} (hp : p ≤ l.length) : (l.take p ++ y :: l.drop p).set p x = l.take p ++ x :: l.drop p := by
  apply List.ext_getElem?
  intro q
  rw [rmid_get hp x q]
  by_cases c : p = q
  · subst c
    rw [List.getElem?_set_self (by rw [rmid_len hp]; omega), if_neg (by omega), if_pos rfl]
  · rw [List.getElem?_set_ne c, rmid_get hp y q]
    by_cases c1 : q < p
    · rw [if_pos c1, if_pos c1]
    · rw [if_neg c1, if_neg c1, if_neg (fun h => c h.symm), if_neg (fun h => c h.symm)]
theorem rmid_mem {α : Type} {l : List α} {p : Nat} {x y : α} (h : y ∈ l.take p ++ x :: l.drop p) : y ∈ l ∨ y = x := by
  rcases List.mem_append.mp h with h | h
  · exact .inl (List.mem_of_mem_take h)
  · rcases List.mem_cons.mp h with h | h
    · exact .inr h
    · exact .inl (List.mem_of_mem_drop h)
section
variable {ty : TypeId} {w w' : World} {dk o : Nat} {cs : Array Value} {v : Value} {l : List GE} {D : Db}
set_option maxRecDepth 100000 in
set_option maxHeartbeats 4000000 in
theorem mdbInsert_any (M : MDc ty w dk o cs v l D) (nm : ByteArray) {rv : Value} {row : List Vl} (O : OwnV w rv row) (hw : ∀ v ∈ row, v.wf) (h4 : row.length ≤ 200) : Calls Tryz.prog 330 #[.pointer (some ⟨dk, o, none⟩), .string nm, rv] w (MdP ty w dk o cs v l (insD D nm row).1 (insD D nm row).2) := by
  obtain ⟨i0, hi0, hz0, hz1, hz2⟩ := info_parts Tryz.infoEVals
  obtain ⟨D', zz, hDz⟩ : ∃ D' zz, insD D nm row = (D', zz) := ⟨_, _, rfl⟩
  rw [hDz]
  have HDZ := hide hDz
  have CF := hide (mfind_any M.db.c0 M.db.ml nm)
  have c0 := M.db.c0
  obtain ⟨ua, uc, hus⟩ := O.shape
  subst hus
  have HM := hide (And.intro M (And.intro O (And.intro hw h4)))
  clear M hDz O hw h4
  obtain ⟨rn, hrn⟩ : ∃ rn, row.length = rn := ⟨_, rfl⟩
  rw [hrn] at HM ⊢
  have HRN := hide hrn
  clear hrn
  go_enter Tryz.func330, Tryz.ntmps330
  go_wp2_with fail
  refine (unhide CF).mono ?_
  rintro x w2 ⟨r, rfl, hr, rfl⟩
  clear CF
  by_cases r0 : r < 0
  · have dr : decide (r < 0) = true := decide_eq_true r0
    have HP := hide (show MdP ty w dk o cs v l D' zz (.returned (.int .i64 10)) w from by
      have h := unhide HDZ
      unfold insD at h
      rw [onT_no (hr.mno (unhide HM).1.tt (unhide HM).1.ok r0)] at h
      cases h
      exact MdP.same (unhide HM).1 (Only.refl _ _))
    clear hr r0
    go_wp2_with fail
    go_ret
    exact unhide HP
  have dr : decide (r < 0) = false := decide_eq_false r0
  obtain ⟨i, e, rfl, hi, hn, hf, hm⟩ := hr.myes (unhide HM).1.tt (unhide HM).1.ok (by omega)
  have HC := hide (show (if (insR e.t row).2 = 0 then putT (insR e.t row).1 D else D, (insR e.t row).2) = (D', zz) from by
    have h := unhide HDZ
    unfold insD at h
    rw [onT_yes hf] at h
    exact h)
  have HS := hide (fun (z : Int) (z0 : z ≠ 0) (hz : insR e.t row = (e.t, z)) (w9 : World) (o9 : Only (fun _ => False) w w9) => show MdP ty w dk o cs v l D' zz (.returned (.int .i64 z)) w9 from by
    have h := unhide HC
    rw [hz] at h
    simp only [if_neg z0] at h
    cases h
    exact MdP.same (unhide HM).1 o9)
  obtain ⟨b, cap, hvx, P2, E2⟩ := (unhide HM).1.ml.pt hi
  have il : (i : Int) < (l.length : Int) := by have := (List.getElem?_eq_some_iff.mp hi).1; omega
  have h3 := (unhide HM).1.ml.len
  rw [hvx] at c0
  have p0 := P2.c0
  have p1 := P2.c1
  have p2 := P2.c2
  have p3 := P2.c3
  obtain ⟨ca, cc, hcc⟩ := E2.col.shape
  have tok := (unhide HM).1.ok.tb e.t hm
  have CV := eCheckRow_any E2.col (unhide HM).2.1 (by rw [unhide HRN]; exact (unhide HM).2.2.2) e.t.nm (e.t.pk : Int) (ixI e.t.ix)
  obtain ⟨zc, hzc⟩ : ∃ zc, chkRow e.t.cols row = zc := ⟨_, rfl⟩
  rw [hzc] at CV
  have HZC := hide hzc
  unfold schA at CV
  rw [hcc] at p1 CV
  have CV := hide CV
  have HPE := hide (And.intro P2 (And.intro E2 (And.intro tok (And.intro hi hvx))))
  obtain ⟨ln, hln⟩ : ∃ ln, l.length = ln := ⟨_, rfl⟩
  rw [hln] at il h3 c0
  clear P2 E2 hi hn hf hm hcc hr r0 hvx hln tok hzc
  go_wp2_with fail
  refine (unhide CV).mono ?_
  rintro x w4 ⟨rfl, o4⟩
  have HO4 := hide o4
  clear CV p0 p1 p2 p3 c0 o4 dr
  by_cases z0 : zc = 0
  · have d : (zc != 0) = false := by rw [z0]; rfl
    have HCK := hide (show chkRow e.t.cols row = 0 from by rw [unhide HZC]; exact z0)
    obtain ⟨RO, kf, ks⟩ := keyrow (unhide HPE).2.2.1 (unhide HM).2.2.1 (unhide HCK)
    have U4 := (unhide HM).2.1.keep (unhide HO4) (fun _ _ e => e)
    obtain ⟨kv, hkv⟩ := getE (l := row) (i := e.t.pk) (by rw [RO.len]; exact (unhide HPE).2.2.1.pkn)
    obtain ⟨ug, uc', hue, e0, e1, e2⟩ := getv_at U4 hkv
    rw [unhide HRN] at hue
    simp only [Value.slice.injEq] at hue
    obtain ⟨rfl, _, rfl⟩ := hue
    have hpkI : (e.t.pk : Int) < (rn : Int) := by rw [← unhide HRN]; have := (List.getElem?_eq_some_iff.mp hkv).1; omega
    have hky : kyR e.t.pk row = kv := by unfold kyR; rw [hkv]; rfl
    rw [hky] at kf ks
    have P4 := (unhide HPE).1.keep (unhide HO4) (fun e => e)
    have E4 := (unhide HPE).2.1.keep (unhide HO4) (fun _ _ e => e) (fun _ _ e => e)
    have q2 := P4.c2
    have CP := mplace_any P4 E4 kv
    unfold vlA at CP
    have CP := hide CP
    have HK := hide (And.intro hky (And.intro kf (And.intro ks RO)))
    clear z0 P4 E4 hky kf ks RO hkv
    obtain ⟨pk, hpk⟩ : ∃ pk, e.t.pk = pk := ⟨_, rfl⟩
    rw [hpk] at q2 e0 e1 e2 hpkI
    clear hpk
    go_wp2_with fail
    refine (unhide CP).mono ?_
    rintro x w5 ⟨p, hit, rfl, hpl, o5⟩
    have HO5 := hide ((unhide HO4).trans o5 (fun _ _ e => e))
    clear CP o5 q2 e0 e1 e2 d U4
    cases hit with
    | true =>
      obtain ⟨rr, hrr, hek, hfk⟩ := hpl.yes (unhide HPE).2.2.1 (unhide HK).2.1 (unhide HK).2.2.1
      have HP := hide (unhide HS 17 (by omega) (by
        unfold insR
        rw [if_neg (by simpa using unhide HCK), pkK_row e.t row, (unhide HK).1, hfk]) w5 (unhide HO5))
      clear hpl hrr hek hfk
      go_wp2_with fail
      go_ret
      exact unhide HP
    | false =>
      obtain ⟨hfk, hpx⟩ := hpl.no (unhide HPE).2.2.1 (unhide HK).2.1 (unhide HK).2.2.1
      have E5 := (unhide HPE).2.1.keep (unhide HO5) (fun _ _ e => e) (fun _ _ e => e)
      have P5 := (unhide HPE).1.keep (unhide HO5) (fun e => e)
      have p4 := P5.c4
      obtain ⟨ra, rc, he⟩ := E5.rshape
      rw [he] at p4
      have hn8 := E5.ok.len
      obtain ⟨n, hn⟩ : ∃ n, e.t.rows.length = n := ⟨_, rfl⟩
      by_cases h8 : 8 ≤ n
      · have d8 : decide ((n : Int) ≥ 8) = true := decide_eq_true (by omega)
        have d8' : decide ((8 : Int) ≤ (n : Int)) = true := decide_eq_true (by omega)
        have HP := hide (unhide HS 6 (by omega) (by
          unfold insR
          rw [if_neg (by simpa using unhide HCK), pkK_row e.t row, (unhide HK).1, hfk]
          simp only [if_pos (show 8 ≤ e.t.rows.length by omega)]) w5 (unhide HO5))
        rw [hn] at p4 hn8
        clear hpl hfk hpx E5 P5 he hn h8
        go_wp2_with fail
        go_ret
        exact unhide HP
      have d8 : decide ((n : Int) ≥ 8) = false := decide_eq_false (by omega)
      have d8' : decide ((8 : Int) ≤ (n : Int)) = false := decide_eq_false (by omega)
      have hpn : p ≤ n := by rw [← hn]; exact hpl.1
      have hpb : putBy (pkK e.t.pk) row e.t.rows = e.t.rows.take p ++ row :: e.t.rows.drop p := putBy_at (pkK e.t.pk) row e.t.rows p hpl.1 (fun j x hj hx => by rw [pkK_row e.t row, (unhide HK).1]; exact (hpl.codes (unhide HPE).2.2.1 (unhide HK).2.1 (unhide HK).2.2.1).1 j x hj hx) (fun x hx => by rw [pkK_row e.t row, (unhide HK).1]; exact hpx x hx)
      have hin : insR e.t row = (withR e.t (e.t.rows.take p ++ row :: e.t.rows.drop p), 0) := by
        unfold insR
        rw [if_neg (by simpa using unhide HCK), pkK_row e.t row, (unhide HK).1, hfk]
        simp only [if_neg (show ¬ 8 ≤ e.t.rows.length by omega), hpb]
      have hok : TbOk (withR e.t (e.t.rows.take p ++ row :: e.t.rows.drop p)) := by
        rw [← hpb]
        exact (unhide HPE).2.2.1.put (unhide HK).2.2.2 (by rw [hpb, rmid_len hpl.1]; omega)
      have HIN := hide (And.intro hin hok)
      have G5 := (unhide HM).1.ml.quiet (unhide HO5)
      rw [(unhide HPE).2.2.2.2] at G5
      have fb := gownFree G5.own (i * 5 + 4)
      have hbl : b < w5.heap.size := ownsRow_lt G5.own b rfl
      obtain ⟨cb, hb5⟩ := ownsRow_has G5.own (k := b) rfl
      have own1 : w5.ownsRow 0 95 1 (.slice ra n rc) n e.us := by have := E5.rs; rw [he, E5.n, hn] at this; exact this
      have nb : (Value.slice ra n rc).ownBlock ≠ some b := fun e' => G5.bne (unhide HPE).2.2.2.1 b (.inl (by unfold GEm; rw [he, hn]; exact e')) rfl
      have hul : e.us.length = n := by rw [E5.n, hn]
      have HE5 := hide (And.intro E5 (And.intro G5 (And.intro hul (And.intro (show e.rv = .slice ra n rc by rw [he, hn]) hn))))
      rw [hn] at p4 hn8
      clear hpl hfk hpx E5 P5 he hn hpb hin hok G5 h8 hul
      go_wp2_with (at_builtin; refine wpList_append2 _ rfl _ _ 50 rfl 95 i0 _ 1 24 Tryz.underlying50 hi0 hz0 hz1 hz2 rfl (by decide) _ _ _ rfl (own1.alloc _) ⟨w5.heap.size, 0, none⟩ 1 1 [.slice none 0 0] rfl rfl ?c1 ?c2 ?c3 ?c4 ?_)
      case c1 => exact news_ok _ [.slice none 0 0] 95 _ rfl
      case c2 => intro u hu; simp at hu; subst hu; rfl
      case c3 => unfold maxLen; omega
      case c4 => omega
      intro v' w6 hown hgrow hwhere
      obtain ⟨tg, cap6, hv6⟩ : ∃ tg cap6, v' = .slice (some ⟨tg, 0, none⟩) (n + 1) cap6 := by
        obtain ⟨g, c, hv, _⟩ := hown.form (by omega)
        exact ⟨g, c, hv⟩
      subst hv6
      have o56 : Only (GEm e) w5 w6 := ((Only.refl (GEm e) w5).alloc _).grown hgrow (fun k hk _ => by unfold GEm; rw [(unhide HE5).2.2.2.1]; exact hk)
      have y3 := (hgrow.cell_far ⟨b, i * 5 + 4, none⟩ (by simp; omega) (Ne.symm nb)).trans (cell_keep p4 ((Only.refl (fun _ => False) w5).alloc _) (fun e => e))
      have yz := (hgrow.frozen_far ⟨b, i * 5 + 4, none⟩ (by simp; omega) (Ne.symm nb)).trans ((hb5.alloc _).free _)
      have htg : GEm e tg ∨ w5.heap.size ≤ tg := by
        rcases hwhere tg rfl with c | c
        · exact .inl (by unfold GEm; rw [(unhide HE5).2.2.2.1]; exact c)
        · exact .inr (by omega)
      have hbt : b ≠ tg := fun e' => by
        rcases htg with c | c
        · exact (unhide HE5).2.1.bne (unhide HPE).2.2.2.1 tg (.inl c) e'.symm
        · omega
      have H6 := hide (And.intro hown (And.intro o56 (And.intro htg hbt)))
      clear hown hgrow hwhere own1 p4 fb hb5 o56 htg
      have o67 : Only (fun k => k = b) w6 (w6.setCell ⟨b, i * 5 + 4, none⟩ (.slice (some ⟨tg, 0, none⟩) (n + 1) cap6)) := only1 _ _
      have H7 := hide (show (w6.setCell ⟨b, i * 5 + 4, none⟩ (.slice (some ⟨tg, 0, none⟩) (n + 1) cap6)).cell? ⟨b, i * 5 + 4, none⟩ = some (.slice (some ⟨tg, 0, none⟩) (n + 1) cap6) ∧ (w6.setCell ⟨b, i * 5 + 4, none⟩ (.slice (some ⟨tg, 0, none⟩) (n + 1) cap6)).ownsRow 0 95 1 (.slice (some ⟨tg, 0, none⟩) (n + 1) cap6) (n + 1) (e.us ++ [.slice none 0 0]) ∧ (w6.setCell ⟨b, i * 5 + 4, none⟩ (.slice (some ⟨tg, 0, none⟩) (n + 1) cap6)).ownsRow 0 249 5 (.slice (some ⟨b, 0, none⟩) l.length cap) l.length ((gcs l).set (i * 5 + 4) (.slice (some ⟨tg, 0, none⟩) (n + 1) cap6)) ∧ Only (GUp b e) w5 (w6.setCell ⟨b, i * 5 + 4, none⟩ (.slice (some ⟨tg, 0, none⟩) (n + 1) cap6)) from by
        have T6 := ownsRow_keep (unhide HE5).2.1.own (unhide H6).2.1 (fun k hk hk' => by
          simp [Value.ownBlock] at hk
          subst hk
          exact (unhide HE5).2.1.bne (unhide HPE).2.2.2.1 b (.inl hk') rfl)
        have T7 := gbrowset (i := i * 5 + 4) T6 (.slice (some ⟨tg, 0, none⟩) (n + 1) cap6)
        refine ⟨?_, ownsRow_keep (unhide H6).1 o67 (fun k hk e' => by simp [Value.ownBlock] at hk; exact (unhide H6).2.2.2 (by omega)), T7, ((unhide H6).2.1.mono (fun k _ hk => Or.inr hk)).trans o67 (fun k _ e' => .inl e')⟩
        have hc := World.ownsRow.cells T7 (g := b) rfl (i * 5 + 4) _ (List.getElem?_set_self (by rw [gcs_len]; have := (List.getElem?_eq_some_iff.mp (unhide HPE).2.2.2.1).1; omega))
        rw [addr_add] at hc
        exact hc)
      have hwn : IntKind.i64.wrap (((n + 1 : Nat) : Int) - 1) = (n : Int) := by rw [IntWalk.i64_in] <;> omega
      have hwn' : IntKind.i64.wrap ((n : Int) + 1 - 1) = (n : Int) := by rw [IntWalk.i64_in] <;> omega
      clear o67
      go_upto_region 14 with fail
      generalize w6.setCell ⟨b, i * 5 + 4, none⟩ (.slice (some ⟨tg, 0, none⟩) (n + 1) cap6) = w7 at *
      have c7 := (unhide H7).1
      clear y3 yz
      go_upto_region 15 with fail
      go_loopw [12] (fun jv wr => ∃ (j : Nat) (y : Value), jv = .int .i64 j ∧ p ≤ j ∧ j ≤ n ∧ wr.ownsRow 0 95 1 (.slice (some ⟨tg, 0, none⟩) (n + 1) cap6) (n + 1) (e.us.take j ++ y :: e.us.drop j) ∧ Only (fun k => k = tg) w7 wr) (fun jv _ => (intOf jv).toNat)
      case atStart =>
        refine ⟨n, .slice none 0 0, rfl, hpn, Nat.le_refl _, ?_, Only.refl _ _⟩
        have hul := (unhide HE5).2.2.1
        rw [List.take_of_length_le (by omega), List.drop_of_length_le (by omega)]
        exact (unhide H7).2.1
      case round =>
        obtain ⟨j, y, rfl, hpj, hjn, R, oW⟩ := hrel
        have cW := cell_keep (unhide H7).1 oW (unhide H6).2.2.2
        have hul := (unhide HE5).2.2.1
        by_cases hj : p < j
        · have dj : decide ((j : Int) > (p : Int)) = true := decide_eq_true (by omega)
          have dj' : decide ((p : Int) < (j : Int)) = true := decide_eq_true (by omega)
          have djn : decide (p < j) = true := decide_eq_true hj
          obtain ⟨k, hjk⟩ : ∃ k, j = k + 1 := ⟨j - 1, by omega⟩
          obtain ⟨u, hu⟩ := getE (l := e.us) (i := k) (by omega)
          obtain ⟨r, hr⟩ := getE (l := e.t.rows) (i := k) (by rw [(unhide HE5).2.2.2.2]; omega)
          obtain ⟨sa, sc, hsu⟩ := ((unhide HE5).1.row k u r hu hr).shape
          subst hsu
          have hc := World.ownsRow.cells R (g := tg) rfl
          have d0 := hc k (.slice sa r.length sc) (by rw [rmid_get (by omega), if_pos (by omega)]; exact hu)
          have d1 := hc j y (by rw [rmid_get (by omega), if_neg (by omega), if_pos rfl])
          rw [addr_add] at d0 d1
          have f1 := gownFree R j
          have R2 := gbrowset (i := j) R (.slice sa r.length sc)
          have R3 : (wr.setCell ⟨tg, j, none⟩ (.slice sa r.length sc)).ownsRow 0 95 1 (.slice (some ⟨tg, 0, none⟩) (n + 1) cap6) (n + 1) (e.us.take k ++ .slice sa r.length sc :: e.us.drop k) := by
            rw [hjk, rmid_step (by omega) hu] at R2
            rw [hjk]
            exact R2
          have HR := hide (And.intro (show (wr.setCell ⟨tg, j, none⟩ (.slice sa r.length sc)).drew.ownsRow 0 95 1 (.slice (some ⟨tg, 0, none⟩) (n + 1) cap6) (n + 1) (e.us.take k ++ .slice sa r.length sc :: e.us.drop k) from R3) (oW.trans ((only1 (p := tg) _ _ : Only (fun k => k = tg) wr (wr.setCell ⟨tg, j, none⟩ (.slice sa r.length sc))).drew) (fun _ _ h => h)))
          obtain ⟨rl, hrl⟩ : ∃ rl, r.length = rl := ⟨_, rfl⟩
          rw [hrl] at d0 HR
          have hk' : k = j - 1 := by omega
          rw [hk'] at d0
          obtain ⟨m, hm⟩ : ∃ m, n + 1 = m := ⟨_, rfl⟩
          rw [hm] at cW
          have hjm : (j : Int) < (m : Int) := by omega
          have hj1 : (j : Int) - 1 < (m : Int) := by omega
          have hj0 : (0 : Int) ≤ (j : Int) - 1 := by omega
          have hj8 : j ≤ 8 := by omega
          have HJK := hide (And.intro hjk hj)
          clear R R2 R3 oW hu hr hc hrl hj hjk hk' hm hwn hwn'
          go_upto_region 17 with fail
          go_region
          go_wp2_with fail
          go_roundw
          case rel => exact ⟨k, .slice sa rl sc, by rw [(unhide HJK).1]; go_num, by have := unhide HJK; omega, by have := unhide HJK; omega, (unhide HR).1, (unhide HR).2⟩
          case measure => have := unhide HJK; simp [intOf]; omega
        · obtain rfl : j = p := by omega
          have dj : decide ((j : Int) > (j : Int)) = false := decide_eq_false (by omega)
          have dj' : decide ((j : Int) < (j : Int)) = false := decide_eq_false (by omega)
          have hw7 := (unhide HO5).size
          have U8 : OwnV wr (.slice (some ⟨ug, 0, none⟩) rn uc) row := ((unhide HM).2.1.keep (unhide HO5) (fun _ _ e => e)).keep (((unhide H7).2.2.2.trans oW (fun k hk e' => by
            subst e'
            rcases (unhide H6).2.2.1 with c | c
            · exact .inr c
            · omega))) (fun k hk hk' => by
              have O5 := (unhide HM).2.1.keep (unhide HO5) (fun _ _ e => e)
              rcases hk' with hk' | hk'
              · obtain ⟨c, hc⟩ := ownsRow_has (unhide HE5).2.1.own (k := b) rfl
                exact ownsRow_ne O5 hc (by decide) k hk hk'
              · obtain ⟨c, hc⟩ := ownsRow_has (unhide HE5).1.rs hk'
                exact ownsRow_ne O5 hc (by decide) k hk rfl)
          have CC := hide (mcloneRow_any (U8.keep ((Only.refl (fun _ => False) wr).drew) (fun _ _ e => e)) (by rw [unhide HRN]; have := (unhide HM).2.2.2; omega))
          have HD := hide (fun (w9 : World) (z : Nat) (O9 : OwnV w9 (.slice (some ⟨z, 0, none⟩) row.length row.length) row) (hz : wr.heap.size ≤ z) (o9 : Only (fun _ => False) wr w9) => show w9.cell? ⟨b, i * 5 + 4, none⟩ = some (.slice (some ⟨tg, 0, none⟩) (n + 1) cap6) ∧ w9.cell? ⟨tg, j, none⟩ = some y ∧ w9.frozen? ⟨tg, j, none⟩ = false ∧ MdP ty w dk o cs v l D' zz (.returned (.int .i64 0)) (w9.setCell ⟨tg, j, none⟩ (.slice (some ⟨z, 0, none⟩) row.length row.length)) from by
            have R9 := ownsRow_keep R o9 (fun _ _ e => e)
            have hc := World.ownsRow.cells R9 (g := tg) rfl j y (by rw [rmid_get (by omega), if_neg (by omega), if_pos rfl])
            rw [addr_add] at hc
            have o7F : Only (fun k => k = tg) w7 (w9.setCell ⟨tg, j, none⟩ (.slice (some ⟨z, 0, none⟩) row.length row.length)) := (oW.trans o9 (fun _ _ e => e.elim)).trans (only1 (p := tg) _ _) (fun _ _ h => h)
            have oo : Only (GUp b e) w5 (w9.setCell ⟨tg, j, none⟩ (.slice (some ⟨z, 0, none⟩) row.length row.length)) := (unhide H7).2.2.2.trans o7F (fun k hk e' => by
              subst e'
              rcases (unhide H6).2.2.1 with c | c
              · exact .inr c
              · omega)
            have RF := gbrowset (i := j) R9 (.slice (some ⟨z, 0, none⟩) row.length row.length)
            rw [rmid_set (by omega)] at RF
            have TF := ownsRow_keep (unhide H7).2.2.1 o7F (fun k hk e' => by simp [Value.ownBlock] at hk; exact (unhide H6).2.2.2 (by omega))
            have hE := (unhide HE5).1
            have imm : ∀ k, GEi e k → ¬ GUp b e k := fun k hk hk' => by
              rcases hk' with hk' | hk'
              · exact (unhide HE5).2.1.bne (unhide HPE).2.2.2.1 k (.inr hk) hk'
              · obtain ⟨c, hc⟩ := ownsRow_has hE.rs hk'
                exact hE.imm hk hc (by decide) (by decide)
            have hn := (unhide HE5).2.2.2.2
            have hl' : (e.us.take j ++ Value.slice (some ⟨z, 0, none⟩) row.length row.length :: e.us.drop j).length = n + 1 := by rw [rmid_len (by omega), hul]
            have G' := (unhide HE5).2.1.turnRows (unhide HPE).2.2.2.1 (v' := .slice (some ⟨tg, 0, none⟩) (n + 1) cap6) (us' := e.us.take j ++ .slice (some ⟨z, 0, none⟩) row.length row.length :: e.us.drop j) (rows' := e.t.rows.take j ++ row :: e.t.rows.drop j) oo TF (by rw [hl']; exact RF) (by rw [hl', rmid_len (by omega), hn]) (fun q x r hx hr => by
              rw [rmid_get (by omega)] at hx hr
              by_cases c1 : q < j
              · rw [if_pos c1] at hx hr
                exact (hE.row q x r hx hr).keep oo (fun k hk => imm k (.inr ⟨x, List.mem_of_getElem? hx, hk⟩))
              · rw [if_neg c1] at hx hr
                by_cases c2 : q = j
                · rw [if_pos c2] at hx hr
                  cases hx
                  cases hr
                  exact O9.keep (only1 (p := tg) _ _) (fun k hk e' => by
                    obtain ⟨c, hc⟩ := ownsRow_has R9 (k := tg) rfl
                    exact ownsRow_ne O9 hc (by decide) k hk e')
                · rw [if_neg c2] at hx hr
                  exact (hE.row (q - 1) x r hx hr).keep oo (fun k hk => imm k (.inr ⟨x, List.mem_of_getElem? hx, hk⟩))) ((GT.refl _).ok (unhide HIN).2) (fun k hk => by
              simp [Value.ownBlock] at hk
              subst hk
              exact (unhide H6).2.2.1)
            have h := unhide HC
            rw [(unhide HIN).1] at h
            simp only [if_true] at h
            cases h
            refine ⟨cell_keep cW o9 (fun e => e), hc, gownFree R9 j, MdP.upd (unhide HO5) ((unhide HM).1.quiet (unhide HO5)) (unhide HPE).2.2.2.2 (unhide HPE).2.2.2.1 G' rfl (unhide HIN).2 rfl oo ⟨fun k hk => ?_, fun k hk => ?_⟩⟩
            · unfold GEm at hk
              simp [Value.ownBlock] at hk
              subst hk
              rcases (unhide H6).2.2.1 with c | c
              · exact .inl c
              · exact .inr (by omega)
            · rcases hk with hk | ⟨x, hx, hk⟩
              · exact .inl (.inl hk)
              · rcases rmid_mem hx with hx | rfl
                · exact .inl (.inr ⟨x, hx, hk⟩)
                · simp [Value.ownBlock] at hk
                  have z57 := (unhide H7).2.2.2.size
                  have z78 := oW.size
                  exact .inr (by omega))
          have cj := World.ownsRow.cells R (g := tg) rfl j y (by rw [rmid_get (by omega), if_neg (by omega), if_pos rfl])
          rw [addr_add] at cj
          have hjI : (j : Int) < ((n + 1 : Nat) : Int) := by omega
          have hjI' : (j : Int) < (n : Int) + 1 := by omega
          rw [unhide HRN] at CC HD
          clear R oW U8
          go_upto_region 18 with fail
          go_region_with (go_at_call 260; refine (unhide CC).mono ?_; rintro x w9 ⟨z, rfl, O9, hz, o9⟩; obtain ⟨s1, s2, s3, HP⟩ := unhide HD w9 z O9 (by simpa using hz) ((Only.refl (fun _ => False) wr).drew.trans o9 (fun _ _ e => e)); have HQ := hide HP; clear O9 hz o9 HP)
          all_goals
            go_wp2_with fail
            go_ret
            exact unhide HQ
  · have d : (zc != 0) = true := by simpa using z0
    have HP := hide (unhide HS zc z0 (by unfold insR; rw [unhide HZC, if_pos z0]) w4 (unhide HO4))
    clear z0
    go_wp2_with fail
    go_ret
    exact unhide HP
end
end Go.Proofs.Qxb6500412aGreat
