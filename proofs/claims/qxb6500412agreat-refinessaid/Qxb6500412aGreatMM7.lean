/-
  OWN WORK. THE TABLE LAW's MODEL: SchemaOf, Names.
-/
import Derived.Test.Qxb6500412aGreatMM6
import Derived.Test.Qxb6500412aGreatELo3
namespace Go.Proofs.Qxb6500412aGreat
open Go.RowKit Go.PlainAid
set_option linter.unusedSimpArgs false
set_option linter.unusedVariables false

section
variable {w : World} {dk o : Nat} {v : Value} {l : List GE} {D : Db}
/-- What SchemaOf answers of a table found. -/
def MscP (w : World) (t : Tb) (x : Ending) (w' : World) : Prop := ∃ z, x = .returned (.tuple #[.agg (scC t.nm (.slice (some ⟨z, 0, none⟩) t.cols.length t.cols.length) (t.pk : Int) (ixI t.ix)), .int .i64 0]) ∧ OwnC w' (.slice (some ⟨z, 0, none⟩) t.cols.length t.cols.length) t.cols ∧ w.heap.size ≤ z ∧ Only (fun _ => False) w w'
set_option maxRecDepth 100000 in
set_option maxHeartbeats 4000000 in
theorem mdbSchema_no (M : MDb w dk o v l D) {nm : ByteArray} (hf : findD D nm = none) : Calls Tryz.prog 181 #[.pointer (some ⟨dk, o, none⟩), .string nm] w fun x w' => x = .returned (.tuple #[.agg scN, .int .i64 10]) ∧ Only (fun _ => False) w w' := by
  have o1 : Only (fun _ => False) w (w.alloc (.cells #[.string ⟨#[]⟩, .slice none 0 0, .int .i64 0, .int .i64 0] 79)) := (Only.refl _ w).alloc _
  have B1 : Has (w.alloc (.cells #[.string ⟨#[]⟩, .slice none 0 0, .int .i64 0, .int .i64 0] 79)) w.heap.size #[.string ⟨#[]⟩, .slice none 0 0, .int .i64 0, .int .i64 0] 79 := Has.new w _ _
  have M1 := M.quiet o1
  have CF := hide (mfind_any M1.c0 M1.ml nm)
  have HX := hide (And.intro o1 (And.intro B1 (And.intro M1 hf)))
  clear M M1 o1 B1 hf
  go_enter Tryz.func181, Tryz.ntmps181
  go_wp2_with fail
  refine (unhide CF).mono ?_
  rintro x w2 ⟨r, rfl, hr, rfl⟩
  generalize w.alloc (.cells #[.string ⟨#[]⟩, .slice none 0 0, .int .i64 0, .int .i64 0] 79) = w1 at *
  generalize hkb : w.heap.size = kb at *
  clear CF
  by_cases r0 : r < 0
  · have dr : decide (r < 0) = true := decide_eq_true r0
    have B := (unhide HX).2.1
    have e0 := B.cell 0
    have e1 := B.cell 1
    have e2 := B.cell 2
    have e3 := B.cell 3
    have f0 := B.free 0
    have f1 := B.free 1
    have f2 := B.free 2
    have f3 := B.free 3
    simp at e0 e1 e2 e3
    have Bf : Has ((((w1.setCell ⟨kb, 0, none⟩ (.string ⟨#[]⟩)).setCell ⟨kb, 1, none⟩ (.slice none 0 0)).setCell ⟨kb, 2, none⟩ (.int .i64 0)).setCell ⟨kb, 3, none⟩ (.int .i64 (-1))) kb scN 79 := (((B.setCell 0 (.string ⟨#[]⟩)).setCell 1 (.slice none 0 0)).setCell 2 (.int .i64 0)).setCell 3 (.int .i64 (-1))
    have og : Only (fun k => k = kb) w1 ((((w1.setCell ⟨kb, 0, none⟩ (.string ⟨#[]⟩)).setCell ⟨kb, 1, none⟩ (.slice none 0 0)).setCell ⟨kb, 2, none⟩ (.int .i64 0)).setCell ⟨kb, 3, none⟩ (.int .i64 (-1))) := (((only1 (p := kb) _ _).trans (only1 (p := kb) _ _) (fun _ _ h => h)).trans (only1 (p := kb) _ _) (fun _ _ h => h)).trans (only1 (p := kb) _ _) (fun _ _ h => h)
    have HP := hide (And.intro Bf ((unhide HX).1.fresh og (by omega)))
    clear B Bf og hr r0
    go_wp2_with fail
    refine bodyPost_ret (res2_sch Tryz.results181 _ rfl (unhide HP).1 rfl) rfl ⟨rfl, (unhide HP).2⟩
  · exfalso
    obtain ⟨i, e, _, _, _, h, _⟩ := hr.myes (unhide HX).2.2.1.tt (unhide HX).2.2.1.ok (by omega)
    rw [(unhide HX).2.2.2] at h
    cases h
set_option maxRecDepth 100000 in
set_option maxHeartbeats 4000000 in
theorem mdbSchema_yes (M : MDb w dk o v l D) {nm : ByteArray} {t : Tb} (hf : findD D nm = some t) : Calls Tryz.prog 181 #[.pointer (some ⟨dk, o, none⟩), .string nm] w (MscP w t) := by
  have o1 : Only (fun _ => False) w (w.alloc (.cells #[.string ⟨#[]⟩, .slice none 0 0, .int .i64 0, .int .i64 0] 79)) := (Only.refl _ w).alloc _
  have B1 : Has (w.alloc (.cells #[.string ⟨#[]⟩, .slice none 0 0, .int .i64 0, .int .i64 0] 79)) w.heap.size #[.string ⟨#[]⟩, .slice none 0 0, .int .i64 0, .int .i64 0] 79 := Has.new w _ _
  have M1 := M.quiet o1
  have CF := hide (mfind_any M1.c0 M1.ml nm)
  have HX := hide (And.intro o1 (And.intro B1 (And.intro M1 hf)))
  clear M M1 o1 B1 hf
  go_enter Tryz.func181, Tryz.ntmps181
  go_wp2_with fail
  refine (unhide CF).mono ?_
  rintro x w2 ⟨r, rfl, hr, rfl⟩
  generalize w.alloc (.cells #[.string ⟨#[]⟩, .slice none 0 0, .int .i64 0, .int .i64 0] 79) = w1 at *
  generalize hkb : w.heap.size = kb at *
  have HKB := hide hkb
  clear CF hkb
  by_cases r0 : r < 0
  · exfalso
    have h := hr.mno (unhide HX).2.2.1.tt (unhide HX).2.2.1.ok r0
    rw [(unhide HX).2.2.2] at h
    cases h
  · have dr : decide (r < 0) = false := decide_eq_false r0
    obtain ⟨i, e, rfl, hi, hn, h, _⟩ := hr.myes (unhide HX).2.2.1.tt (unhide HX).2.2.1.ok (by omega)
    rw [(unhide HX).2.2.2] at h
    obtain rfl := Option.some.inj h
    obtain ⟨b, cap, hvx, P2, E2⟩ := (unhide HX).2.2.1.ml.pt hi
    have il : (i : Int) < (l.length : Int) := by have := (List.getElem?_eq_some_iff.mp hi).1; omega
    have h3 := (unhide HX).2.2.1.ml.len
    have c0 := (unhide HX).2.2.1.c0
    rw [hvx] at c0
    obtain ⟨ln, hln⟩ : ∃ ln, l.length = ln := ⟨_, rfl⟩
    rw [hln] at il h3 c0
    clear hln hvx
    have p0 := P2.c0
    have p1 := P2.c1
    have p2 := P2.c2
    have p3 := P2.c3
    obtain ⟨ca, cc, hcc⟩ := E2.col.shape
    have CS := mcloneSchema_any E2.col (by have := E2.ok.n3; omega) e.t.nm (e.t.pk : Int) (ixI e.t.ix)
    unfold schA at CS
    rw [hcc] at CS p1
    have CS := hide CS
    have z1 := (unhide HX).1.size
    have kl := (unhide HX).2.1.lt
    clear P2 E2 hi hn h hr hcc r0
    go_wp2_with fail
    refine (unhide CS).mono ?_
    rintro x w3 ⟨z, rfl, O3, hz, o3⟩
    have B := (unhide HX).2.1.keep o3 (fun e => e)
    have e0 := B.cell 0
    have e1 := B.cell 1
    have e2 := B.cell 2
    have e3 := B.cell 3
    have f0 := B.free 0
    have f1 := B.free 1
    have f2 := B.free 2
    have f3 := B.free 3
    simp at e0 e1 e2 e3
    have Bf : Has ((((w3.setCell ⟨kb, 0, none⟩ (.string e.t.nm)).setCell ⟨kb, 1, none⟩ (.slice (some ⟨z, 0, none⟩) e.t.cols.length e.t.cols.length)).setCell ⟨kb, 2, none⟩ (.int .i64 (e.t.pk : Int))).setCell ⟨kb, 3, none⟩ (.int .i64 (ixI e.t.ix))) kb (scC e.t.nm (.slice (some ⟨z, 0, none⟩) e.t.cols.length e.t.cols.length) (e.t.pk : Int) (ixI e.t.ix)) 79 := (((B.setCell 0 _).setCell 1 _).setCell 2 _).setCell 3 _
    have og : Only (fun k => k = kb) w3 ((((w3.setCell ⟨kb, 0, none⟩ (.string e.t.nm)).setCell ⟨kb, 1, none⟩ (.slice (some ⟨z, 0, none⟩) e.t.cols.length e.t.cols.length)).setCell ⟨kb, 2, none⟩ (.int .i64 (e.t.pk : Int))).setCell ⟨kb, 3, none⟩ (.int .i64 (ixI e.t.ix))) := (((only1 (p := kb) _ _).trans (only1 (p := kb) _ _) (fun _ _ h => h)).trans (only1 (p := kb) _ _) (fun _ _ h => h)).trans (only1 (p := kb) _ _) (fun _ _ h => h)
    have hkb := unhide HKB
    have HP := hide (And.intro Bf (And.intro (O3.keep og (fun k hk e => by simp [Value.ownBlock] at hk; omega)) (And.intro (show w.heap.size ≤ z by omega) (((unhide HX).1.trans o3 (fun _ _ e => e)).fresh og (by omega)))))
    clear B Bf og O3 hz o3 CS hkb c0 p0 p1 p2 p3
    go_wp2_with fail
    refine bodyPost_ret (res2_sch Tryz.results181 _ rfl (unhide HP).1 rfl) rfl ⟨z, rfl, (unhide HP).2⟩
/-- What Names answers. -/
def NmP (w : World) (N : List ByteArray) (x : Ending) (w' : World) : Prop := ∃ nv, x = .returned nv ∧ GR 9 1 w nv N.length (N.map Value.string) w'
set_option maxRecDepth 100000 in
set_option maxHeartbeats 4000000 in
theorem mdbNames_any (M : MDb w dk o v l D) : Calls Tryz.prog 121 #[.pointer (some ⟨dk, o, none⟩)] w (NmP w (namesD D)) := by
  obtain ⟨i0, hi0, hz0, hz1, hz2⟩ := info_parts Tryz.infoEStr
  obtain ⟨a, cap, hv⟩ := M.ml.shape
  have hl := M.ml.len
  have HM := hide M
  subst hv
  have hND : namesD D = l.map (fun e => e.t.nm) := by rw [← M.tt]; unfold namesD; rw [List.map_map]; rfl
  rw [hND]
  obtain ⟨n, hn⟩ : ∃ n, l.length = n := ⟨_, rfl⟩
  have HN := hide hn
  rw [hn] at hl HM
  clear M hND hn
  go_enter Tryz.func121, Tryz.ntmps121
  go_upto_region 3 with fail
  go_loopw [3, 4] (fun nv iv wr => ∃ i : Nat, iv = .int .i64 i ∧ i ≤ n ∧ GR 9 1 w nv i (((l.take i).map (fun e => e.t.nm)).map Value.string) wr) (fun _ iv _ => n - (intOf iv).toNat)
  case atStart => exact ⟨0, rfl, Nat.zero_le _, GR.nil _ _ _⟩
  case round =>
    obtain ⟨i, rfl, hi, I⟩ := hrel
    have c0 := cell_keep (unhide HM).c0 I.ho (fun e => e)
    obtain ⟨na, nc, hns⟩ := ownsRow_shape I.own
    subst hns
    by_cases hi2 : i < n
    · have a1 : decide ((i : Int) < (n : Int)) = true := decide_eq_true (by omega)
      have a1p : (i : Int) < (n : Int) := by omega
      obtain ⟨e, he⟩ := getE (l := l) (i := i) (by rw [unhide HN]; exact hi2)
      obtain ⟨b, cp, hvx, P, _⟩ := ((unhide HM).ml.quiet I.ho).pt he
      rw [unhide HN] at hvx
      simp only [Value.slice.injEq] at hvx
      obtain ⟨rfl, _, rfl⟩ := hvx
      have p0 := P.c0
      have own1 := I.own
      have HT := hide (show ((l.take (i + 1)).map (fun e => e.t.nm)).map Value.string = ((l.take i).map (fun e => e.t.nm)).map Value.string ++ [.string e.t.nm] from by rw [List.take_add_one, he]; simp)
      have HI := hide I
      clear I he P
      obtain ⟨en, hen⟩ : ∃ en, e.t.nm = en := ⟨_, rfl⟩
      rw [hen] at p0 HT
      clear hen
      generalize ((l.take i).map (fun e => e.t.nm)).map Value.string = cs at *
      go_wp2_with (at_builtin; refine wpList_append2 _ rfl _ _ 49 rfl 9 i0 _ 1 16 Tryz.underlying49 hi0 hz0 hz1 hz2 rfl (by decide) _ _ _ rfl (own1.alloc _) ⟨wr.heap.size, 0, none⟩ 1 1 [.string en] rfl rfl ?c1 ?c2 ?c3 ?c4 ?_)
      case c1 => exact news_ok _ [.string en] 9 _ rfl
      case c2 => intro u hu; simp at hu; subst hu; rfl
      case c3 => unfold maxLen; omega
      case c4 => omega
      intro v' w' hown hgrow hwhere
      have HG := hide (GR.push (unhide HI) hown hgrow hwhere)
      clear hown hgrow hwhere own1 p0 c0 HI
      go_wp2_with fail
      go_roundw
      case rel => exact ⟨i + 1, by go_num, by omega, by rw [unhide HT]; exact unhide HG⟩
      case measure => simp [intOf]; omega
    · obtain rfl : i = n := by omega
      have a1 : decide ((i : Int) < (i : Int)) = false := by simp
      have HP := hide (show NmP w (l.map (fun e => e.t.nm)) (.returned (.slice na i nc)) wr from ⟨_, rfl, by
        have := I
        rw [List.take_of_length_le (by rw [unhide HN]; omega)] at this
        rw [List.length_map, unhide HN]
        exact this⟩)
      clear I
      go_wp2_with fail
      go_ret
      exact unhide HP
end
end Go.Proofs.Qxb6500412aGreat
