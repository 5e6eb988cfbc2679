/-
  OWN WORK. THE TABLE LAW: KeptSchema, KeptNames.
-/
import Derived.Test.Qxb6500413aGreatJS3
import Derived.Test.Qxb6500413aGreatETab
namespace Go.Proofs.Qxb6500413aGreat
open Go.RowKit Go.PlainAid
set_option linter.unusedSimpArgs false
set_option linter.unusedVariables false

section
variable {q : Gnd} {w w' : World} {x : Nat} {op : Bool} {S : Vu} {T : List (Tb × Hd)} {v : Value} {l : List GE}
/-- What KeptSchema answers. -/
def KcX (l : List GE) (D : Db) (nm : ByteArray) (bb : Bool) : Prop :=
  (GP (l.map (·.t)) D → bb = true) ∧ (bb = true → ∀ e ∈ l, e.t.nm = nm → ∃ t0, findD D nm = some t0 ∧ e.t.cols = t0.cols ∧ e.t.pk = t0.pk ∧ e.t.ix = t0.ix)
theorem ixI_inj {a b : Option Nat} (h : ixI a = ixI b) : a = b := by
  cases a with
  | none =>
    cases b with
    | none => rfl
    | some j => simp [ixI] at h <;> omega
  | some i =>
    cases b with
    | none => simp [ixI] at h <;> omega
    | some j => simp [ixI] at h; rw [show i = j by omega]
set_option maxRecDepth 100000 in
set_option maxHeartbeats 16000000 in
theorem jkeptSchema_any (H : ST q w x op S) (L : Lay S T) (G : GL w v l) (hq : ∀ k, GLm v l k ∨ GLi l k → ¬ q.S k) (nm : ByteArray) : Calls Tryz.prog 36 #[.pointer (some ⟨x, 0, none⟩), v, .string nm] w (KsP q w x op S (KcX l (dbOf T) nm)) := by
  obtain ⟨va, vc, hvs⟩ := G.shape
  subst hvs
  cases hf : findD (dbOf T) nm with
  | none =>
    have CS := hide (eschemaOf_no H L (find_none hf))
    have HH := hide (And.intro G (And.intro hq hf))
    clear H L G hq hf
    unfold scN at CS
    go_enter Tryz.func36, Tryz.ntmps36
    go_wp2_with fail
    refine (unhide CS).mono ?_
    rintro y w2 ⟨rfl, st2, o2⟩
    have G2 := (unhide HH).1.keep o2 (fun k hk => (unhide HH).2.1 k (.inl hk)) (fun k hk => (unhide HH).2.1 k (.inr hk))
    have o3 : Only (fun _ => False) w2 (w2.alloc (.cells #[.string ⟨#[]⟩, .slice none 0 0, .int .i64 0, .int .i64 (-1)] 65)) := (Only.refl _ w2).alloc _
    have A3 : Has (w2.alloc (.cells #[.string ⟨#[]⟩, .slice none 0 0, .int .i64 0, .int .i64 (-1)] 65)) w2.heap.size #[.string ⟨#[]⟩, .slice none 0 0, .int .i64 0, .int .i64 (-1)] 65 := Has.new w2 _ _
    have CG := hide (jgfind_any (G2.quiet o3) nm)
    have HX := hide (And.intro (st2.quiet o3) (o2.trans (o3.mono (fun _ _ e => e.elim)) (fun _ _ e => e) : Only q.S w _))
    have HA3 := hide A3
    clear CS st2 o2 G2 o3 A3
    go_wp2_with fail
    refine (unhide CG).mono ?_
    rintro y w4 ⟨r, rfl, hr, rfl⟩
    generalize w2.alloc (.cells #[.string ⟨#[]⟩, .slice none 0 0, .int .i64 0, .int .i64 (-1)] 65) = w3 at *
    generalize w2.heap.size = kb at *
    clear CG
    have a0 := (unhide HA3).cell 0
    have a1 := (unhide HA3).cell 1
    have a2 := (unhide HA3).cell 2
    have a3 := (unhide HA3).cell 3
    simp at a0 a1 a2 a3
    rcases hr with ⟨rfl, hno⟩ | ⟨i, e, hi, rfl, hn⟩
    · have CC := jsameSchema_any (w := w3) (n1 := ⟨#[]⟩) (n2 := ⟨#[]⟩) (v1 := .slice none 0 0) (v2 := .slice none 0 0) (p1 := 0) (p2 := 0) (i1 := -1) (i2 := -1) (C1 := []) (C2 := []) (World.ownsRow_nil _ _ _ _) (World.ownsRow_nil _ _ _ _) (by simp) true (by simp)
      unfold schA at CC
      have CC := hide CC
      have HK := hide (show KcX l (dbOf T) nm true from ⟨fun _ => rfl, fun _ e he hn => absurd hn (hno e he)⟩)
      clear hno
      go_wp2_with fail
      refine (unhide CC).mono ?_
      rintro y w5 ⟨rfl, o5⟩
      have HP := hide (show KsP q w x op S (KcX l (dbOf T) nm) (.returned (.bool true)) w5 from ⟨true, rfl, unhide HK, (unhide HX).1.quiet o5, (unhide HX).2.trans (o5.mono (fun _ _ e => e.elim)) (fun _ _ e => e)⟩)
      clear o5 CC
      go_wp2_with fail
      go_ret
      exact unhide HP
    · have dr : decide ((i : Int) < 0) = false := decide_eq_false (by omega)
      have HP := hide (fun w5 (o5 : Only (fun _ => False) w3 w5) => show KsP q w x op S (KcX l (dbOf T) nm) (.returned (.bool false)) w5 from ⟨false, rfl, ⟨fun P => by
        obtain ⟨t0, h1, _⟩ := P.yes (List.mem_map.mpr ⟨e, List.mem_of_getElem? hi, rfl⟩) hn
        rw [(unhide HH).2.2] at h1
        exact (nomatch h1), fun h => (by cases h)⟩, (unhide HX).1.quiet o5, (unhide HX).2.trans (o5.mono (fun _ _ e => e.elim)) (fun _ _ e => e)⟩)
      clear hi hn
      go_upto_region 5 with fail
      go_quiet (fail)
      go_wp2_with fail
      go_ret
      exact unhide HP _ (onlyQ _ _)
  | some t0 =>
    obtain ⟨hd, hx, hn0⟩ := find_some hf
    subst hn0
    have CS := hide (eschemaOf_yes H L hx)
    have hok := (L.tb _ hx)
    have HH := hide (And.intro G (And.intro hq (And.intro hf hok.n3)))
    clear H L G hq hf hx hok
    unfold scC at CS
    go_enter Tryz.func36, Tryz.ntmps36
    go_wp2_with fail
    refine (unhide CS).mono ?_
    rintro y w2 ⟨cv, rfl, hcv, _, st2, o2⟩
    have G2 := (unhide HH).1.keep o2 (fun k hk => (unhide HH).2.1 k (.inl hk)) (fun k hk => (unhide HH).2.1 k (.inr hk))
    obtain ⟨ca, cc, hcs⟩ := hcv.shape
    have HCV := hide hcv
    obtain ⟨c0, hc0⟩ : ∃ c0, t0.cols.length = c0 := ⟨_, rfl⟩
    rw [hc0] at hcs
    subst hcs
    have o3 : Only (fun _ => False) w2 (w2.alloc (.cells #[.string t0.nm, .slice ca c0 cc, .int .i64 (t0.pk : Int), .int .i64 (ixI t0.ix)] 65)) := (Only.refl _ w2).alloc _
    have A3 : Has (w2.alloc (.cells #[.string t0.nm, .slice ca c0 cc, .int .i64 (t0.pk : Int), .int .i64 (ixI t0.ix)] 65)) w2.heap.size #[.string t0.nm, .slice ca c0 cc, .int .i64 (t0.pk : Int), .int .i64 (ixI t0.ix)] 65 := Has.new w2 _ _
    have G3 := G2.quiet o3
    have CG := hide (jgfind_any G3 t0.nm)
    have HX := hide (And.intro (st2.quiet o3) (And.intro (o2.trans (o3.mono (fun _ _ e => e.elim)) (fun _ _ e => e) : Only q.S w _) (And.intro G3 ((unhide HCV).keep o3 (fun _ _ e => e)))))
    have HA3 := hide A3
    clear CS st2 o2 G2 o3 A3 G3 HCV hcv
    go_wp2_with fail
    refine (unhide CG).mono ?_
    rintro y w4 ⟨r, rfl, hr, rfl⟩
    generalize w2.alloc (.cells #[.string t0.nm, .slice ca c0 cc, .int .i64 (t0.pk : Int), .int .i64 (ixI t0.ix)] 65) = w3 at *
    generalize w2.heap.size = kb at *
    clear CG
    have a0 := (unhide HA3).cell 0
    have a1 := (unhide HA3).cell 1
    have a2 := (unhide HA3).cell 2
    have a3 := (unhide HA3).cell 3
    simp at a0 a1 a2 a3
    rcases hr with ⟨rfl, hno⟩ | ⟨i, e, hi, rfl, hn⟩
    · have HP := hide (show KsP q w x op S (KcX l (dbOf T) t0.nm) (.returned (.bool false)) w3 from ⟨false, rfl, ⟨fun P => by
        have := P.no (fun t ht => by obtain ⟨e, he, rfl⟩ := List.mem_map.mp ht; exact hno e he)
        rw [(unhide HH).2.2.1] at this
        exact (nomatch this), fun h => (by cases h)⟩, (unhide HX).1, (unhide HX).2.1⟩)
      clear hno
      go_wp2_with fail
      go_ret
      exact unhide HP
    · have dr : decide ((i : Int) < 0) = false := decide_eq_false (by omega)
      have il : (i : Int) < (l.length : Int) := by have := (List.getElem?_eq_some_iff.mp hi).1; omega
      obtain ⟨b, cap, hvx, P2, E2⟩ := (unhide HX).2.2.1.pt hi
      simp only [Value.slice.injEq] at hvx
      obtain ⟨rfl, _, rfl⟩ := hvx
      have h3 := (unhide HX).2.2.1.len
      obtain ⟨ln, hln⟩ : ∃ ln, l.length = ln := ⟨_, rfl⟩
      rw [hln] at il h3 ⊢
      clear hln
      have p0 := P2.c0
      have p1 := P2.c1
      have p2 := P2.c2
      have p3 := P2.c3
      obtain ⟨R, hR⟩ : ∃ R, decide (t0.nm = e.t.nm ∧ (t0.pk : Int) = (e.t.pk : Int) ∧ ixI t0.ix = ixI e.t.ix ∧ t0.cols = e.t.cols) = R := ⟨_, rfl⟩
      have CC := jsameSchema_any (w := w3.drew) ((unhide HX).2.2.2.keep ((Only.refl (fun _ => False) w3).drew) (fun _ _ e => e)) (E2.col.keep ((Only.refl (fun _ => False) w3).drew) (fun _ _ e => e)) (by have := (unhide HH).2.2.2; omega) R hR
      obtain ⟨ea, ec, hes⟩ := E2.col.shape
      rw [hes] at p1 CC
      unfold schA at CC
      have CC := hide CC
      have HK := hide (show KcX l (dbOf T) t0.nm R from ⟨fun P => by
        obtain ⟨t1, h1, h2, h3⟩ := P.yes (List.mem_map.mpr ⟨e, List.mem_of_getElem? hi, rfl⟩) hn
        rw [(unhide HH).2.2.1] at h1
        cases h1
        rw [← hR]
        exact decide_eq_true ⟨h3.nm.symm, by rw [h3.pk], by rw [h3.ix], h3.cols.symm⟩, fun h e' he' hn' => by
        obtain ⟨j, hj⟩ := List.getElem?_of_mem he'
        obtain rfl := (unhide HH).1.one hj hi (hn'.trans hn.symm)
        rw [← hR] at h
        have := of_decide_eq_true h
        exact ⟨t0, (unhide HH).2.2.1, this.2.2.2.symm, by have := this.2.1; omega, (ixI_inj this.2.2.1).symm⟩⟩)
      clear hi hn P2 E2 hR hes
      obtain ⟨en, hen⟩ : ∃ en, e.t.cols.length = en := ⟨_, rfl⟩
      rw [hen] at p1 CC
      clear hen
      go_upto_region 5 with fail
      go_region_with (go_at_call 96; refine (unhide CC).mono ?_; rintro y w5 ⟨rfl, o5⟩; have HP := hide (show KsP q w x op S (KcX l (dbOf T) t0.nm) (.returned (.bool R)) w5 from ⟨R, rfl, unhide HK, (unhide HX).1.quiet ((Only.refl (fun _ => False) w3).drew.trans o5 (fun _ _ e => e)), (unhide HX).2.1.trans (((Only.refl (fun _ => False) w3).drew.trans o5 (fun _ _ e => e)).mono (fun _ _ e => e.elim)) (fun _ _ e => e)⟩); clear o5)
      all_goals
        go_wp2_with fail
        go_ret
        exact unhide HP
/-- What KeptNames answers. -/
def KnX (l : List GE) (D : Db) (bb : Bool) : Prop := bb = true ↔ ((l.map (·.t)).map (fun t => t.nm)).Perm (D.map (fun t => t.nm))
theorem KnX.no {D : Db} (h : ¬ ((l.map (·.t)).map (fun t => t.nm)).Perm (D.map (fun t => t.nm))) : KnX l D false := ⟨fun e => (by cases e), fun p => absurd p h⟩
set_option maxRecDepth 100000 in
set_option maxHeartbeats 16000000 in
theorem jkeptNames_any (H : ST q w x op S) (L : Lay S T) (G : GL w v l) (hq : ∀ k, GLm v l k ∨ GLi l k → ¬ q.S k) : Calls Tryz.prog 35 #[.pointer (some ⟨x, 0, none⟩), v] w (KsP q w x op S (KnX l (dbOf T))) := by
  obtain ⟨va, vc, hvs⟩ := G.shape
  subst hvs
  have CT := hide (etables_any H L)
  have hd := L.dok
  have hND : (T.map (fun x => x.1.nm)) = (dbOf T).map (fun t => t.nm) := by unfold dbOf; rw [List.map_map]; rfl
  have hnd := hd.nd
  rw [← hND] at hnd
  have hsrt : (T.map (fun x => x.1.nm)).Pairwise (fun a b => lt a b = true) := by rw [List.pairwise_map]; exact L.srt
  have hlen : (T.map (fun x => x.1.nm)).length ≤ 3 := by rw [List.length_map]; exact L.len
  have hl3 := G.len
  obtain ⟨N, hN⟩ : ∃ N, T.map (fun x => x.1.nm) = N := ⟨_, rfl⟩
  rw [hN] at hND hnd hsrt hlen CT
  have HH := hide (And.intro G (And.intro hq (And.intro hND (And.intro hnd hsrt))))
  clear H L G hq hd hND hnd hsrt hN
  obtain ⟨ln, hln⟩ : ∃ ln, l.length = ln := ⟨_, rfl⟩
  rw [hln] at hl3 HH ⊢
  have HLN := hide hln
  clear hln
  go_enter Tryz.func35, Tryz.ntmps35
  go_wp2_with fail
  refine (unhide CT).mono ?_
  rintro y w2 ⟨nv, rfl, hnv, _, st2, o2⟩
  obtain ⟨na, nc, hns⟩ := ownsRow_shape hnv
  have G2 := (unhide HH).1.keep o2 (fun k hk => (unhide HH).2.1 k (.inl hk)) (fun k hk => (unhide HH).2.1 k (.inr hk))
  obtain ⟨m, hm⟩ : ∃ m, N.length = m := ⟨_, rfl⟩
  rw [hm] at hlen hns
  have HM := hide hm
  clear hm
  subst hns
  have HX := hide (And.intro st2 (And.intro o2 (And.intro hnv G2)))
  clear st2 o2 hnv G2 CT
  have HE := hide (fun (bb : Bool) (hb : KnX l (dbOf T) bb) (w9 : World) (o9 : Only (fun _ => False) w2 w9) => show KsP q w x op S (KnX l (dbOf T)) (.returned (.bool bb)) w9 from ⟨bb, rfl, hb, (unhide HX).1.quiet o9, (unhide HX).2.1.trans (o9.mono (fun _ _ e => e.elim)) (fun _ _ e => e)⟩)
  by_cases hml : m = ln
  · have d1 : ((m : Int) != (ln : Int)) = false := by rw [hml]; simp
    have d1n : (m != ln) = false := by rw [hml]; simp
    have HML := hide hml
    clear hml
    go_upto_region 5 with fail
    clear d1 d1n
    go_loopw [6] (fun iv wr => ∃ i : Nat, iv = .int .i64 i ∧ i ≤ m ∧ (∀ (j : Nat) (s : ByteArray), j < i → N[j]? = some s → ∃ e ∈ l, e.t.nm = s) ∧ Only (fun _ => False) w2 wr) (fun iv _ => m - (intOf iv).toNat)
    case atStart => exact ⟨0, rfl, Nat.zero_le _, fun j _ hj => by omega, Only.refl _ _⟩
    case round =>
      obtain ⟨i, rfl, hi, hT, oW⟩ := hrel
      have HT := hide hT
      clear hT
      by_cases hi2 : i < m
      · have a1 : decide ((i : Int) < (m : Int)) = true := decide_eq_true (by omega)
        have a1p : (i : Int) < (m : Int) := by omega
        obtain ⟨s, hs⟩ := getE (l := N) (i := i) (by rw [unhide HM]; exact hi2)
        have hown := (unhide HX).2.2.1
        have hown := ownsRow_keep hown oW (fun _ _ e => e)
        have hcells : ∀ (j : Nat) (u : ByteArray), N[j]? = some u → ∃ g, na = some ⟨g, 0, none⟩ ∧ wr.cell? ⟨g, j, none⟩ = some (.string u) := fun j u hu => by
          rcases hown.2 with ⟨he, h0⟩ | ⟨g, cap', cur, he, _⟩
          · have := (List.getElem?_eq_some_iff.mp hu).1
            omega
          · simp only [Value.slice.injEq] at he
            refine ⟨g, he.1, ?_⟩
            have := World.ownsRow.cells hown (g := g) (by rw [he.1]; rfl) j (.string u) (by rw [List.getElem?_map, hu]; rfl)
            rw [addr_add] at this
            exact this
        obtain ⟨g, rfl, c0⟩ := hcells i s hs
        have CG := hide (jgfind_any ((unhide HX).2.2.2.quiet oW) s)
        have HS := hide hs
        have HO2 := hide oW
        have HC := hide hcells
        clear hs oW hown hcells
        go_wp2_with fail
        refine (unhide CG).mono ?_
        rintro y w4 ⟨r, rfl, hr, rfl⟩
        clear CG
        rcases hr with ⟨rfl, hno⟩ | ⟨p, e, hp, rfl, hn⟩
        · have HP := hide (unhide HE false (KnX.no (fun pm => by
            rw [List.map_map] at pm
            have := pm.mem_iff.mpr (by rw [← (unhide HH).2.2.1]; exact List.mem_of_getElem? (unhide HS))
            obtain ⟨e, he, h⟩ := List.mem_map.mp this
            exact hno e he h)) wr (unhide HO2))
          clear hno
          go_wp2_with fail
          go_ret
          exact unhide HP
        · have dp : decide ((p : Int) < 0) = false := decide_eq_false (by omega)
          have HT2 := hide (show ∀ (j : Nat) (s' : ByteArray), j < i + 1 → N[j]? = some s' → ∃ e ∈ l, e.t.nm = s' from fun j s' hj hs' => by
            by_cases c : j = i
            · subst c
              rw [unhide HS] at hs'
              cases hs'
              exact ⟨e, List.mem_of_getElem? hp, hn⟩
            · exact unhide HT j s' (by omega) hs')
          clear hp hn
          by_cases h0 : i = 0
          · have d0 : decide ((i : Int) > 0) = false := decide_eq_false (by omega)
            have d0' : decide ((0 : Int) < (i : Int)) = false := decide_eq_false (by omega)
            go_upto_region 9 with fail
            go_cut [40] (fun zv wx => zv = .bool false ∧ Only (fun _ => False) wr wx)
            case first =>
              go_quiet (fail)
              go_wp2_with fail
              go_meet
              exact ⟨rfl, onlyQ _ _⟩
            case rest =>
            obtain ⟨rfl, o5⟩ := hcut
            have HO5 := hide ((unhide HO2).trans o5 (fun _ _ e => e))
            clear o5
            go_wp2_with fail
            go_roundw
            case rel => exact ⟨i + 1, by go_num, by omega, unhide HT2, unhide HO5⟩
            case measure => simp [intOf]; omega
          · have d0 : decide ((i : Int) > 0) = true := decide_eq_true (by omega)
            have d0' : decide ((0 : Int) < (i : Int)) = true := decide_eq_true (by omega)
            have d0n : decide (0 < i) = true := decide_eq_true (by omega)
            have hi8 : i ≤ 8 := by omega
            obtain ⟨kp, hkp⟩ : ∃ kp, i = kp + 1 := ⟨i - 1, by omega⟩
            have hkm : (kp : Int) < (m : Int) := by omega
            have hwj : IntKind.i64.wrap ((i : Int) - 1) = (kp : Int) := by rw [IntWalk.i64_in] <;> omega
            obtain ⟨s0, hs0⟩ := getE (l := N) (i := kp) (by rw [unhide HM]; omega)
            obtain ⟨g', hg', c1⟩ := unhide HC kp s0 hs0
            simp only [Option.some.injEq, Addr.mk.injEq] at hg'
            obtain ⟨rfl, _⟩ := hg'
            have f1 : Op.bytesLess s0.toList s.toList = true := by
              obtain ⟨l1, e1⟩ := List.getElem?_eq_some_iff.mp hs0
              obtain ⟨l2, e2⟩ := List.getElem?_eq_some_iff.mp (unhide HS)
              have := List.pairwise_iff_getElem.mp (unhide HH).2.2.2.2 kp i l1 l2 (by omega)
              rw [e1, e2] at this
              exact this
            clear hs0 h0 hkp
            go_upto_region 9 with fail
            go_cut [40] (fun zv wx => zv = .bool false ∧ Only (fun _ => False) wr wx)
            case first =>
              go_quiet (fail)
              go_wp2_with fail
              go_meet
              exact ⟨rfl, onlyQ _ _⟩
            case rest =>
            obtain ⟨rfl, o5⟩ := hcut
            have HO5 := hide ((unhide HO2).trans o5 (fun _ _ e => e))
            clear o5
            go_wp2_with fail
            go_roundw
            case rel => exact ⟨i + 1, by go_num, by omega, unhide HT2, unhide HO5⟩
            case measure => simp [intOf]; omega
      · obtain rfl : i = m := by omega
        have a1 : decide ((i : Int) < (i : Int)) = false := by simp
        have HP := hide (unhide HE true ⟨fun _ => by
          rw [← (unhide HH).2.2.1, List.map_map]
          refine (perm_of_sub (unhide HH).2.2.2.1 (fun s hs => ?_) (by rw [List.length_map, unhide HLN, unhide HM]; exact Nat.le_of_eq (unhide HML).symm)).symm
          obtain ⟨j, hj⟩ := List.getElem?_of_mem hs
          obtain ⟨e, he, h⟩ := unhide HT j s (by have := (List.getElem?_eq_some_iff.mp hj).1; rw [unhide HM] at this; exact this) hj
          exact List.mem_map.mpr ⟨e, he, h⟩, fun _ => rfl⟩ wr oW)
        clear oW
        go_wp2_with fail
        go_ret
        exact unhide HP
  · have d1 : ((m : Int) != (ln : Int)) = true := by simp; omega
    have d1n : (m != ln) = true := by simpa using hml
    have HP := hide (unhide HE false (KnX.no (fun pm => hml (by
      have := pm.length_eq
      rw [← (unhide HH).2.2.1] at this
      simp only [List.length_map] at this
      rw [unhide HLN, unhide HM] at this
      exact this.symm))) w2 (Only.refl _ _))
    clear hml
    go_wp2_with fail
    go_ret
    exact unhide HP
end
end Go.Proofs.Qxb6500413aGreat
