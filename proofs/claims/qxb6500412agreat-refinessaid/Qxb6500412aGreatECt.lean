/-
  OWN WORK. TABLE: CreateTable. (written by tools/gen_ect.py)
-/
import Derived.Test.Qxb6500412aGreatEOb
import Derived.Test.Qxb6500412aGreatELk
namespace Go.Proofs.Qxb6500412aGreat
open Go.RowKit Go.PlainAid
set_option linter.unusedSimpArgs false
set_option linter.unusedVariables false

section
variable {q : Gnd} {w : World} {x : Nat} {op : Bool} {S S1 : Vu} {T : List (Tb × Hd)} {t : Tb} {h : Hd}
/-- With OK the trees hold a database D'; else nothing has turned. -/
structure DbP (q : Gnd) (w : World) (x : Nat) (S : Vu) (D' : Db) (Z : Int) (w' : World) : Prop where
  no : Z ≠ 0 → ST q w' x true S
  yes : Z = 0 → ∃ S' T', ST q w' x true S' ∧ Lay S' T' ∧ dbOf T' = D'
  on : Only q.S w w'
theorem OpP.db {T' : List (Tb × Hd)} {Z : Int} {w' : World} (h : OpP q w x S T' Z w') : DbP q w x S (dbOf T') Z w' := ⟨h.no, fun e => by obtain ⟨S', a, b⟩ := h.yes e; exact ⟨S', T', a, b, rfl⟩, h.on⟩
theorem DbP.same {D' : Db} {Z : Int} {w' : World} (hz : Z ≠ 0) (st : ST q w' x true S) (on : Only q.S w w') : DbP q w x S D' Z w' := ⟨fun _ => st, fun e => absurd e hz, on⟩
theorem DbP.turn {S' : Vu} {T' : List (Tb × Hd)} {D' : Db} {Z : Int} {w' : World} (hz : Z = 0) (st : ST q w' x true S') (L : Lay S' T') (e : dbOf T' = D') (on : Only q.S w w') : DbP q w x S D' Z w' := ⟨fun e => absurd hz e, fun _ => ⟨S', T', st, L, e⟩, on⟩
def newT (nm : ByteArray) (cols : List Cl) (pk : Nat) : Tb := ⟨nm, cols, pk, none, []⟩
def newH (cols : List Cl) (pk i : Nat) : Hd := ⟨cols.length, pk, none, i, none⟩
theorem newT_ok {nm : ByteArray} {cols : List Cl} {pk : Nat} (hn : gdN nm) (hc : GdC cols (pk : Int)) : TbOk (newT nm cols pk) :=
  ⟨hn, hc, (fun c e => nomatch e), (fun r hr => by simp [newT] at hr), List.Pairwise.nil, (by simp [newT])⟩
theorem newH_ok {nm : ByteArray} {cols : List Cl} {pk i : Nat} (hc : GdC cols (pk : Int)) (h1 : 1 ≤ i) (h8 : i < 8) : HdFor (newT nm cols pk, newH cols pk i) := by
  have a1 := hc.1.1
  have a2 := hc.1.2.1
  have a3 := hc.1.2.2.2
  exact ⟨rfl, rfl, rfl, ⟨a1, a2, (by show pk < cols.length; omega), (fun c e => nomatch e), h1, h8, (fun c e => nomatch e), (by simp [newH])⟩⟩
theorem Lay.c50 (L : Lay S T) (h : T.length < 3) : (al8 S).length ≤ 50 ∧ (hands T).length < 7 := by
  have h1 := L.cnt
  have h2 := L.clen
  have h3 := hands_len (T := T)
  omega
set_option maxRecDepth 100000 in
set_option maxHeartbeats 8000000 in
theorem ecreateT_shut (H : ST q w x false S) (nm : ByteArray) (cv : Value) (pk : Int) : Calls Tryz.prog 167 #[.pointer (some ⟨x, 0, none⟩), .string nm, cv, .int .i64 pk] w fun e w' => e = .returned (.int .i64 2) ∧ ST q w' x false S ∧ Only q.S w w' := by
  have c1 := H.c0
  have CI := hide (eintxn_any H)
  have HO := hide (show ST q w x false S ∧ Only q.S w w from ⟨H, Only.refl _ _⟩)
  clear H
  go_enter Tryz.func167, Tryz.ntmps167
  go_wp2_with fail
  refine (unhide CI).mono ?_
  rintro e w1 ⟨rfl, rfl⟩
  go_wp2_with fail
  go_ret
  exact ⟨rfl, unhide HO⟩
set_option maxRecDepth 100000 in
set_option maxHeartbeats 8000000 in
theorem ecreateT_open (H : ST q w x true S) (L : Lay S T) (nm : ByteArray) {cv : Value} {cols : List Cl} (hc : OwnC w cv cols) (hcq : ∀ k, cv.ownBlock = some k → ¬ q.S k) (hc4 : cols.length ≤ 100) (pk : Int) (Z : Int) (hZ : (crtD (dbOf T) nm cols pk).2 = Z) (D' : Db) (hD : (crtD (dbOf T) nm cols pk).1 = D') : Calls Tryz.prog 167 #[.pointer (some ⟨x, 0, none⟩), .string nm, cv, .int .i64 pk] w fun e w' => e = .returned (.int .i64 Z) ∧ DbP q w x S D' Z w' := by
  have c1 := H.c0
  have CI := hide (eintxn_any H)
  have CN := eGoodName_any nm w
  have CG := eGoodCols_any hc pk
  have HZ := hide (And.intro hZ hD)
  have HL := hide L
  have HC := hide (And.intro hc hcq)
  obtain ⟨a, cap, rfl⟩ := hc.shape
  have H0 := H
  clear H L hc hcq hZ hD
  by_cases h1 : gdN nm
  · rw [decide_eq_true h1] at CN
    have CN := hide CN
    by_cases h2 : GdC cols pk
    · rw [decide_eq_true h2] at CG
      have CG := hide CG
      obtain ⟨p, rfl⟩ : ∃ p : Nat, pk = (p : Int) := ⟨pk.toNat, by have := h2.1.2.2.1; omega⟩
      cases hf : findD (dbOf T) nm with
      | some t =>
        obtain ⟨h, hx, rfl⟩ := find_some hf
        have CL := hide (fun w1 (H1 : ST q w1 x true S) => eload_yes H1 (unhide HL) hx)
        have HF0 := hide (show (11 : Int) = Z from by rw [← (unhide HZ).1]; unfold crtD; rw [if_neg (fun k => k h1), if_neg (fun k => k h2), hf])
        clear h1 h2 hf hx
        go_enter Tryz.func167, Tryz.ntmps167
        go_wp2_with fail
        refine (unhide CI).mono ?_
        rintro e w1 ⟨rfl, rfl⟩
        go_wp2_with fail
        refine (unhide CN).mono ?_
        rintro e w1 ⟨rfl, rfl⟩
        go_wp2_with fail
        refine (unhide CG).mono ?_
        rintro e w1 ⟨rfl, o1⟩
        have CL1 := hide (unhide CL w1 (H0.quiet o1))
        have O1 := hide o1
        clear o1 CL CG CN CI
        go_wp2_with fail
        refine (unhide CL1).mono ?_
        rintro e w2 ⟨cv2, rfl, hc2, nc2, st2, o2⟩
        obtain ⟨ca, cc, rfl⟩ := hc2.shape
        have HF := hide (show DbP q w x S D' Z ((w2.alloc (.cells (hdC h) 275)).alloc (.cells (scC t.nm (.slice ca t.cols.length cc) (t.pk : Int) (ixI t.ix)) 79)) from DbP.same (by rw [← unhide HF0]; decide) (st2.quiet (((Only.refl _ w2).alloc _).alloc _)) ((((unhide O1).toS (q := q)).ss o2).andS (((Only.refl _ w2).alloc _).alloc _)))
        clear hc2 nc2 st2 o2 CL1
        unfold hdC scC at HF
        unfold hdC scC
        go_wp2_with fail
        go_ret
        exact ⟨by rw [← unhide HF0]; rfl, unhide HF⟩
      | none =>
        have hno := find_none hf
        have CL := hide (fun w1 (H1 : ST q w1 x true S) => eload_no H1 (unhide HL) hno)
        have CT := hide (fun w1 (H1 : ST q w1 x true S) => etables_any H1 (unhide HL))
        have HB := hide (And.intro h1 (And.intro h2 (And.intro hno hf)))
        clear h1 h2 hf hno
        go_enter Tryz.func167, Tryz.ntmps167
        go_wp2_with fail
        refine (unhide CI).mono ?_
        rintro e w1 ⟨rfl, rfl⟩
        go_wp2_with fail
        refine (unhide CN).mono ?_
        rintro e w1 ⟨rfl, rfl⟩
        go_wp2_with fail
        refine (unhide CG).mono ?_
        rintro e w1 ⟨rfl, o1⟩
        have CL1 := hide (unhide CL w1 (H0.quiet o1))
        have O1 := hide o1
        clear o1 CL CG CN CI c1
        go_wp2_with fail
        refine (unhide CL1).mono ?_
        rintro e w2 ⟨rfl, st2, o2⟩
        have S3 := hide (show ST q ((w2.alloc (.cells hdZ 275)).alloc (.cells scN 79)) x true S ∧ Only q.S w ((w2.alloc (.cells hdZ 275)).alloc (.cells scN 79)) from ⟨st2.quiet (((Only.refl _ w2).alloc _).alloc _), (((unhide O1).toS (q := q)).ss o2).andS (((Only.refl _ w2).alloc _).alloc _)⟩)
        clear st2 o2 CL1 O1
        unfold hdZ scN at S3
        unfold hdZ scN
        go_upto_region 12 with fail
        generalize (w2.alloc (.cells #[.int .i64 0, .int .i64 0, .int .i64 0, .int .i64 0, .int .i64 0] 275)).alloc (.cells #[.string ⟨#[]⟩, .slice none 0 0, .int .i64 0, .int .i64 (-1)] 79) = w3 at *
        have CT1 := hide (unhide CT w3 (unhide S3).1)
        clear CT
        go_wp2_with fail
        refine (unhide CT1).mono ?_
        rintro e w4 ⟨nv, rfl, hnv, nnv, st4, o4⟩
        obtain ⟨na, nc, rfl⟩ : ∃ a c, nv = .slice a T.length c := by obtain ⟨a, c, e⟩ := ownsRow_shape hnv; exact ⟨a, c, by rw [e]; simp⟩
        have S4 := hide (show ST q w4 x true S ∧ Only q.S w w4 from ⟨st4, (unhide S3).2.ss o4⟩)
        clear hnv nnv st4 o4 CT1 S3
        by_cases h3 : 3 ≤ T.length
        · have b3 : decide ((T.length : Int) ≥ 3) = true := decide_eq_true (by omega)
          have b3' : decide (3 ≤ (T.length : Int)) = true := decide_eq_true (by omega)
          have b3n : decide (3 ≤ T.length) = true := decide_eq_true h3
          have HF0 := hide (show (6 : Int) = Z from by rw [← (unhide HZ).1]; unfold crtD; rw [if_neg (fun k => k (unhide HB).1), if_neg (fun k => k (unhide HB).2.1), (unhide HB).2.2.2]; simp only; rw [if_pos (by rw [db_len]; exact h3)])
          clear h3
          go_wp2_with fail
          go_ret
          exact ⟨by rw [← unhide HF0]; rfl, DbP.same (by rw [← unhide HF0]; decide) (unhide S4).1 (unhide S4).2⟩
        · have b3 : decide ((T.length : Int) ≥ 3) = false := decide_eq_false (by omega)
          have b3' : decide (3 ≤ (T.length : Int)) = false := decide_eq_false (by omega)
          have b3n : decide (3 ≤ T.length) = false := decide_eq_false h3
          have HF0 := hide (show (0 : Int) = Z ∧ putT (newT nm cols p) (dbOf T) = D' from by
            have e : crtD (dbOf T) nm cols (p : Int) = (putT (newT nm cols p) (dbOf T), 0) := by unfold crtD; rw [if_neg (fun k => k (unhide HB).1), if_neg (fun k => k (unhide HB).2.1), (unhide HB).2.2.2]; simp only; rw [if_neg (by rw [db_len]; exact h3)]; rfl
            rw [← (unhide HZ).1, ← (unhide HZ).2, e]
            exact ⟨rfl, rfl⟩)
          obtain ⟨hc50, hh7⟩ := (unhide HL).c50 (by omega)
          obtain ⟨i, hlow, hi1, hi8, hi0, hnew⟩ := (unhide HL).low hh7
          have HM := hide (show CMid S T (newT nm cols p, newH cols p i) i 0 (updV S i (some [])) from CMid.start (unhide HL) hi1 hi8 hi0)
          have HBI := hide (And.intro hc50 (And.intro hi1 (And.intro hi8 (And.intro hi0 (show T.length < 3 by omega)))))
          have CC := hide (ecreate_any (unhide S4).1 hnew)
          have c4 := (unhide S4).1.c0
          clear hc50 hh7 hlow hi0 hnew h3 hi1 hi8
          go_wp2_with fail
          refine (unhide CC).mono ?_
          rintro e w5 ⟨rfl, st5, o5⟩
          have S5 := hide (show ST q w5 x true (updV S i (some [])) ∧ Only q.S w w5 from ⟨st5, (unhide S4).2.ss o5⟩)
          have CK := hide (fun i (hi : i < 256) w => ecatKey_any nm i (unhide HB).1.2 hi w)
          have CK0 := hide (unhide CK 0 (by omega) w5)
          clear st5 o5 CC c4 S4
          go_wp2_with fail
          refine (unhide CK0).mono ?_
          rintro e w6 ⟨rfl, o6⟩
          have S6 := hide (show ST q w6 x true (updV S i (some [])) ∧ Only q.S w w6 from ⟨(unhide S5).1.quiet o6, (unhide S5).2.andS o6⟩)
          have CH := eheadText_any (newH cols p i) (newH_ok (nm := nm) (unhide HB).2.1 (unhide HBI).2.1 (unhide HBI).2.2.1).ok w6
          unfold hdA newH at CH
          simp only [ixI] at CH
          have CH := hide CH
          obtain ⟨R1, hp1, hM1⟩ := (unhide HM).step (unhide HL) (newT_ok (unhide HB).1 (unhide HB).2.1) (unhide HB).2.2.1 (Nat.zero_le _) (unhide HBI).1 (unhide HBI).2.1
          have hp1 : putS (updV S i (some [])) 0 (catK nm 0) (hdT ⟨cols.length, p, none, i, none⟩) = (R1, 0) := hp1
          have HM1 := hide (And.intro hp1 hM1)
          clear o6 CK0 S5 hp1 hM1 HM
          generalize catK nm 0 = K0 at *
          go_wp2_with fail
          refine (unhide CH).mono ?_
          rintro e w7 ⟨rfl, o7⟩
          have S7 := hide (show ST q w7 x true (updV S i (some [])) ∧ Only q.S w w7 from ⟨(unhide S6).1.quiet o7, (unhide S6).2.andS o7⟩)
          have CP := hide (eput_any (unhide S7).1 (unhide HM1).1)
          have c7 := (unhide S7).1.c0
          clear o7 CH S6
          go_wp2_with fail
          refine (unhide CP).mono ?_
          rintro e w8 ⟨rfl, st8, o8⟩
          have S8 := hide (show ST q w8 x true R1 ∧ Only q.S w w8 from ⟨st8, (unhide S7).2.ss o8⟩)
          have CFo := hide (efold_ok w8)
          clear st8 o8 CP c7 S7
          go_wp2_with fail
          refine (unhide CFo).mono ?_
          rintro e wf ⟨rfl, rfl⟩
          clear CFo
          have c3 : cols.length ≤ 3 := (unhide HB).2.1.1.2.1
          go_upto_region 20 with fail
          go_loopw [11, 13, 14, 15, 16] (fun ev kv vv gv iv wr => ∃ (c : Nat) (R : Vu), ev = .int .i64 0 ∧ iv = .int .i64 c ∧ c ≤ cols.length ∧ CMid S T (newT nm cols p, newH cols p i) i (1 + c) R ∧ ST q wr x true R ∧ Only q.S w wr) (fun _ _ _ _ iv _ => cols.length - (intOf iv).toNat)
          case atStart => exact ⟨0, R1, rfl, rfl, Nat.zero_le _, (unhide HM1).2, unhide S8⟩
          case round =>
            clear S8 HM1
            obtain ⟨c, R, rfl, rfl, hcl, M, st, on⟩ := hrel
            by_cases hc2 : c < cols.length
            · have a1 : decide ((c : Int) < (cols.length : Int)) = true := decide_eq_true (by omega)
              have a1p : (c : Int) < (cols.length : Int) := by omega
              obtain ⟨cl, hcl2⟩ := getE hc2
              obtain ⟨gc, cap2, hce, e0, e1⟩ := getc_at ((unhide HC).1.keep on (unhide HC).2) hcl2
              simp only [Value.slice.injEq] at hce
              obtain ⟨rfl, _, rfl⟩ := hce
              obtain ⟨R3, hp3, M3⟩ := M.step (unhide HL) (newT_ok (unhide HB).1 (unhide HB).2.1) (unhide HB).2.2.1 (by show 1 + c ≤ cols.length; omega) (unhide HBI).1 (unhide HBI).2.1
              have hpt : part (newT nm cols p, newH cols p i) (1 + c) = colT cl := by
                unfold part
                rw [if_neg (by omega), show 1 + c - 1 = c by omega]
                show colT (cols[c]?.getD _) = _
                rw [hcl2]
                rfl
              rw [hpt] at hp3
              have hp3 : putS R 0 (catK nm (1 + c)) (colT cl) = (R3, 0) := hp3
              have i1 : (1 : Int) + (c : Int) = ((1 + c : Nat) : Int) := by omega
              have CK1 := unhide CK (1 + c) (by omega) wr
              rw [← i1] at CK1
              have CK1 := hide CK1
              have CT := fun w => ecolText_any cl ((unhide HB).2.1.2.1 cl (List.mem_of_getElem? hcl2)).2 w
              unfold colA at CT
              have CT := hide CT
              have HM3 := hide (And.intro hp3 (And.intro M3 (And.intro st on)))
              clear M st on hp3 M3 hpt hcl2 i1
              go_wp2_with fail
              refine (unhide CK1).mono ?_
              rintro e w9 ⟨rfl, o9⟩
              have S9 := hide (show ST q w9 x true R ∧ Only q.S w w9 from ⟨(unhide HM3).2.2.1.quiet o9, (unhide HM3).2.2.2.andS o9⟩)
              have d0 := o9.cellF e0
              have d1 := o9.cellF e1
              have CT9 := hide (unhide CT w9)
              clear o9 CK1 e0 e1
              generalize catK nm (1 + c) = K1 at *
              go_wp2_with fail
              refine (unhide CT9).mono ?_
              rintro e w10 ⟨rfl, o10⟩
              have S10 := hide (show ST q w10 x true R ∧ Only q.S w w10 from ⟨(unhide S9).1.quiet o10, (unhide S9).2.andS o10⟩)
              have CP := hide (eput_any (unhide S10).1 (unhide HM3).1)
              have c10 := (unhide S10).1.c0
              clear o10 CT9 S9 d0 d1
              go_wp2_with fail
              refine (unhide CP).mono ?_
              rintro e w11 ⟨rfl, st11, o11⟩
              have S11 := hide (show ST q w11 x true R3 ∧ Only q.S w w11 from ⟨st11, (unhide S10).2.ss o11⟩)
              have CFo := hide (efold_ok w11)
              clear st11 o11 CP c10 S10
              go_wp2_with fail
              refine (unhide CFo).mono ?_
              rintro e wf ⟨rfl, rfl⟩
              clear CFo
              go_wp2_with fail
              go_roundw
              case rel => exact ⟨c + 1, R3, rfl, by go_num, by omega, by have := (unhide HM3).2.1; rw [show 1 + (c + 1) = 1 + c + 1 by omega]; exact this, unhide S11⟩
              case measure => simp [intOf]; omega
            · obtain rfl : c = cols.length := by omega
              have a1 : decide ((cols.length : Int) < (cols.length : Int)) = false := by simp
              have HF := hide (show DbP q w x S D' Z wr from by
                have LL := CMid.done M (unhide HL) (newT_ok (unhide HB).1 (unhide HB).2.1) (newH_ok (unhide HB).2.1 (unhide HBI).2.1 (unhide HBI).2.2.1) (unhide HB).2.2.1 (unhide HBI).2.2.2.2 (unhide HBI).2.2.2.1 (unhide HBI).2.1 rfl rfl rfl
                exact DbP.turn (unhide HF0).1.symm st LL (by rw [db_put]; exact (unhide HF0).2) on)
              clear M st on
              go_wp2_with fail
              go_ret
              exact ⟨by rw [← (unhide HF0).1]; rfl, unhide HF⟩
    · rw [decide_eq_false h2] at CG
      have CG := hide CG
      have HF0 := hide (show (13 : Int) = Z from by rw [← (unhide HZ).1]; unfold crtD; rw [if_neg (fun k => k h1), if_pos h2])
      clear h1 h2
      go_enter Tryz.func167, Tryz.ntmps167
      go_wp2_with fail
      refine (unhide CI).mono ?_
      rintro e w1 ⟨rfl, rfl⟩
      go_wp2_with fail
      refine (unhide CN).mono ?_
      rintro e w1 ⟨rfl, rfl⟩
      go_wp2_with fail
      refine (unhide CG).mono ?_
      rintro e w1 ⟨rfl, o1⟩
      have HF := hide (DbP.same (D' := D') (show Z ≠ 0 by rw [← unhide HF0]; decide) (H0.quiet o1) o1.toS)
      clear o1
      go_wp2_with fail
      go_ret
      exact ⟨by rw [← unhide HF0]; rfl, unhide HF⟩
  · rw [decide_eq_false h1] at CN
    have CN := hide CN
    have HF0 := hide (show (12 : Int) = Z from by rw [← (unhide HZ).1]; unfold crtD; rw [if_pos h1])
    clear h1 CG
    go_enter Tryz.func167, Tryz.ntmps167
    go_wp2_with fail
    refine (unhide CI).mono ?_
    rintro e w1 ⟨rfl, rfl⟩
    go_wp2_with fail
    refine (unhide CN).mono ?_
    rintro e w1 ⟨rfl, rfl⟩
    have HF := hide (DbP.same (D' := D') (show Z ≠ 0 by rw [← unhide HF0]; decide) H0 (Only.refl _ _))
    go_wp2_with fail
    go_ret
    exact ⟨by rw [← unhide HF0]; rfl, unhide HF⟩
end
end Go.Proofs.Qxb6500412aGreat
