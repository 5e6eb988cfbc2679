/-
  OWN WORK. THE DEFINITIONS: Merge3; the model's Merge.
-/
import Derived.Test.Qxb6500416aDJnS
import Derived.Deep.RegionWith
namespace Go.Proofs.Qxb6500416a
open Go.RowKit Go.PlainAid
set_option linter.unusedSimpArgs false
set_option linter.unusedVariables false

theorem dsize_run (W : World) : (sizeOf 9).run Try.prog W = .ok 1 W := by
  obtain ⟨i, hi, hz, hs, hb⟩ := info_parts Try.infoStr
  simp [sizeOf, typeInfo, hi, hs]
theorem drun_slice_lh (a : Option Addr) (n c i j : Nat) (hij : i ≤ j) (hj : j ≤ c) (W : World) :
    (Instr.slice 49 (.slice a n c) (some (.int .i64 (i : Int))) (some (.int .i64 (j : Int))) none).run Try.prog W = .ok (.slice (if c = i then a else a.map (·.add (i * 1))) (j - i) (c - i)) W := by
  have hu := Try.underlying49
  have h1 : (j : Int) ≤ (c : Int) := by omega
  have h2 : (i : Int) ≤ (j : Int) := by omega
  simp [Instr.slice, run_underlying hu, Instr.sliceBounds, run_sliceBound, h1, h2, dsize_run]
theorem drun_slice_l (a : Option Addr) (n c i : Nat) (hi : i ≤ n) (W : World) :
    (Instr.slice 49 (.slice a n c) (some (.int .i64 (i : Int))) none none).run Try.prog W = .ok (.slice (if c = i then a else a.map (·.add (i * 1))) (n - i) (c - i)) W := by
  have hu := Try.underlying49
  have h1 : (i : Int) ≤ (n : Int) := by omega
  simp [Instr.slice, run_underlying hu, Instr.sliceBounds, run_sliceBound, h1, dsize_run]
theorem OwnL.cut {w : World} {v : Value} {L : List Str} (h : OwnL w v L) (i j : Nat) (hij : i ≤ j) (hj : j ≤ L.length) : ∃ v', (∀ W, (Instr.slice 49 v (some (.int .i64 (i : Int))) (some (.int .i64 (j : Int))) none).run Try.prog W = .ok v' W) ∧ LnS w v' (cutL L i j) ∧ (∃ a n c, v' = .slice a n c) := by
  have hl := cutL_len L i j hij hj
  rcases h.form with ⟨rfl, rfl⟩ | ⟨g, cap, rfl, hc, hm, hg, hcell⟩
  · simp at hj
    subst hj
    have : i = 0 := by omega
    subst this
    refine ⟨_, fun W => drun_slice_lh none 0 0 0 0 (by omega) (by omega) W, ⟨_, _, by rw [hl], fun h => by simp [cutL] at h⟩, ⟨_, _, _, rfl⟩⟩
  · refine ⟨_, fun W => drun_slice_lh (some ⟨g, 0, none⟩) L.length cap i j hij (by omega) W, ⟨_, _, by rw [hl], fun hn => ?_⟩, ⟨_, _, _, rfl⟩⟩
    rw [hl] at hn
    rw [if_neg (by omega)]
    refine ⟨g, i, by simp [addr_add], fun k hk => ?_⟩
    rw [hl] at hk
    rw [hcell (i + k) (by omega), cutL_get L i j k (by omega) (by omega)]
theorem OwnL.tail {w : World} {v : Value} {L : List Str} (h : OwnL w v L) (i : Nat) (hi : i ≤ L.length) : ∃ v', (∀ W, (Instr.slice 49 v (some (.int .i64 (i : Int))) none none).run Try.prog W = .ok v' W) ∧ LnS w v' (cutL L i L.length) ∧ (∃ a n c, v' = .slice a n c) := by
  have hl := cutL_len L i L.length hi (Nat.le_refl _)
  rcases h.form with ⟨rfl, rfl⟩ | ⟨g, cap, rfl, hc, hm, hg, hcell⟩
  · simp at hi
    subst hi
    refine ⟨_, fun W => drun_slice_l none 0 0 0 (by omega) W, ⟨_, _, by rw [hl]; rfl, fun h => by simp [cutL] at h⟩, ⟨_, _, _, rfl⟩⟩
  · refine ⟨_, fun W => drun_slice_l (some ⟨g, 0, none⟩) L.length cap i hi W, ⟨_, _, by rw [hl], fun hn => ?_⟩, ⟨_, _, _, rfl⟩⟩
    rw [hl] at hn
    rw [if_neg (by omega)]
    refine ⟨g, i, by simp [addr_add], fun k hk => ?_⟩
    rw [hl] at hk
    rw [hcell (i + k) (by omega), cutL_get L i L.length k (by omega) (by omega)]
def mergeTd (b o t : ByteArray) : Str := mgT (linesOf b) (linesOf o) (linesOf t) (mtc (linesOf b) (linesOf o) 0) (mtc (linesOf b) (linesOf t) 0) 0 0 0 0
def mergeNd (b o t : ByteArray) : Nat := mgN (linesOf b) (linesOf o) (linesOf t) (mtc (linesOf b) (linesOf o) 0) (mtc (linesOf b) (linesOf t) 0) 0 0 0 0
set_option maxRecDepth 100000 in
set_option maxHeartbeats 16000000 in
theorem merge3_any (b o t : ByteArray) (hb : b.size ≤ 1024) (ho : o.size ≤ 1024) (ht : t.size ≤ 1024) (w : World) :
    Calls Try.prog 51 #[.string b, .string o, .string t] w fun x w' => x = .returned (.tuple #[.string (sb (mergeTd b o t)), .int .i64 (mergeNd b o t : Nat)]) ∧ Only (fun _ => False) w w' := by
  have lb := linesOf_len b
  have lo := linesOf_len o
  have lt := linesOf_len t
  have fb := linesOf_flat b
  have fo := linesOf_flat o
  have ft := linesOf_flat t
  have C1 := hide (splitL_any b (by omega))
  have C2 := hide (splitL_any o (by omega))
  have C3 := hide (splitL_any t (by omega))
  have HT : Hid (mergeTd b o t = mgT (linesOf b) (linesOf o) (linesOf t) (mtc (linesOf b) (linesOf o) 0) (mtc (linesOf b) (linesOf t) 0) 0 0 0 0) := hide rfl
  have HM : Hid (mergeNd b o t = mgN (linesOf b) (linesOf o) (linesOf t) (mtc (linesOf b) (linesOf o) 0) (mtc (linesOf b) (linesOf t) 0) 0 0 0 0) := hide rfl
  generalize linesOf b = B at *
  generalize linesOf o = O at *
  generalize linesOf t = T at *
  generalize mergeTd b o t = RT at *
  generalize mergeNd b o t = RN at *
  go_enter Try.func51, Try.ntmps51
  go_wp2_with fail
  refine (unhide C1 w).mono ?_
  rintro r w1 ⟨vb, rfl, ob1, _, o1⟩
  go_wp2_with fail
  refine (unhide C2 w1).mono ?_
  rintro r w2 ⟨vo, rfl, oo2, _, o2⟩
  go_wp2_with fail
  refine (unhide C3 w2).mono ?_
  rintro r w3 ⟨vt, rfl, ot3, _, o3⟩
  have oo3 := oo2.keep o3 (fun _ _ h => h)
  have ob3 := (ob1.keep o2 (fun _ _ h => h)).keep o3 (fun _ _ h => h)
  have C4 := hide (amatch_any vb vo B O ob3.in_ oo3.in_ (by omega) (by omega))
  have C5 := hide (fun W (hW : Only (fun _ => False) w3 W) => amatch_any vb vt B T (ob3.keep hW (fun _ _ h => h)).in_ (ot3.keep hW (fun _ _ h => h)).in_ (by omega) (by omega))
  have O3 := hide ((o1.trans o2 (fun _ _ h => h)).trans o3 (fun _ _ h => h))
  have OB := hide ob3
  have OO := hide oo3
  have OT := hide ot3
  have hr1 := mtc_rise _ B O 0 (Nat.le_refl _)
  have hr2 := mtc_rise _ B T 0 (Nat.le_refl _)
  rw [Nat.zero_add] at hr1 hr2
  have M0 := hide (MgAt.start (mtc_len _ B O 0 (Nat.le_refl _)) (mtc_len _ B T 0 (Nat.le_refl _)) hr1 hr2)
  generalize mtc B O 0 = mo at *
  generalize mtc B T 0 = mt at *
  clear hr1 hr2 o1 o2 o3 ob1 oo2 ot3 oo3 ob3 C1 C2 C3
  go_wp2_with fail
  refine (unhide C4).mono ?_
  rintro r w4 ⟨gmo, rfl, hmo, _, o4⟩
  have C6 := hide (unhide C5 w4 o4)
  have HMO := hide hmo
  have O4 := hide o4
  clear hmo o4 C4 C5
  go_wp2_with fail
  refine (unhide C6).mono ?_
  rintro r w5 ⟨gmt, rfl, hmt, _, o5⟩
  have o35 := (unhide O4).trans o5 (fun _ _ h => h)
  have hmo := (unhide HMO).keep o5 (fun h => h)
  have OB5 := hide ((unhide OB).keep o35 (fun _ _ h => h))
  have OO5 := hide ((unhide OO).keep o35 (fun _ _ h => h))
  have OT5 := hide ((unhide OT).keep o35 (fun _ _ h => h))
  have O5 := hide ((unhide O3).trans o35 (fun _ _ h => h))
  have MO := hide hmo
  have MT := hide hmt
  obtain ⟨ba, bc, rfl⟩ := ownsRow_shape (unhide OB5).row
  clear o35 hmo hmt o5 OB OO OT O3 O4 HMO C6
  go_wp2_with fail
  go_loopw [13, 14, 15, 16, 17, 18] (fun ov nv bv ouv tv iv wr => ∃ (i bi oi ti n : Nat) (out : Str), ov = .string (sb out) ∧ nv = .int .i64 n ∧ bv = .int .i64 bi ∧ ouv = .int .i64 oi ∧ tv = .int .i64 ti ∧ iv = .int .i64 i ∧ MgAt B O T mo mt out n i bi oi ti ∧ Only (fun _ => False) w5 wr) (fun _ _ _ _ _ iv _ => B.length - (intOf iv).toNat)
  case atStart => exact ⟨0, 0, 0, 0, 0, [], rfl, rfl, rfl, rfl, rfl, rfl, unhide M0, Only.refl _ _⟩
  case round =>
    clear M0
    obtain ⟨i, bi, oi, ti, n, out, rfl, rfl, rfl, rfl, rfl, rfl, hM, hq⟩ := hrel
    have hbd := hM.bound
    have hol : out.length ≤ 100000 := by omega
    have hnl : n ≤ 2000 := by have := hM.nl; have := hM.il; omega
    have hbl := hM.bl
    have hoi := hM.ro.le
    have hti := hM.rt.le
    by_cases hi : i < B.length
    · have b1 : decide ((i : Int) < (B.length : Int)) = true := decide_eq_true (by omega)
      have b2 : (i : Int) < (B.length : Int) := by omega
      obtain ⟨h1, h2, hc⟩ := hM.cases hi
      have hmo := (unhide MO).keep hq (fun h => h)
      have hmt := (unhide MT).keep hq (fun h => h)
      have m0 := hmo.cell i h1
      have k0 := hmt.cell i h2
      have ml0 := Has.lt hmo
      have kl0 := Has.lt hmt
      rcases hc with ⟨hn, hco, hct, hM'⟩ | ⟨x', y', ex, ey, q1, q2, q3, q4, hM'⟩
      · have HM' := hide hM'
        have Hq := hide hq
        clear hM hM' hmo hmt hq
        rcases hco with e1 | ⟨k, e1, _⟩
        · rw [e1] at m0
          clear hn hct e1
          go_wp2_with fail
          go_roundw
          case rel => exact ⟨i + 1, bi, oi, ti, n, out, rfl, rfl, rfl, rfl, rfl, by go_num, unhide HM', unhide Hq⟩
          case measure => simp [intOf]; omega
        · rcases hct with e2 | ⟨k', e2, _⟩
          · rw [e1] at m0
            rw [e2] at k0
            have t1 : decide ((0 : Int) ≤ (k : Int)) = true := decide_eq_true (by omega)
            clear hn e1 e2
            go_wp2_with fail
            go_roundw
            case rel => exact ⟨i + 1, bi, oi, ti, n, out, rfl, rfl, rfl, rfl, rfl, by go_num, unhide HM', unhide Hq⟩
            case measure => simp [intOf]; omega
          · exact absurd ⟨by omega, by omega⟩ hn
      · rw [ex] at m0
        rw [ey] at k0
        have t1 : decide ((0 : Int) ≤ (x' : Int)) = true := decide_eq_true (by omega)
        have t2 : decide ((0 : Int) ≤ (y' : Int)) = true := decide_eq_true (by omega)
        have hBr := (unhide OB5).keep hq (fun _ _ h => h)
        have hOr := (unhide OO5).keep hq (fun _ _ h => h)
        have hTr := (unhide OT5).keep hq (fun _ _ h => h)
        obtain ⟨vo', so, lso, ⟨oa, on, oc, rfl⟩⟩ := hOr.cut oi x' q1 (by omega)
        obtain ⟨vt', st, lst, ⟨ta, tn, tc, rfl⟩⟩ := hTr.cut ti y' q3 (by omega)
        rcases hBr.form with ⟨_, e0⟩ | ⟨gl, lcap, el, hcp, hcm, hgll, hlc⟩
        · rw [e0] at hi; simp at hi
        · obtain ⟨rfl, rfl⟩ : ba = some ⟨gl, 0, none⟩ ∧ bc = lcap := by simpa using el
          have l0 := hlc i hi
          have hbi : B[i].length ≤ 1024 := by have := mem_flat_len (List.getElem_mem hi); omega
          have lsb : LnS wr (.slice (some ⟨gl, bi, none⟩) (i - bi) (bc - bi)) (cutL B bi i) := by
            have hl := cutL_len B bi i hbl (by omega)
            refine ⟨_, _, by rw [hl], fun hn => ⟨gl, bi, rfl, fun k hk => ?_⟩⟩
            rw [hl] at hk
            rw [hlc (bi + k) (by omega), cutL_get B bi i k (by omega) (by omega)]
          have oD := (Only.refl (fun _ => False) wr).drew
          have lco := cutL_len O oi x' q1 (by omega)
          have lct := cutL_len T ti y' q3 (by omega)
          have hpf : (cutL O oi x').flatten.length ≤ 1024 := by have := flat_take O oi x' q1; have := flat_take_le O x'; omega
          have hpf' : (cutL T ti y').flatten.length ≤ 1024 := by have := flat_take T ti y' q3; have := flat_take_le T y'; omega
          have C7 := hide (apiece_any _ _ _ _ _ _ (lsb.keep oD (fun _ _ h => h)) (lso.keep oD (fun _ _ h => h)) (lst.keep oD (fun _ _ h => h)) (by rw [lco]; omega) (by rw [lct]; omega) (by omega) (by omega))
          have hpl := pieceT_len (cutL B bi i) (cutL O oi x') (cutL T ti y')
          have hpn := pieceN_le (cutL B bi i) (cutL O oi x') (cutL T ti y')
          have hmoq := hmo.keep oD (fun h => h)
          have hmtq := hmt.keep oD (fun h => h)
          have HM' := hide hM'
          have Hq := hide hq
          have Hmo := hide hmo
          have Hmt := hide hmt
          have Hlc := hide (fun W (hW : Only (fun _ => False) wr W) => (World.cell?_of_block (a := ⟨gl, i, none⟩) (hW.block gl hgll (fun h => h))).trans l0)
          generalize pieceT (cutL B bi i) (cutL O oi x') (cutL T ti y') = PT at *
          generalize pieceN (cutL B bi i) (cutL O oi x') (cutL T ti y') = PN at *
          generalize B[i] = bx at *
          have k1 := cat_sb out PT (by omega)
          have k2 := cat_sb (out ++ PT) bx (by rw [List.length_append]; omega)
          rw [List.append_assoc] at k2
          have z1 : (0 : Int) ≤ (bi : Int) := by omega
          have z2 : (bi : Int) ≤ (i : Int) := by omega
          have z3 : (i : Int) ≤ (bc : Int) := by omega
          have z4 : ¬ bc = bi := by omega
          unfold maxLen at hcm
          have Hex := hide ex
          have Hey := hide ey
          clear hM hM' hmo hmt hq hBr hOr hTr lso lst lsb hlc el hmoq hmtq lco lct l0 ex ey
          go_upto_region 15 with fail
          go_cut [19, 20] (fun sv cv W => sv = .string (sb PT) ∧ cv = .int .i64 (PN : Nat) ∧ Only (fun _ => False) wr W)
          case first =>
            clear HM' Hq Hmo Hmt Hlc HT HM OB5 OO5 OT5 O5 MO MT k1 k2
            go_region_with (go_at_call 61; refine (unhide C7).mono ?_; rintro e w6 ⟨rfl, o6⟩)
            all_goals
              have o6' := hide (oD.trans o6 (fun _ _ h => h))
              clear o6
              go_wp2_with fail
              go_meet
              exact ⟨rfl, rfl, unhide o6'⟩
          case rest =>
          obtain ⟨rfl, rfl, o6⟩ := hcut
          generalize wc = W6 at *
          have l6 := unhide Hlc W6 o6
          have gl6 : gl < W6.heap.size := Nat.lt_of_lt_of_le hgll o6.size
          have hmo6 := (unhide Hmo).keep o6 (fun h => h)
          have hmt6 := (unhide Hmt).keep o6 (fun h => h)
          have m6 := hmo6.cell i h1
          have n6 := hmt6.cell i h2
          have e6 : mo[i] = (x' : Int) := unhide Hex
          have f6 : mt[i] = (y' : Int) := unhide Hey
          rw [e6] at m6
          rw [f6] at n6
          have ml6 := Has.lt hmo6
          have nl6 := Has.lt hmt6
          have Hq6 := hide ((unhide Hq).trans o6 (fun _ _ h => h))
          clear hmo6 hmt6 e6 f6 o6 m0 k0 C7 Hmo Hmt Hlc so st
          go_wp2_with fail
          go_roundw
          case rel => exact ⟨i + 1, i + 1, x' + 1, y' + 1, n + PN, _, rfl, by first | rfl | (congr 1; push_cast; rfl), by go_num, by go_num, by go_num, by go_num, unhide HM', unhide Hq6⟩
          case measure => simp [intOf]; omega
    · have b1 : decide ((i : Int) < (B.length : Int)) = false := decide_eq_false (by omega)
      obtain ⟨eT, eN, p1, p2, p3⟩ := hM.fin (by have := hM.il; omega)
      have hBr := (unhide OB5).keep hq (fun _ _ h => h)
      have hOr := (unhide OO5).keep hq (fun _ _ h => h)
      have hTr := (unhide OT5).keep hq (fun _ _ h => h)
      obtain ⟨vb', sb', lsb, ⟨xa, xn, xc, rfl⟩⟩ := hBr.tail bi p1
      obtain ⟨vo', so, lso, ⟨oa, on, oc, rfl⟩⟩ := hOr.tail oi p2
      obtain ⟨vt', st, lst, ⟨ta, tn, tc, rfl⟩⟩ := hTr.tail ti p3
      have oD := (Only.refl (fun _ => False) wr).drew
      have lco := cutL_len O oi O.length p2 (by omega)
      have lct := cutL_len T ti T.length p3 (by omega)
      have hpf : (cutL O oi O.length).flatten.length ≤ 1024 := by have := flat_take O oi O.length p2; have := flat_take_le O O.length; omega
      have hpf' : (cutL T ti T.length).flatten.length ≤ 1024 := by have := flat_take T ti T.length p3; have := flat_take_le T T.length; omega
      have C7 := hide (apiece_any _ _ _ _ _ _ (lsb.keep oD (fun _ _ h => h)) (lso.keep oD (fun _ _ h => h)) (lst.keep oD (fun _ _ h => h)) (by rw [lco]; omega) (by rw [lct]; omega) (by omega) (by omega))
      have hRT : RT = out ++ pieceT (cutL B bi B.length) (cutL O oi O.length) (cutL T ti T.length) := by rw [unhide HT]; exact eT
      have hRN : RN = n + pieceN (cutL B bi B.length) (cutL O oi O.length) (cutL T ti T.length) := by rw [unhide HM]; exact eN
      have hpn := pieceN_le (cutL B bi B.length) (cutL O oi O.length) (cutL T ti T.length)
      have hpl := pieceT_len (cutL B bi B.length) (cutL O oi O.length) (cutL T ti T.length)
      generalize pieceT (cutL B bi B.length) (cutL O oi O.length) (cutL T ti T.length) = PT at *
      generalize pieceN (cutL B bi B.length) (cutL O oi O.length) (cutL T ti T.length) = PN at *
      have k1 := cat_sb out PT (by omega)
      have HRT := hide hRT
      have HRN := hide hRN
      have Hq := hide hq
      clear hM hBr hOr hTr lsb lso lst eT eN hRT hRN lco lct hq
      go_upto_region 21 with fail
      generalize Value.slice ba B.length bc = vbb at *
      go_cut [21, 22] (fun sv cv W => sv = .string (sb PT) ∧ cv = .int .i64 (PN : Nat) ∧ Only (fun _ => False) wr W)
      case first =>
        clear Hq HT HM OB5 OO5 OT5 O5 MO MT k1 HRT HRN
        go_region_with (go_at_call 61; refine (unhide C7).mono ?_; rintro e w6 ⟨rfl, o6⟩)
        all_goals
          have o6' := hide (oD.trans o6 (fun _ _ h => h))
          clear o6
          go_wp2_with fail
          go_meet
          exact ⟨rfl, rfl, unhide o6'⟩
      case rest =>
      obtain ⟨rfl, rfl, o6⟩ := hcut
      generalize wc = W6 at *
      have HO := hide (((unhide O5).trans (unhide Hq) (fun _ _ h => h)).trans o6 (fun _ _ h => h))
      clear o6 C7 sb' so st
      go_wp2_with fail
      go_ret2
      rw [unhide HRT, unhide HRN]
      exact ⟨by first | rfl | (congr 3; push_cast; rfl), unhide HO⟩
end Go.Proofs.Qxb6500416a
