/-
  OWN WORK. THE TABLE LAW: Thrift.
-/
import Derived.Test.Qxb6500413aGreatYL6
namespace Go.Proofs.Qxb6500413aGreat
open Go.RowKit Go.PlainAid
set_option linter.unusedSimpArgs false
set_option linter.unusedVariables false

section
variable {q : Gnd} {w : World} {x z : Nat} {op opz : Bool} {S : Vu} {T : List (Tb × Hd)} {D Tz U : Db} {hist : Option Db} {Hz : Nat → Prop}
def ThP (w : World) (q : Gnd) (op : Bool) (S : Vu) (A D : Db) (e : Ending) (w' : World) : Prop := ∃ b, e = .returned (.bool b) ∧ (A = D → b = true) ∧ FV q w' op S ∧ Only q.S w w'
set_option maxRecDepth 100000 in
set_option maxHeartbeats 8000000 in
theorem thrift_any (A : FV q w op S) (L : Lay S T) (Y : YAt w z D Tz U hist opz Hz) (sep : ∀ k, Hz k → ¬ q.S k) : Calls Tryz.prog 57 #[jbV q.d q.f, .pointer (some ⟨z, 0, none⟩)] w (ThP w q op S (dbOf T) D) := by
  obtain ⟨o0, B0, A0, nb⟩ := A.box
  have Y0 := Y.quiet o0
  have hnl : (namesD D).length = D.length := by unfold namesD; rw [List.length_map]
  have hd3 := Y.ok.len
  have C1 := hide (ynames_any Y0)
  have HH := hide (And.intro A0 (And.intro L (And.intro Y0 (And.intro sep (And.intro (o0.toS (q := q)) (And.intro B0 nb))))))
  unfold jbC at C1 HH
  unfold jbV jbC
  clear o0 B0 A0 nb Y0 A L Y sep
  go_enter Tryz.func57, Tryz.ntmps57
  go_upto_region 2 with fail
  generalize w.alloc (.cells #[.pointer (some ⟨q.d, 0, none⟩), .pointer (some ⟨q.f, 0, none⟩)] 30) = w0 at *
  generalize hkb : w.heap.size = kb at *
  go_wp2_with fail
  refine (unhide C1).mono ?_
  rintro e w1 ⟨nv, rfl, G1⟩
  rw [hnl] at G1
  obtain ⟨na, nc, hnv⟩ := ownsRow_shape G1.own
  obtain ⟨n, hn⟩ : ∃ n, D.length = n := ⟨_, rfl⟩
  rw [hn] at hnv hd3 G1
  subst hnv
  have HN := hide hn
  have HG := hide G1
  have HD := hide (unhide HH).2.2.1.ok
  clear G1 C1 hn hnl
  go_upto_region 4 with fail
  go_loopw [5, 6, 8, 9, 10, 11, 12] (fun ev tv iv sv s2 rv s4 wr => ∃ i : Nat, iv = .int .i64 i ∧ i ≤ n ∧ ev = .int .i64 (entD (D.take i) : Nat) ∧ tv = .int .i64 (1 + treD (D.take i) : Nat) ∧ Only (fun _ => False) w1 wr) (fun _ _ iv _ _ _ _ _ => n - (intOf iv).toNat)
  case atStart => exact ⟨0, rfl, Nat.zero_le _, rfl, rfl, Only.refl _ _⟩
  case round =>
    obtain ⟨i, rfl, hi, rfl, rfl, oW⟩ := hrel
    obtain ⟨be, bt⟩ := ent_bound (unhide HD) i
    have o0W := (unhide HG).ho.trans oW (fun _ _ e => e)
    obtain ⟨E, hE⟩ : ∃ E, entD (D.take i) = E := ⟨_, rfl⟩
    obtain ⟨R, hR⟩ : ∃ R, treD (D.take i) = R := ⟨_, rfl⟩
    rw [hE] at be ⊢
    rw [hR] at bt ⊢
    by_cases hin : i < n
    · have e1 : decide ((i : Int) < (n : Int)) = true := decide_eq_true (by omega)
      have e1p : (i : Int) < (n : Int) := by omega
      obtain ⟨t, ht⟩ := getE (l := D) (i := i) (by rw [unhide HN]; exact hin)
      have hf := findD_mem (unhide HD) (List.mem_of_getElem? ht)
      have ok := (unhide HD).tb t (List.mem_of_getElem? ht)
      have RW := ownsRow_keep (unhide HG).own oW (fun _ _ e => e)
      obtain ⟨g, hg⟩ := own_slice RW (by omega)
      subst hg
      have cu := World.ownsRow.cells RW (g := g) rfl i (.string t.nm) (by unfold namesD; rw [List.getElem?_map, List.getElem?_map, ht]; rfl)
      rw [addr_add] at cu
      have C2 := yschema_any ((unhide HH).2.2.1.quiet o0W) t.nm
      have hsc : schD D t.nm = ⟨t.nm, t.cols, (t.pk : Int), ixI t.ix, 0⟩ := by unfold schD; rw [hf]
      rw [hsc] at C2
      have C2 := hide C2
      have hscan := scn_pk (unhide HD) hf
      have n3 := ok.n3
      have n8 := ok.len
      have HT := hide (And.intro (entD_take ht) (And.intro (treD_take ht) (And.intro hscan (And.intro hE hR))))
      have HO0 := hide (And.intro oW o0W)
      clear ht hf ok RW hsc hscan oW o0W hE hR
      go_wp2_with fail
      refine (unhide C2).mono ?_
      rintro e w2 ⟨cv, rfl, OC, nC, o2⟩
      obtain ⟨s1, t1, hs0⟩ := OC.shape
      obtain ⟨l1, hl1⟩ : ∃ l, t.cols.length = l := ⟨_, rfl⟩
      have hs1 : cv = .slice s1 l1 t1 := by rw [← hl1]; exact hs0
      clear hs0
      subst hs1
      rw [hl1] at n3
      have oA : Only (fun _ => False) w2 (w2.alloc (.cells #[.string t.nm, .slice s1 l1 t1, .int .i64 (t.pk : Int), .int .i64 (ixI t.ix)] 65)) := (Only.refl _ _).alloc _
      have A1 : Has (w2.alloc (.cells #[.string t.nm, .slice s1 l1 t1, .int .i64 (t.pk : Int), .int .i64 (ixI t.ix)] 65)) w2.heap.size #[.string t.nm, .slice s1 l1 t1, .int .i64 (t.pk : Int), .int .i64 (ixI t.ix)] 65 := Has.new _ _ _
      have o23 := o2.trans oA (fun _ _ e => e)
      have HS3 := hide (And.intro A1 (And.intro ((unhide HO0).1.trans o23 (fun _ _ e => e)) (And.intro ((unhide HO0).2.trans o23 (fun _ _ e => e)) (And.intro (cell_keep cu o23 (fun e => e)) hl1))))
      clear OC nC o2 oA A1 o23 C2 cu hl1
      go_upto_region 7 with fail
      generalize w2.alloc (.cells #[.string t.nm, .slice s1 l1 t1, .int .i64 (t.pk : Int), .int .i64 (ixI t.ix)] 65) = w3 at *
      generalize w2.heap.size = ka at *
      have a2 := (unhide HS3).1.cell 2
      simp at a2
      have cu := (unhide HS3).2.2.2.1
      have C3 := yscan_any ((unhide HH).2.2.1.quiet ((unhide HS3).2.2.1.drew)) t.nm (t.pk : Int) false false vZ vZ vZ_wf vZ_wf
      rw [show scnD D t.nm (t.pk : Int) (bndOf false vZ) (bndOf false vZ) = (t.rows, 0) from (unhide HT).2.2.1] at C3
      unfold bdA vZ at C3
      have C3 := hide C3
      obtain ⟨rn, hrn⟩ : ∃ rn, t.rows.length = rn := ⟨_, rfl⟩
      rw [hrn] at n8
      have HRN := hide hrn
      clear hrn
      go_cut [11, 12] (fun rv ev wx => (∃ ra rc, rv = .slice ra rn rc) ∧ ev = .int .i64 0 ∧ Only (fun _ => False) w3 wx)
      case first =>
        go_region_with (go_at_call 129; refine (unhide C3).mono ?_; rintro e w4 ⟨rv, Z, rfl, hZ, R4, hO4, n4, o4⟩; have HF := hide (And.intro (show ∃ ra rc, rv = .slice ra rn rc from by (obtain ⟨ra, rc, h⟩ := ownsRow_shape R4; have hl := congrArg List.length hZ; rw [List.length_map, unhide HRN] at hl; exact ⟨ra, rc, by rw [h, hl]⟩)) ((Only.refl (fun _ => False) w3).drew.trans o4 (fun _ _ e => e))); clear hZ R4 hO4 n4 o4)
        all_goals
          go_wp2_with fail
          go_meet
          exact ⟨(unhide HF).1, rfl, (unhide HF).2⟩
      case rest =>
      obtain ⟨⟨ra, rc, rfl⟩, rfl, o4⟩ := hcut
      generalize wc = w4 at *
      have K4 := (unhide HS3).1.keep o4 (fun e => e)
      have a1 := K4.cell 1
      have a3 := K4.cell 3
      simp at a1 a3
      have HO4 := hide ((unhide HS3).2.1.trans o4 (fun _ _ e => e))
      clear o4 C3 a2 cu K4
      have eb : (E : Int) ≤ 100 := by omega
      have rb : (R : Int) ≤ 100 := by omega
      have lb : (l1 : Int) ≤ 3 := by omega
      have nb8 : (rn : Int) ≤ 8 := by omega
      by_cases hix : t.ix.isSome = true
      · have hx0 : 0 ≤ ixI t.ix := by
          cases h : t.ix with
          | none => rw [h] at hix; cases hix
          | some c => simp [ixI]
        have hET : entT t = 1 + l1 + rn + rn := by unfold entT; rw [if_pos hix, (unhide HS3).2.2.2.2, unhide HRN]
        have hTT : treT t = 2 := by unfold treT; rw [if_pos hix]
        have HX := hide (show entD (D.take (i + 1)) = E + (1 + l1 + rn) + rn ∧ treD (D.take (i + 1)) = R + 2 from ⟨by rw [(unhide HT).1, (unhide HT).2.2.2.1, hET]; omega, by rw [(unhide HT).2.1, (unhide HT).2.2.2.2, hTT]⟩)
        have d3 : decide (ixI t.ix ≥ 0) = true := decide_eq_true hx0
        have d3' : decide (0 ≤ ixI t.ix) = true := decide_eq_true hx0
        generalize ixI t.ix = xx at *
        clear hx0 hET hTT hix
        go_wp2_with fail
        go_roundw
        case rel => exact ⟨i + 1, by go_num, by omega, by rw [(unhide HX).1]; go_num, by rw [(unhide HX).2]; go_num, unhide HO4⟩
        case measure => simp [intOf]; omega
      · have hx0 : ¬ 0 ≤ ixI t.ix := by
          cases h : t.ix with
          | none => simp [ixI]
          | some c => rw [h] at hix; simp at hix
        have hET : entT t = 1 + l1 + rn := by unfold entT; rw [if_neg hix, (unhide HS3).2.2.2.2, unhide HRN]; omega
        have hTT : treT t = 1 := by unfold treT; rw [if_neg hix]
        have HX := hide (show entD (D.take (i + 1)) = E + (1 + l1 + rn) ∧ treD (D.take (i + 1)) = R + 1 from ⟨by rw [(unhide HT).1, (unhide HT).2.2.2.1, hET], by rw [(unhide HT).2.1, (unhide HT).2.2.2.2, hTT]⟩)
        have d3 : decide (ixI t.ix ≥ 0) = false := decide_eq_false hx0
        have d3' : decide (0 ≤ ixI t.ix) = false := decide_eq_false hx0
        generalize ixI t.ix = xx at *
        clear hx0 hET hTT hix
        go_wp2_with fail
        go_roundw
        case rel => exact ⟨i + 1, by go_num, by omega, by rw [(unhide HX).1]; go_num, by rw [(unhide HX).2]; go_num, unhide HO4⟩
        case measure => simp [intOf]; omega
    · obtain rfl : i = n := by omega
      have e1 : decide ((i : Int) < (i : Int)) = false := by simp
      have AW := (unhide HH).1.quiet o0W
      have KW := (unhide HH).2.2.2.2.2.1.keep o0W (fun e => e)
      have k0 := KW.cell 0
      have k1 := KW.cell 1
      simp at k0 k1
      have C5 := entries_any AW
      unfold jbV jbC at C5
      have C5 := hide C5
      rw [List.take_of_length_le (by rw [unhide HN]; omega)] at hE hR
      have HW := hide (And.intro KW (And.intro ((unhide HH).2.2.2.2.1.andS o0W) (And.intro hE hR)))
      obtain ⟨c, hc⟩ : ∃ c, (al8 S).length = c := ⟨_, rfl⟩
      rw [hc] at C5
      have HC := hide hc
      clear AW KW oW o0W hE hR hc
      go_wp2_with fail
      refine (unhide C5).mono ?_
      rintro e w5 ⟨rfl, A5, o5⟩
      have K5 := (unhide HW).1.keep o5 (unhide HH).2.2.2.2.2.2
      have HW5 := hide (And.intro A5 ((unhide HW).2.1.ss o5))
      have k0 := K5.cell 0
      have k1 := K5.cell 1
      simp at k0 k1
      have C6 := trees_any A5
      unfold jbV jbC at C6
      have C6 := hide C6
      clear A5 o5 K5 C5
      by_cases hce : c = E
      · have d1 : ((c : Int) != (E : Int)) = false := by rw [hce]; simp
        have d1' : (c != E) = false := by rw [hce]; simp
        obtain ⟨m, hm⟩ : ∃ m, (usd S).length = m := ⟨_, rfl⟩
        rw [hm] at C6
        have HM := hide hm
        clear hce hm
        go_wp2_with fail
        refine (unhide C6).mono ?_
        rintro e w6 ⟨rfl, A6, o6⟩
        have HP := hide (show ThP w q op S (dbOf T) D (.returned (.bool ((m : Int) == ((1 + R : Nat) : Int)))) w6 from ⟨_, rfl, fun h => by
          have h1 := (unhide HH).2.1.tre
          rw [unhide HM, h, (unhide HW).2.2.2] at h1
          rw [h1]
          simp, A6, (unhide HW5).2.ss o6⟩)
        clear A6 o6 C6 k0 k1
        go_wp2_with fail
        go_ret
        first
          | exact unhide HP
          | (obtain ⟨b, hb, h1, h2⟩ := unhide HP; refine ⟨b, ?_, h1, h2⟩; rw [← hb]; simp)
      · have d1 : ((c : Int) != (E : Int)) = true := by simp; omega
        have d1' : (c != E) = true := by simpa using hce
        have HP := hide (show ThP w q op S (dbOf T) D (.returned (.bool false)) w5 from ⟨false, rfl, fun h => absurd (by rw [← unhide HC, (unhide HH).2.1.ent, h]; exact (unhide HW).2.2.1) hce, (unhide HW5).1, (unhide HW5).2⟩)
        clear hce C6 k0 k1
        go_wp2_with fail
        go_ret
        exact unhide HP
end
end Go.Proofs.Qxb6500413aGreat
