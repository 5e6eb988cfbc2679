/-
  OWN WORK. THE TABLE LAW's GHOST: DueSchema of a CreateIndex.
-/
import Derived.Test.Qxb6500413aGreatJH2
namespace Go.Proofs.Qxb6500413aGreat
open Go.RowKit Go.PlainAid
set_option linter.unusedSimpArgs false
set_option linter.unusedVariables false

section
variable {w w' : World} {g : Nat} {cv mv cv' : Value} {cl ml cl' : List GE} {op : Bool} {kind a : Int} {s T : ByteArray} {D : Db}
theorem dueD6 {t0 : Tb} {z : Int} {e : GE} (d : DOk D) (hf : findD D s = some t0) (hg : GT e.t t0) (hz : cixR e.t a = (e.t, z)) (z0 : z ≠ 0) : dueD 6 a s T D = (D, z) := by
  have h2 : (cixR t0 a).2 = z := by
    have : (cixR e.t a).2 = z := by rw [hz]
    unfold cixR at this ⊢
    rw [← hg.cols, ← hg.pk, ← hg.ix]
    rw [← this]
    (repeat' split) <;> rfl
  unfold dueD
  rw [if_neg (by omega), if_neg (by omega), if_pos rfl, (cixD_yes d hf).2.1 (by rw [h2]; exact z0), h2]
set_option maxRecDepth 100000 in
set_option maxHeartbeats 4000000 in
theorem jdueS6_any (H : GH w g cv cl mv ml true) (P : GP (cl.map (·.t)) D) (d : DOk D) (a bb cc : Int) (s T : ByteArray) {r : Int} (hr : GFR cl s r) : Calls Tryz.prog 106 #[.pointer (some ⟨g, 0, none⟩), .agg #[.int .i64 6, .int .i64 a, .int .i64 bb, .int .i64 cc, .string s, .string T], .int .i64 r] w (DuP 6 a s T D w g cv cl mv ml) := by
  have o1 : Only (fun _ => False) w (w.alloc (.cells #[.int .i64 6, .int .i64 a, .int .i64 bb, .int .i64 cc, .string s, .string T] 41)) := (Only.refl _ w).alloc _
  have A1 : Has (w.alloc (.cells #[.int .i64 6, .int .i64 a, .int .i64 bb, .int .i64 cc, .string s, .string T] 41)) w.heap.size #[.int .i64 6, .int .i64 a, .int .i64 bb, .int .i64 cc, .string s, .string T] 41 := Has.new w _ _
  have a0 := A1.cell 0
  have a1 := A1.cell 1
  simp at a0 a1
  have H1 := H.quiet o1
  by_cases r0 : r < 0
  · have dr : decide (r < 0) = true := decide_eq_true r0
    have HR := hide (DuP.same (kind := 6) (a := a) (s := s) (T := T) (z := 10) H P o1 (by unfold dueD cixD onT; rw [if_neg (by omega), if_neg (by omega), if_pos rfl, hr.no P r0]))
    clear H P d hr o1 A1 H1
    go_enter Tryz.func106, Tryz.ntmps106
    go_wp2_with fail
    go_ret
    exact unhide HR
  · have dr : decide (r < 0) = false := decide_eq_false r0
    obtain ⟨i, e, t0, rfl, hi, hn, hf, h0, hg⟩ := hr.yes P (by omega)
    obtain ⟨b, cap, hcv, P1, E1⟩ := H1.cur.pt hi
    have hil := (List.getElem?_eq_some_iff.mp hi).1
    have c0 := H1.has.cell 0
    simp at c0
    rw [hcv] at c0
    have ib := gownFree (by have := H1.cur.own; rw [hcv] at this; exact this)
    have z3 := ib (i * 5 + 3)
    have p1 := P1.c1
    have p2 := P1.c2
    have p3 := P1.c3
    obtain ⟨ca, ccap, hcc⟩ := E1.col.shape
    rw [hcc] at p1
    obtain ⟨n, hN⟩ : ∃ n, cl.length = n := ⟨_, rfl⟩
    rw [hN] at c0 hil
    have hiI : (i : Int) < (n : Int) := by omega
    have h3 := H1.cur.len
    rw [hN] at h3
    have HS := hide (fun (z : Int) (z0 : z ≠ 0) (hz : cixR e.t a = (e.t, z)) (w2 : World) (o2 : Only (fun _ => False) (w.alloc (.cells #[.int .i64 6, .int .i64 a, .int .i64 bb, .int .i64 cc, .string s, .string T] 41)) w2) => DuP.same (kind := 6) (a := a) (s := s) (T := T) (z := z) H P (o1.trans o2 (fun _ _ e => e)) (dueD6 d hf hg hz z0))
    have HD := hide (fun h1 h2 h3 (w2 : World) (o2 : Only (fun _ => False) (w.alloc (.cells #[.int .i64 6, .int .i64 a, .int .i64 bb, .int .i64 cc, .string s, .string T] 41)) w2) => DuP.index (a := a) (s := s) (T := T) H P d hcv hi hn hf h0 hg h1 h2 h3 (o1.trans o2 (fun _ _ e => e)))
    have HF := hide (fun (w2 : World) (o2 : Only (fun _ => False) (w.alloc (.cells #[.int .i64 6, .int .i64 a, .int .i64 bb, .int .i64 cc, .string s, .string T] 41)) w2) => And.intro (A1.keep o2 (fun e => e)) (And.intro (cell_keep c0 o2 (fun e => e)) (And.intro (cell_keep p1 o2 (fun e => e)) (And.intro (cell_keep p2 o2 (fun e => e)) (And.intro (cell_keep p3 o2 (fun e => e)) (gownFree (by have := (H1.quiet o2).cur.own; rw [hcv, hN] at this; exact this) (i * 5 + 3)))))))
    obtain ⟨cn, hcn⟩ : ∃ cn, e.t.cols.length = cn := ⟨_, rfl⟩
    rw [hcn] at p1 HD HF
    have HCN := hide hcn
    obtain ⟨pk, hpk⟩ : ∃ pk, e.t.pk = pk := ⟨_, rfl⟩
    rw [hpk] at p2 HD HF
    have HPK := hide hpk
    obtain ⟨ix, hix⟩ : ∃ ix, ixI e.t.ix = ix := ⟨_, rfl⟩
    rw [hix] at p3 HD HF
    have HIX := hide hix
    clear H P d hr hi hn hf h0 hg hcv P1 E1 H1 o1 A1 ib hN r0 hcc hcn hpk hix
    by_cases an : a < 0
    · have d1 : decide (a < 0) = true := decide_eq_true an
      have HR := hide (unhide HS 14 (by omega) (by unfold cixR; rw [if_pos (.inl an)]))
      clear an HS HD HF
      go_enter Tryz.func106, Tryz.ntmps106
      go_wp2_with fail
      go_quiet (fail)
      go_wp2_with fail
      go_ret
      exact unhide HR _ (onlyQ _ _)
    · have d1 : decide (a < 0) = false := decide_eq_false an
      by_cases ac : (cn : Int) ≤ a
      · have d2 : decide (a ≥ (cn : Int)) = true := decide_eq_true ac
        have d2' : decide ((cn : Int) ≤ a) = true := decide_eq_true ac
        have HR := hide (unhide HS 14 (by omega) (by unfold cixR; rw [if_pos (.inr (by rw [unhide HCN]; exact ac))]))
        clear an HS HD HF ac
        go_enter Tryz.func106, Tryz.ntmps106
        go_wp2_with fail
        go_quiet (fail)
        go_wp2_with fail
        go_ret
        exact unhide HR _ (onlyQ _ _)
      · have d2 : decide (a ≥ (cn : Int)) = false := decide_eq_false ac
        have d2' : decide ((cn : Int) ≤ a) = false := decide_eq_false ac
        have HA := hide (And.intro an ac)
        clear an ac
        go_enter Tryz.func106, Tryz.ntmps106
        go_upto_region 19 with fail
        generalize w.alloc (.cells #[.int .i64 6, .int .i64 a, .int .i64 bb, .int .i64 cc, .string s, .string T] 41) = w1 at *
        generalize w.heap.size = kb at *
        obtain ⟨A1, c0, p1, p2, p3, z3⟩ := unhide HF w1 (Only.refl _ _)
        have a1 := A1.cell 1
        simp at a1
        clear A1
        go_cut [101] (fun zv wx => zv = .bool false ∧ Only (fun _ => False) w1 wx)
        case first =>
          go_quiet (fail)
          go_wp2_with fail
          go_meet
          exact ⟨rfl, onlyQ _ _⟩
        case rest =>
        obtain ⟨rfl, o2⟩ := hcut
        generalize wc = w2 at *
        obtain ⟨A2, c0, p1, p2, p3, z3⟩ := unhide HF w2 o2
        have a1 := A2.cell 1
        simp at a1
        have HO := hide o2
        clear A2 o2
        by_cases ap : a = (pk : Int)
        · have d3 : (a == (pk : Int)) = true := by simpa using ap
          have HR := hide (unhide HS 18 (by omega) (by unfold cixR; rw [if_neg (by rw [unhide HCN]; have := unhide HA; omega), if_pos (by rw [unhide HPK]; exact ap)]))
          clear ap HS HD HF
          go_wp2_with fail
          go_quiet (fail)
          go_wp2_with fail
          go_ret
          exact unhide HR _ ((unhide HO).trans (onlyQ _ _) (fun _ _ e => e))
        · have d3 : (a == (pk : Int)) = false := by simpa using ap
          have HAP := hide ap
          clear ap
          go_upto_region 21 with fail
          go_cut [113] (fun zv wx => zv = .bool false ∧ Only (fun _ => False) w2 wx)
          case first =>
            go_quiet (fail)
            go_wp2_with fail
            go_meet
            exact ⟨rfl, onlyQ _ _⟩
          case rest =>
          obtain ⟨rfl, o3⟩ := hcut
          generalize wc = w3 at *
          have o13 := (unhide HO).trans o3 (fun _ _ e => e)
          clear c0 p1 p2 p3 z3 a1
          obtain ⟨A3, c0, p1, p2, p3, z3⟩ := unhide HF w3 o13
          have a1 := A3.cell 1
          simp at a1
          have HO3 := hide o13
          clear A3 o13 o3
          by_cases ai : ix < 0
          · have d4 : decide (ix ≥ 0) = false := decide_eq_false (by omega)
            have d4' : decide (0 ≤ ix) = false := decide_eq_false (by omega)
            have HR := hide (fun w4 o4 => unhide HD (by have := unhide HA; omega) (unhide HAP) ai w4 ((unhide HO3).trans o4 (fun _ _ e => e)))
            clear ai HS HD HF
            go_upto_region 25 with fail
            go_region
            go_wp2_with fail
            go_ret
            exact unhide HR w3.drew (Only.refl _ _).drew
          · have d4 : decide (ix ≥ 0) = true := decide_eq_true (by omega)
            have d4' : decide (0 ≤ ix) = true := decide_eq_true (by omega)
            have HR := hide (unhide HS 11 (by omega) (by
              unfold cixR
              rw [if_neg (by rw [unhide HCN]; have := unhide HA; omega), if_neg (by rw [unhide HPK]; exact unhide HAP), if_pos]
              have := unhide HIX
              cases h : e.t.ix with
              | none => rw [h] at this; simp [ixI] at this; omega
              | some j => rfl) w3 (unhide HO3))
            clear ai HS HD HF
            go_wp2_with fail
            go_ret
            exact unhide HR
end
end Go.Proofs.Qxb6500413aGreat
