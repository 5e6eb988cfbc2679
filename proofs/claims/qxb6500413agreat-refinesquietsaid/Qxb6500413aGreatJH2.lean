/-
  OWN WORK. THE TABLE LAW's GHOST: DueSchema of a DropTable, a CreateIndex.
-/
import Derived.Test.Qxb6500413aGreatJH1
namespace Go.Proofs.Qxb6500413aGreat
open Go.RowKit Go.PlainAid
set_option linter.unusedSimpArgs false
set_option linter.unusedVariables false

section
variable {w w' : World} {g : Nat} {cv mv cv' : Value} {cl ml cl' : List GE} {op : Bool} {kind a : Int} {s T : ByteArray} {D : Db}
theorem GFR.no (P : GP (cl.map (·.t)) D) {r : Int} (h : GFR cl s r) (hr : r < 0) : findD D s = none := by
  rcases h with ⟨rfl, h⟩ | ⟨i, x, _, rfl, _⟩
  · refine P.no (fun t ht => ?_)
    obtain ⟨e, he, rfl⟩ := List.mem_map.mp ht
    exact h e he
  · omega
theorem GFR.yes (P : GP (cl.map (·.t)) D) {r : Int} (h : GFR cl s r) (hr : 0 ≤ r) : ∃ (i : Nat) (e : GE) (t0 : Tb), r = i ∧ cl[i]? = some e ∧ e.t.nm = s ∧ findD D s = some t0 ∧ t0 ∈ D ∧ GT e.t t0 := by
  rcases h with ⟨rfl, h⟩ | ⟨i, x, hx, rfl, hn⟩
  · omega
  · obtain ⟨t0, h1, h2, h3⟩ := P.yes (List.mem_map.mpr ⟨x, List.mem_of_getElem? hx, rfl⟩) hn
    exact ⟨i, x, t0, rfl, hx, hn, h1, h2, h3⟩
theorem DuP.drop (H : GH w g cv cl mv ml true) (P : GP (cl.map (·.t)) D) (d : DOk D) {b cap i : Nat} {e y : GE} {t0 : Tb} (hcv : cv = .slice (some ⟨b, 0, none⟩) cl.length cap) (hi : cl[i]? = some e) (hn : e.t.nm = s) (hf : findD D s = some t0) (h0 : t0 ∈ D) (hg : GT e.t t0) (hy : cl[cl.length - 1]? = some y) {w1 w3 : World} (o1 : Only (fun _ => False) w w1) (o3 : Only (fun _ => False) (st5 w1 b i y) w3) : DuP 5 a s T D w g cv cl mv ml (.returned (.int .i64 0)) (w3.setCell ⟨g, 0, none⟩ (.slice (some ⟨b, 0, none⟩) (cl.length - 1) cap)) := by
  subst hcv
  have H1 := H.quiet o1
  obtain ⟨G3, o13⟩ := H1.cur.dropTab (i := i) (List.getElem?_eq_some_iff.mp hi).1 hy o3
  have hgb : b ≠ g := H.bne b (.inl (.inl rfl))
  have Hg3 : Has w3 g #[.slice (some ⟨b, 0, none⟩) cl.length cap, mv, .bool true] 38 := H1.has.keep o13 (fun e => hgb e.symm)
  have o4 : Only (fun k => k = g) w3 (w3.setCell ⟨g, 0, none⟩ (.slice (some ⟨b, 0, none⟩) (cl.length - 1) cap)) := only1 _ _
  have ne := G3.neT Hg3 (by decide) (by decide) (by decide) (by decide)
  have oo : Only (fun k => k = g ∨ GLm (.slice (some ⟨b, 0, none⟩) cl.length cap) cl k) w (w3.setCell ⟨g, 0, none⟩ (.slice (some ⟨b, 0, none⟩) (cl.length - 1) cap)) := ((o1.mono (fun _ _ e => e.elim)).trans o13 (fun k _ hk => Or.inr (.inl (by rw [hk]; rfl)))).trans o4 (fun k _ hk => .inl hk)
  have hm : ∀ k, GLm (.slice (some ⟨b, 0, none⟩) (cl.length - 1) cap) ((cl.set i y).take (cl.length - 1)) k → GLm (.slice (some ⟨b, 0, none⟩) cl.length cap) cl k ∨ w.heap.size ≤ k := fun k hk => by
    rcases hk with hk | ⟨x, hx, hk⟩
    · exact .inl (.inl hk)
    · rcases List.mem_or_eq_of_mem_set (List.mem_of_mem_take hx) with hx | rfl
      · exact .inl (.inr ⟨x, hx, hk⟩)
      · exact .inl (.inr ⟨x, List.mem_of_getElem? hy, hk⟩)
  have hd : dueD 5 a s T D = (D.filter (fun t => decide (t.nm ≠ s)), 0) := by
    unfold dueD drpD
    rw [if_neg (by omega), if_pos rfl, hf]
  refine ⟨_, _, by rw [hd], H.mk' (Hg3.setCell 0 _) (G3.keep o4 (fun k hk => ne k (.inl hk)) (fun k hk => ne k (.inr hk))) oo hm, ?_, hm, fun k hk => .inl ?_, oo⟩
  rotate_left
  · obtain ⟨x, hx, hk⟩ := hk
    rcases List.mem_or_eq_of_mem_set (List.mem_of_mem_take hx) with hx | rfl
    · exact ⟨x, hx, hk⟩
    · exact ⟨x, List.mem_of_getElem? hy, hk⟩
  rw [hd, List.map_take, List.map_set]
  have hi' : (cl.map (·.t))[i]? = some e.t := by rw [List.getElem?_map, hi]; rfl
  have := P.drop d hi' h0 hg.nm (y := y.t) (by rw [List.length_map, List.getElem?_map, hy]; rfl)
  rw [List.length_map] at this
  rw [← hn, hg.nm]
  exact this
theorem DuP.index (H : GH w g cv cl mv ml true) (P : GP (cl.map (·.t)) D) (d : DOk D) {b cap i : Nat} {e : GE} {t0 : Tb} (hcv : cv = .slice (some ⟨b, 0, none⟩) cl.length cap) (hi : cl[i]? = some e) (hn : e.t.nm = s) (hf : findD D s = some t0) (h0 : t0 ∈ D) (hg : GT e.t t0) (ha0 : ¬ (a < 0 ∨ (e.t.cols.length : Int) ≤ a)) (ha1 : a ≠ (e.t.pk : Int)) (ha2 : ixI e.t.ix < 0) {w1 : World} (o1 : Only (fun _ => False) w w1) : DuP 6 a s T D w g cv cl mv ml (.returned (.int .i64 0)) (w1.setCell ⟨b, i * 5 + 3, none⟩ (.int .i64 a)) := by
  subst hcv
  have H1 := H.quiet o1
  obtain ⟨c, rfl⟩ : ∃ c : Nat, a = c := ⟨a.toNat, by omega⟩
  have ix0 : t0.ix = none := by
    rw [hg.ix] at ha2
    cases h : t0.ix with
    | none => rfl
    | some j => rw [h] at ha2; simp [ixI] at ha2; omega
  have hcr : cixR t0 (c : Int) = (withI t0 c, 0) := by
    have ha0' : ¬ ((c : Int) < 0 ∨ (t0.cols.length : Int) ≤ c) := by rw [← hg.cols]; exact ha0
    have ha1' : (c : Int) ≠ (t0.pk : Int) := by rw [← hg.pk]; exact ha1
    unfold cixR
    rw [if_neg ha0', if_neg ha1', ix0]
    rfl
  have gt : GT (withI e.t c) (withI t0 c) := ⟨hg.nm, hg.cols, hg.pk, rfl, hg.rows⟩
  have tok := d.tb t0 h0
  have ok : TbOk (withI t0 c) := ⟨tok.nm, tok.cols, fun x hx => by
    have : x = c := by unfold withI at hx; simp at hx; exact hx.symm
    subst this
    refine ⟨?_, ?_⟩
    · show x < t0.cols.length
      rw [← hg.cols]; omega
    · show x ≠ t0.pk
      rw [← hg.pk]; omega, tok.row, tok.srt, tok.len⟩
  obtain ⟨G3, o13⟩ := H1.cur.setIx hi (c := c) (gt.ok ok)
  have hgb : b ≠ g := H.bne b (.inl (.inl rfl))
  have Hg3 := H1.has.keep o13 (fun e => hgb e.symm)
  have oo : Only (fun k => k = g ∨ GLm (.slice (some ⟨b, 0, none⟩) cl.length cap) cl k) w (w1.setCell ⟨b, i * 5 + 3, none⟩ (.int .i64 (c : Int))) := (o1.mono (fun _ _ e => e.elim)).trans o13 (fun k _ hk => .inr (.inl (by rw [hk]; rfl)))
  have hm : ∀ k, GLm (.slice (some ⟨b, 0, none⟩) cl.length cap) (cl.set i ⟨withI e.t c, e.cv, e.rv, e.us⟩) k → GLm (.slice (some ⟨b, 0, none⟩) cl.length cap) cl k ∨ w.heap.size ≤ k := fun k hk => by
    rcases hk with hk | ⟨x, hx, hk⟩
    · exact .inl (.inl hk)
    · rcases List.mem_or_eq_of_mem_set hx with hx | rfl
      · exact .inl (.inr ⟨x, hx, hk⟩)
      · exact .inl (.inr ⟨e, List.mem_of_getElem? hi, hk⟩)
  have hd : dueD 6 (c : Int) s T D = (putT (withI t0 c) D, 0) := by
    unfold dueD
    rw [if_neg (by omega), if_neg (by omega), if_pos rfl, (cixD_yes d hf).2.2 (by rw [hcr]), hcr]
  refine ⟨_, _, by rw [hd], H.mk' Hg3 G3 oo hm, ?_, hm, fun k hk => .inl ?_, oo⟩
  rotate_left
  · obtain ⟨x, hx, hk⟩ := hk
    rcases List.mem_or_eq_of_mem_set hx with hx | rfl
    · exact ⟨x, hx, hk⟩
    · exact ⟨e, List.mem_of_getElem? hi, hk⟩
  rw [hd, List.map_set]
  exact P.set d (by rw [List.getElem?_map, hi]; rfl) h0 hg.nm gt rfl
set_option maxRecDepth 100000 in
set_option maxHeartbeats 4000000 in
theorem jdueS5_any (H : GH w g cv cl mv ml true) (P : GP (cl.map (·.t)) D) (d : DOk D) (a bb cc : Int) (s T : ByteArray) {r : Int} (hr : GFR cl s r) : Calls Tryz.prog 106 #[.pointer (some ⟨g, 0, none⟩), .agg #[.int .i64 5, .int .i64 a, .int .i64 bb, .int .i64 cc, .string s, .string T], .int .i64 r] w (DuP 5 a s T D w g cv cl mv ml) := by
  have o1 : Only (fun _ => False) w (w.alloc (.cells #[.int .i64 5, .int .i64 a, .int .i64 bb, .int .i64 cc, .string s, .string T] 41)) := (Only.refl _ w).alloc _
  have A1 : Has (w.alloc (.cells #[.int .i64 5, .int .i64 a, .int .i64 bb, .int .i64 cc, .string s, .string T] 41)) w.heap.size #[.int .i64 5, .int .i64 a, .int .i64 bb, .int .i64 cc, .string s, .string T] 41 := Has.new w _ _
  have a0 := A1.cell 0
  simp at a0
  have H1 := H.quiet o1
  by_cases r0 : r < 0
  · have dr : decide (r < 0) = true := decide_eq_true r0
    have HR := hide (DuP.same (kind := 5) (a := a) (s := s) (T := T) (z := 10) H P o1 (by unfold dueD drpD; rw [if_neg (by omega), if_pos rfl, hr.no P r0]))
    clear H P d hr o1 A1 H1
    go_enter Tryz.func106, Tryz.ntmps106
    go_wp2_with fail
    go_ret
    exact unhide HR
  · have dr : decide (r < 0) = false := decide_eq_false r0
    obtain ⟨i, e, t0, rfl, hi, hn, hf, h0, hg⟩ := hr.yes P (by omega)
    obtain ⟨b, cap, hcv, P1, E1⟩ := H1.cur.pt hi
    have hil := (List.getElem?_eq_some_iff.mp hi).1
    obtain ⟨y, hy⟩ := getE (l := cl) (i := cl.length - 1) (by omega)
    obtain ⟨b', cap', hcv', P2, E2⟩ := H1.cur.pt hy
    obtain ⟨rfl, rfl⟩ : b = b' ∧ cap = cap' := by rw [hcv] at hcv'; simp at hcv'; exact hcv'
    have c0 := H1.has.cell 0
    simp at c0
    have f0 := H1.has.free 0
    rw [hcv] at c0
    have hgb : b ≠ g := H1.bne b (.inl (.inl (by rw [hcv]; rfl)))
    have ib := gownFree (by have := H1.cur.own; rw [hcv] at this; exact this)
    have z0 := ib (i * 5)
    have z1 := ib (i * 5 + 1)
    have z2 := ib (i * 5 + 2)
    have z3 := ib (i * 5 + 3)
    have z4 := ib (i * 5 + 4)
    have p0 := P1.c0
    have p1 := P1.c1
    have p2 := P1.c2
    have p3 := P1.c3
    have p4 := P1.c4
    have y0 := P2.c0
    have y1 := P2.c1
    have y2 := P2.c2
    have y3 := P2.c3
    have y4 := P2.c4
    obtain ⟨ya, yc, hyc⟩ := E2.col.shape
    obtain ⟨yra, yrc, hyr⟩ := E2.rshape
    have HD := hide (fun (w3 : World) (o3 : Only (fun _ => False) (st5 (w.alloc (.cells #[.int .i64 5, .int .i64 a, .int .i64 bb, .int .i64 cc, .string s, .string T] 41)) b i y) w3) => DuP.drop (a := a) (s := s) (T := T) H P d hcv hi hn hf h0 hg hy o1 o3)
    unfold st5 at HD
    rw [hyc, hyr] at HD
    rw [hyc] at y1
    rw [hyr] at y4
    have c0' := cell_keep c0 (st5_only (w.alloc (.cells #[.int .i64 5, .int .i64 a, .int .i64 bb, .int .i64 cc, .string s, .string T] 41)) b i y) (fun e => hgb e.symm)
    have f0' : (st5 (w.alloc (.cells #[.int .i64 5, .int .i64 a, .int .i64 bb, .int .i64 cc, .string s, .string T] 41)) b i y).frozen? ⟨g, 0, none⟩ = false := (H1.has.keep (st5_only _ b i y) (fun e => hgb e.symm)).free 0
    unfold st5 at c0' f0'
    rw [hyc, hyr] at c0' f0'
    obtain ⟨n, hN⟩ : ∃ n, cl.length = n := ⟨_, rfl⟩
    have hcap : n ≤ cap := by
      have R := H1.cur.own
      rw [hcv, hN] at R
      rcases R.2 with ⟨he, _⟩ | ⟨g', c', cur, he, _, _, hh, _⟩
      · simp at he
      · simp at he
        omega
    have h3 := H1.cur.len
    rw [hN] at c0 c0' hil y0 y1 y2 y3 y4 HD h3
    have hcapI : ((n : Int) - 1) ≤ (cap : Int) := by omega
    have hiI : (i : Int) < (n : Int) := by omega
    have hn1 : ((n : Int) - 1) < (n : Int) := by omega
    have hn0 : (0 : Int) ≤ (n : Int) - 1 := by omega
    obtain ⟨m, rfl⟩ : ∃ m, n = m + 1 := ⟨n - 1, by omega⟩
    simp only [Nat.add_sub_cancel] at y0 y1 y2 y3 y4 HD
    clear H P d hr hi hn hf h0 hg hcv hcv' P1 E1 P2 E2 H1 o1 A1 hy hyc hyr ib hN r0
    go_enter Tryz.func106, Tryz.ntmps106
    go_upto_region 16 with fail
    generalize w.alloc (.cells #[.int .i64 5, .int .i64 a, .int .i64 bb, .int .i64 cc, .string s, .string T] 41) = w1 at *
    generalize w.heap.size = kb at *
    go_region
    go_upto_region 17 with fail
    generalize (((((w1.setCell ⟨b, i * 5, none⟩ (.string y.t.nm)).setCell ⟨b, i * 5 + 1, none⟩ (.slice ya y.t.cols.length yc)).setCell ⟨b, i * 5 + 2, none⟩ (.int .i64 (y.t.pk : Int))).setCell ⟨b, i * 5 + 3, none⟩ (.int .i64 (ixI y.t.ix))).setCell ⟨b, i * 5 + 4, none⟩ (.slice yra y.t.rows.length yrc)) = w5 at *
    clear y0 y1 y2 y3 y4 z0 z1 z2 z3 z4 p0 p1 p2 p3 p4 c0 f0
    go_region
    go_wp2_with fail
    go_ret
    exact unhide HD w5.drew.drew (Only.refl _ _).drew.drew
end
end Go.Proofs.Qxb6500413aGreat
