/-
  OWN WORK. THE TABLE LAW's GHOST: DueSchema of a CreateTable.
-/
import Derived.Test.Qxb6500413aGreatJH2
import Derived.Deep.RegionLaw
import Derived.Deep.AppendLies
namespace Go.Proofs.Qxb6500413aGreat
open Go.RowKit Go.PlainAid
set_option linter.unusedSimpArgs false
set_option linter.unusedVariables false

theorem colsP_len (t : ByteArray) : (colsP t).length ≤ 100 := by
  have := colsF_len (fieldsP t 8 0) false 4
  unfold colsP
  omega
section
variable {w w' : World} {g : Nat} {cv mv cv' : Value} {cl ml cl' : List GE} {op : Bool} {kind a : Int} {s T : ByteArray} {D : Db}
theorem DuP.create (H : GH w g cv cl mv ml true) (P : GP (cl.map (·.t)) D) (d : DOk D) {cvv : Value} {w1 w0 w3 : World} {gg cap3 n : Nat} (o1 : Only (fun _ => False) w w1) (C : OwnC w1 cvv (colsP T)) (o0 : Only (fun _ => False) w1 w0) (hnm : gdN s) (hcols : GdC (colsP T) a) (hf : ∀ e ∈ cl, e.t.nm ≠ s) (hlen : cl.length < 3)
    (hown : w3.ownsRow 0 68 5 (.slice (some ⟨gg, 0, none⟩) n cap3) n (gcs cl ++ [.string s, cvv, .int .i64 a, .int .i64 (-1), .slice none 0 0])) (hn : n = cl.length + 1) (hgrow : w0.grownBy w3 cv.ownBlock) (hat : cv.ownBlock = some gg ∨ w1.heap.size ≤ gg) (hcb : ∀ k, cvv.ownBlock = some k → w.heap.size ≤ k) : DuP 4 a s T D w g cv cl mv ml (.returned (.int .i64 0)) (w3.setCell ⟨g, 0, none⟩ (.slice (some ⟨gg, 0, none⟩) n cap3)) := by
  obtain ⟨pk, rfl⟩ : ∃ pk : Nat, a = pk := ⟨a.toNat, by have := hcols.1.2.2.1; omega⟩
  have H1 := H.quiet o1
  have tok : TbOk ⟨s, colsP T, pk, none, []⟩ := ⟨hnm, hcols, fun c hc => (by simp at hc), fun r hr => (by simp at hr), List.Pairwise.nil, Nat.zero_le _⟩
  have gt : GT ⟨s, colsP T, pk, none, []⟩ ⟨s, colsP T, pk, none, []⟩ := ⟨rfl, rfl, rfl, rfl, List.Perm.refl _⟩
  obtain ⟨G3, o13⟩ := H1.cur.pushTab o0 hown hn hgrow C (gt.ok tok) hf hlen
  have hgb : ∀ k, cv.ownBlock = some k → k ≠ g := fun k hk => H.bne k (.inl (.inl hk))
  have Hg3 := H1.has.keep o13 (fun e => hgb g e rfl)
  have o4 : Only (fun k => k = g) w3 (w3.setCell ⟨g, 0, none⟩ (.slice (some ⟨gg, 0, none⟩) n cap3)) := only1 _ _
  have ne := G3.neT Hg3 (by decide) (by decide) (by decide) (by decide)
  have oo : Only (fun k => k = g ∨ GLm cv cl k) w (w3.setCell ⟨g, 0, none⟩ (.slice (some ⟨gg, 0, none⟩) n cap3)) := ((o1.mono (fun _ _ e => e.elim)).trans o13 (fun k _ hk => Or.inr (.inl hk))).trans o4 (fun k _ hk => .inl hk)
  have hm : ∀ k, GLm (.slice (some ⟨gg, 0, none⟩) n cap3) (cl ++ [⟨⟨s, colsP T, pk, none, []⟩, cvv, .slice none 0 0, []⟩]) k → GLm cv cl k ∨ w.heap.size ≤ k := fun k hk => by
    rcases hk with hk | ⟨x, hx, hk⟩
    · obtain rfl : gg = k := by simpa [Value.ownBlock] using hk
      rcases hat with c | c
      · exact .inl (.inl c)
      · exact .inr (by have := o1.size; omega)
    · rcases List.mem_append.mp hx with hx | hx
      · exact .inl (.inr ⟨x, hx, hk⟩)
      · obtain rfl : x = _ := by simpa using hx
        unfold GEm at hk
        simp [Value.ownBlock] at hk
  have hfd : findD D s = none := P.no (fun t ht => by
    obtain ⟨e, he, rfl⟩ := List.mem_map.mp ht
    exact hf e he)
  have hd : dueD 4 (pk : Int) s T D = (putT ⟨s, colsP T, pk, none, []⟩ D, 0) := by
    unfold dueD crtD
    rw [if_pos rfl, if_neg (by simpa using hnm), if_neg (by simpa using hcols), hfd]
    have : D.length < 3 := by rw [← P.len, List.length_map]; exact hlen
    simp only [if_neg (show ¬ 3 ≤ D.length by omega), Int.toNat_natCast]
  refine ⟨_, _, by rw [hd], H.mk' (Hg3.setCell 0 _) (G3.keep o4 (fun k hk => ne k (.inl hk)) (fun k hk => ne k (.inr hk))) oo hm, ?_, hm, fun k hk => ?_, oo⟩
  rotate_left
  · obtain ⟨x, hx, hk⟩ := hk
    rcases List.mem_append.mp hx with hx | hx
    · exact .inl ⟨x, hx, hk⟩
    · obtain rfl : x = _ := by simpa using hx
      rcases hk with hk | ⟨u, hu, _⟩
      · exact .inr (hcb k hk)
      · simp at hu
  rw [hd, List.map_append]
  exact P.push d gt hfd
set_option maxRecDepth 100000 in
set_option maxHeartbeats 4000000 in
theorem jdueS4_any (H : GH w g cv cl mv ml true) (P : GP (cl.map (·.t)) D) (d : DOk D) (a bb cc : Int) (s T : ByteArray) (hT : T.size ≤ maxLen) {r : Int} (hr : GFR cl s r) : Calls Tryz.prog 106 #[.pointer (some ⟨g, 0, none⟩), .agg #[.int .i64 4, .int .i64 a, .int .i64 bb, .int .i64 cc, .string s, .string T], .int .i64 r] w (DuP 4 a s T D w g cv cl mv ml) := by
  obtain ⟨i0, hi0, hz0, hz1, hz2⟩ := info_parts Tryz.infoJGTab
  have o1 : Only (fun _ => False) w (w.alloc (.cells #[.int .i64 4, .int .i64 a, .int .i64 bb, .int .i64 cc, .string s, .string T] 41)) := (Only.refl _ w).alloc _
  have A1 : Has (w.alloc (.cells #[.int .i64 4, .int .i64 a, .int .i64 bb, .int .i64 cc, .string s, .string T] 41)) w.heap.size #[.int .i64 4, .int .i64 a, .int .i64 bb, .int .i64 cc, .string s, .string T] 41 := Has.new w _ _
  have a0 := A1.cell 0
  have a5 := A1.cell 5
  simp at a0 a5
  have CF := hide (eColsOf_any T hT (w.alloc (.cells #[.int .i64 4, .int .i64 a, .int .i64 bb, .int .i64 cc, .string s, .string T] 41)))
  have HG := hide (And.intro H (And.intro P (And.intro d hr)))
  have HO := hide (And.intro o1 A1)
  clear H P d hr o1 A1
  go_enter Tryz.func106, Tryz.ntmps106
  go_wp2_with fail
  refine (unhide CF).mono ?_
  rintro x w2 ⟨u, rfl, R2⟩
  generalize w.alloc (.cells #[.int .i64 4, .int .i64 a, .int .i64 bb, .int .i64 cc, .string s, .string T] 41) = w1 at *
  have ob := (unhide HO).2.lt
  have hsz := (unhide HO).1.size
  generalize hkb : w.heap.size = kb at *
  have A2 := (unhide HO).2.keep R2.ho (fun e => e)
  have HO2 := hide ((unhide HO).1.trans R2.ho (fun _ _ e => e))
  have OU : OwnC w2 u (colsP T) := R2.own
  have HUB := hide (show ∀ k, u.ownBlock = some k → w.heap.size ≤ k from fun k hk => Nat.le_trans (unhide HO).1.size (R2.hb k hk))
  clear a0 a5 CF HO R2
  have a4 := A2.cell 4
  have a1 := A2.cell 1
  simp at a4 a1
  have CN := hide (eGoodName_any s w2)
  have CG := eGoodCols_any OU a
  obtain ⟨ua, uc, hus⟩ := OU.shape
  have HU := hide (And.intro A2 OU)
  obtain ⟨cn, hcn⟩ : ∃ cn, (colsP T).length = cn := ⟨_, rfl⟩
  rw [hcn] at hus
  subst hus
  have CG := hide CG
  clear A2 OU hcn
  by_cases gn : gdN s
  · have dn : decide (gdN s) = true := decide_eq_true gn
    rw [dn] at CN
    go_wp2_with fail
    refine (unhide CN).mono ?_
    rintro x w2' ⟨rfl, rfl⟩
    clear CN dn
    by_cases gc : GdC (colsP T) a
    · have dc : decide (GdC (colsP T) a) = true := decide_eq_true gc
      rw [dc] at CG
      clear dc
      go_wp2_with fail
      refine (unhide CG).mono ?_
      rintro x w3 ⟨rfl, o3⟩
      have HO3 := hide ((unhide HO2).trans o3 (fun _ _ e => e))
      have HU3 := hide (And.intro ((unhide HU).1.keep o3 (fun e => e)) ((unhide HU).2.keep o3 (fun _ _ e => e)))
      clear o3 CG HU HO2 a4 a1
      by_cases r0 : 0 ≤ r
      · have dr : decide (r ≥ 0) = true := decide_eq_true r0
        have dr' : decide (0 ≤ r) = true := decide_eq_true r0
        have HR := hide (DuP.same (kind := 4) (a := a) (s := s) (T := T) (z := 11) (unhide HG).1 (unhide HG).2.1 (unhide HO3) (by
          obtain ⟨i, e, t0, rfl, hi, hn, hf, h0, hg⟩ := (unhide HG).2.2.2.yes (unhide HG).2.1 r0
          unfold dueD crtD
          rw [if_pos rfl, if_neg (by simpa using gn), if_neg (by simpa using gc), hf]))
        clear gn gc r0
        go_wp2_with fail
        go_ret
        exact unhide HR
      · have dr : decide (r ≥ 0) = false := decide_eq_false r0
        have dr' : decide (0 ≤ r) = false := decide_eq_false r0
        have H3 := (unhide HG).1.quiet (unhide HO3)
        obtain ⟨ia, icap, hiv⟩ := H3.cur.shape
        have c0 := H3.has.cell 0
        simp at c0
        rw [hiv] at c0
        have h3 := H3.cur.len
        obtain ⟨n, hN⟩ : ∃ n, cl.length = n := ⟨_, rfl⟩
        rw [hN] at c0 h3 hiv
        by_cases f3 : 3 ≤ n
        · have d3 : decide ((n : Int) ≥ 3) = true := decide_eq_true (by omega)
          have d3' : decide ((3 : Int) ≤ (n : Int)) = true := decide_eq_true (by omega)
          have HR := hide (DuP.same (kind := 4) (a := a) (s := s) (T := T) (z := 6) (unhide HG).1 (unhide HG).2.1 (unhide HO3) (by
            unfold dueD crtD
            have := (unhide HG).2.1.len
            rw [List.length_map, hN] at this
            rw [if_pos rfl, if_neg (by simpa using gn), if_neg (by simpa using gc), (unhide HG).2.2.2.no (unhide HG).2.1 (by omega)]
            simp only [if_pos (show 3 ≤ D.length by omega)]))
          clear gn gc r0 H3 hiv hN f3
          go_wp2_with fail
          go_ret
          exact unhide HR
        · have d3 : decide ((n : Int) ≥ 3) = false := decide_eq_false (by omega)
          have d3' : decide ((3 : Int) ≤ (n : Int)) = false := decide_eq_false (by omega)
          have hno : ∀ e ∈ cl, e.t.nm ≠ s := by
            rcases (unhide HG).2.2.2 with ⟨_, h⟩ | ⟨i, x, _, rfl, _⟩
            · exact h
            · omega
          have own1 : w3.ownsRow 0 68 5 (.slice ia n icap) n (gcs cl) := by have := H3.cur.own; rw [hiv, hN] at this; exact this
          have HPP := hide (fun gg cap3 (w4 : World) (h1 : w4.ownsRow 0 68 5 (.slice (some ⟨gg, 0, none⟩) (n + 1) cap3) (n + 1) (gcs cl ++ [.string s, .slice ua cn uc, .int .i64 a, .int .i64 (-1), .slice none 0 0])) (o : Obj) (h2 : (w3.alloc o).drew.grownBy w4 (Value.slice ia n icap).ownBlock) (h3 : (Value.slice ia n icap).ownBlock = some gg ∨ gg = w3.heap.size + 1) => DuP.create (a := a) (s := s) (T := T) (unhide HG).1 (unhide HG).2.1 (unhide HG).2.2.1 (unhide HO3) (unhide HU3).2 (((Only.refl _ w3).alloc o).drew) gn gc hno (by omega) h1 (by omega) (by rw [hiv]; exact h2) (by rw [hiv]; rcases h3 with c | c; exact .inl c; exact .inr (by omega)) (unhide HUB))
          have a4 := (unhide HU3).1.cell 4
          have a1 := (unhide HU3).1.cell 1
          simp at a4 a1
          have hg3 := H3.has
          have lgW : g < w3.heap.size := hg3.lt
          have lkW : kb < w3.heap.size := (unhide HU3).1.lt
          have hne1 : (Value.slice ia n icap).ownBlock ≠ some g := fun e => H3.bne g (.inl (.inl (by rw [hiv]; exact e))) rfl
          have hne2 : (Value.slice ia n icap).ownBlock ≠ some kb := fun e => ownsRow_ne own1 (unhide HU3).1 (by decide) _ e rfl
          have X1 := (hg3.alloc (.cells #[.string s, .slice ua cn uc, .int .i64 a, .int .i64 (-1), .slice none 0 0] 68)).drew
          have x1 : (w3.alloc (.cells #[.string s, .slice ua cn uc, .int .i64 a, .int .i64 (-1), .slice none 0 0] 68)).drew.cell? ⟨g, 0, none⟩ = some (.slice ia n icap) := by rw [X1.cell, hiv]; rfl
          have x1f := X1.free 0
          have l5 : n + 1 ≤ maxLen := by unfold maxLen; omega
          clear gn gc r0 H3 hiv hN f3 hg3 X1 hno
          go_upto_region 11 with fail
          go_region_law
            ((refine step_append_lies _ (by rfl) _ _ _ (by rfl) 0 68 i0 _ 5 80 Tryz.underlying36 hi0 hz0 hz1 hz2 rfl (by omega) (.slice ia n icap) n (gcs cl) (by rfl) ((own1.alloc _).drew) ⟨w3.heap.size, 0, none⟩ 1 1 [.string s, .slice ua cn uc, .int .i64 a, .int .i64 (-1), .slice none 0 0] (by rfl) (by rfl) (World.news_of_block (cs := #[.string s, .slice ua cn uc, .int .i64 a, .int .i64 (-1), .slice none 0 0]) (t := 68) (fr := (0, 0)) (heap_alloc_new w3 _)) (by simp [Value.oneCell']) (by omega) l5 (by omega) (by simp) (w3.heap.size + 1) (by simp) ?_; intro gg cap3 w4 hown1 hgrow hat hlt3; have y3 := (hgrow.cell_far ⟨g, 0, none⟩ (by simp; omega) (Ne.symm hne1)).trans x1; have yz := (hgrow.frozen_far ⟨g, 0, none⟩ (by simp; omega) (Ne.symm hne1)).trans x1f))
          all_goals
            have HP := hide (unhide HPP gg cap3 w4 hown1 _ hgrow hat)
            clear hown1 hgrow hat y3 yz
            go_wp2_with fail
            go_ret
            exact unhide HP
    · have dc : decide (GdC (colsP T) a) = false := decide_eq_false gc
      rw [dc] at CG
      clear dc
      go_wp2_with fail
      refine (unhide CG).mono ?_
      rintro x w3 ⟨rfl, o3⟩
      have HR := hide (DuP.same (kind := 4) (a := a) (s := s) (T := T) (z := 13) (unhide HG).1 (unhide HG).2.1 ((unhide HO2).trans o3 (fun _ _ e => e)) (by unfold dueD crtD; rw [if_pos rfl, if_neg (by simpa using gn), if_pos gc]))
      clear gn gc o3
      go_wp2_with fail
      go_ret
      exact unhide HR
  · have dn : decide (gdN s) = false := decide_eq_false gn
    rw [dn] at CN
    clear dn
    have HR := hide (DuP.same (kind := 4) (a := a) (s := s) (T := T) (z := 12) (unhide HG).1 (unhide HG).2.1 (unhide HO2) (by unfold dueD crtD; rw [if_pos rfl, if_pos gn]))
    go_wp2_with fail
    refine (unhide CN).mono ?_
    rintro x w2' ⟨rfl, rfl⟩
    clear gn
    go_wp2_with fail
    go_ret
    exact unhide HR
end
end Go.Proofs.Qxb6500413aGreat
