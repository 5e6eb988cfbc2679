/-
  OWN WORK. QUERY's MODEL: the reader: lit (written by tools/gen_qm3.py).
-/
import Derived.Test.Qxb6500412aGreatQM3
namespace Go.Proofs.Qxb6500412aGreat
open Go.RowKit Go.PlainAid
set_option linter.unusedSimpArgs false
set_option linter.unusedVariables false

section
variable {w w' : World} {kr : Nat} {tv : Value} {l : List Tk} {P : Ps} {i : Nat} {bad : Bool}
/-- The value is stored behind all else. -/
theorem QmLt.fin {v : Vl} {w3 w4 : World} (hk : kr < w.heap.size) (hb : ∀ b, tv.ownBlock = some b → b < w.heap.size) (hm : MRp kr tv l (litP P) w w3) (hv : P.2 = true → v = litV P) (hg : Has w3 w.heap.size #[.bool false, .int .i64 0, .string ⟨#[]⟩] 152) (o4 : Only (fun _ => False) w3 w4) : Has w4 w.heap.size #[.bool false, .int .i64 0, .string ⟨#[]⟩] 152 ∧ Has (((w4.setCell ⟨w.heap.size, 0, none⟩ (.bool v.str)).setCell ⟨w.heap.size, 1, none⟩ (.int .i64 v.i)).setCell ⟨w.heap.size, 2, none⟩ (.string v.s)) w.heap.size #[.bool v.str, .int .i64 v.i, .string v.s] 152 ∧ QmLt kr tv l P w (.returned (.agg #[.bool v.str, .int .i64 v.i, .string v.s])) (((w4.setCell ⟨w.heap.size, 0, none⟩ (.bool v.str)).setCell ⟨w.heap.size, 1, none⟩ (.int .i64 v.i)).setCell ⟨w.heap.size, 2, none⟩ (.string v.s)) := by
  have n4 := hg.keep o4 (fun e => e)
  have o5 := only3' w4 w.heap.size (.bool v.str) (.int .i64 v.i) (.string v.s)
  refine ⟨n4, val_set n4 v, v, rfl, hv, (hm.1.quiet o4).keep o5 (fun c => by have c' : kr = w.heap.size := c; omega) (fun b hb' c => by have c' : b = w.heap.size := c; have := hb b hb'; omega), ?_⟩
  exact Only.lateS (C := fun b => b = w.heap.size) (hm.2.trans (o4.mono (fun _ _ e => e.elim)) (fun _ _ e => e)) o5 (fun b hb => by have hb' : b = w.heap.size := hb; omega)
theorem QmLt.pre {w1 w2 : World} {j : Nat} {x : Value} (o1 : Only (fun _ => False) w w1) (hk : kr < w.heap.size) (hg : Has w1 w.heap.size #[.bool false, .int .i64 0, .string ⟨#[]⟩] 152) (o2 : Only (fun _ => False) w1 w2) (hm : MRp kr tv l (litP P) w2 (w2.setCell ⟨kr, j, none⟩ x)) : MRp kr tv l (litP P) w (w2.setCell ⟨kr, j, none⟩ x) ∧ Has (w2.setCell ⟨kr, j, none⟩ x) w.heap.size #[.bool false, .int .i64 0, .string ⟨#[]⟩] 152 :=
  ⟨⟨hm.1, ((o1.trans o2 (fun _ _ e => e)).mono (T := fun b => b = kr) (fun _ _ e => e.elim)).trans hm.2 (fun _ _ e => e)⟩, (hg.keep o2 (fun e => e)).keep hm.2 (fun c => by have c' : w.heap.size = kr := c; omega)⟩
set_option maxRecDepth 100000 in
set_option maxHeartbeats 8000000 in
theorem smlit_any (h : MRd w kr tv l P) : Calls Tryz.prog 267 #[.pointer (some ⟨kr, 0, none⟩)] w (QmLt kr tv l P w) := by
  obtain ⟨i, bad, h1, hP⟩ := h
  have o0 : Only (fun _ => False) w (w.alloc (.cells #[.bool false, .int .i64 0, .string ⟨#[]⟩] 152)) := (Only.refl _ w).alloc _
  have hg := Has.new w #[.bool false, .int .i64 0, .string ⟨#[]⟩] 152
  have hgr : w.heap.size ≠ kr := by have := h1.has.lt; omega
  have hkb : kr < w.heap.size ∧ ∀ b, tv.ownBlock = some b → b < w.heap.size := ⟨h1.has.lt, fun b hb => ownsRow_lt h1.own b hb⟩
  have h2 := h1.keep o0 (fun e => e) (fun _ _ e => e)
  go_enter Tryz.func267, Tryz.ntmps267
  go_upto_region 1 with fail
  generalize w.alloc (.cells #[.bool false, .int .i64 0, .string ⟨#[]⟩] 152) = w1 at *
  obtain ⟨gv, hgv⟩ : ∃ gv, w.heap.size = gv := ⟨_, rfl⟩
  rw [hgv] at hgr ⊢
  have HH := hide h2
  have HP := hide hP
  have HO := hide (And.intro o0 hgv)
  have HG := hide hg
  have c0 : w1.cell? ⟨kr, 0, none⟩ = some tv := h2.has.cell 0
  have c1 : w1.cell? ⟨kr, 1, none⟩ = some (.int .i64 (i : Int)) := h2.has.cell 1
  have c2 : w1.cell? ⟨kr, 2, none⟩ = some (.bool bad) := h2.has.cell 2
  have f1 := h2.has.free 1
  have f2 := h2.has.free 2
  have kl := h2.has.lt
  obtain ⟨a, cap, rfl⟩ := ownsRow_shape h2.own
  have l1 := h2.l256
  have hown := h2.own
  have hne := h2.ne
  have hgv2 := hgv
  clear h1 hP h2 o0 hg hgv2
  by_cases hi : i < l.length
  · obtain ⟨y, hy⟩ : ∃ y, l[i]? = some y := ⟨_, List.getElem?_eq_getElem hi⟩
    obtain ⟨g, rfl, d0, d1, d2⟩ := OwnT.at_ hown hy
    have b1 : decide ((i : Int) < (l.length : Int)) = true := decide_eq_true (by omega)
    have b1p : (i : Int) < (l.length : Int) := by omega
    have iw : IntKind.i64.wrap ((i : Int) + 1) = ((i + 1 : Nat) : Int) := by rw [IntWalk.i64_in] <;> omega
    have iw2 : IntKind.i64.wrap (((i + 1 : Nat) : Int) - 1) = (i : Int) := by rw [IntWalk.i64_in] <;> omega
    have Hy := hide (And.intro hi hy)
    obtain ⟨n, hn⟩ : ∃ n, l.length = n := ⟨_, rfl⟩
    have HNe := hide (show ¬ kr = gv ∧ ¬ g = gv from ⟨fun e => hgr e.symm, fun e => by have := hkb.2 g (by simp [Value.ownBlock]); omega⟩)
    have HK := hide hkb
    rw [hn] at b1 b1p c0 l1
    have Hn := hide hn
    have iw3 : IntKind.i64.wrap (i : Int) = (i : Int) := by rw [IntWalk.i64_in] <;> omega
    clear hown hne hy hi hkb hn
    cases y with
    | num v =>
      simp only [tkK, tkN] at d0 d2
      clear d1
      go_quiet (fail)
      go_upto_region 3 with fail
      have oq : Only (fun _ => False) w1 (w1.drewN nq) := onlyQ _ _
      have h2 := (unhide HH).keep oq (fun e => e) (fun _ _ e => e)
      have hl := lit_num (unhide HP) (unhide Hy).1 (unhide Hy).2
      have hm : MRp kr (.slice (some ⟨g, 0, none⟩) l.length cap) l (litP P) (w1.drewN nq) ((w1.drewN nq).setCell ⟨kr, 1, none⟩ (.int .i64 ((i + 1 : Nat) : Int))) := by rw [hl.1]; exact h2.nxt (unhide Hy).1 (unhide HP)
      have hq := QmLt.pre (unhide HO).1 (unhide HK).1 (unhide HG) oq hm
      have h3 := h2.on (unhide Hy).1
      rw [unhide Hn] at h3
      have s0 := h3.has.cell 0
      have s1 := h3.has.cell 1
      have s2 : ((w1.drewN nq).setCell ⟨kr, 1, none⟩ (.int .i64 ((i + 1 : Nat) : Int))).cell? ⟨g, i * 3 + 2, none⟩ = some (.int .i64 v) := by
        obtain ⟨g', e', _, y1, y2⟩ := OwnT.at_ h3.own (unhide Hy).2
        cases e'
        exact y2
      have HQ := hide (And.intro hq hl.2)
      obtain ⟨w3, hw3⟩ : ∃ w3, (w1.drewN nq).setCell ⟨kr, 1, none⟩ (.int .i64 ((i + 1 : Nat) : Int)) = w3 := ⟨_, rfl⟩
      rw [hw3] at HQ s0 s1 s2
      clear h2 hl hm hq h3
      have e3 : (w1.drewN nq).setCell ⟨kr, 1, none⟩ (.int .i64 ((i : Int) + 1)) = w3 := hw3
      rw [e3]
      clear e3 hw3 oq c0 c1 c2 f1 f2 kl d0 d2
      have C1 := eInt_any v w3.drew
      unfold vlA vI at C1
      have C1 := hide C1
      have S0 : w3.cell? ⟨kr, 0, none⟩ = some (.slice (some ⟨g, 0, none⟩) n cap) ∧ w3.cell? ⟨kr, 1, none⟩ = some (.int .i64 ((i : Int) + 1)) ∧ w3.cell? ⟨g, i * 3 + 2, none⟩ = some (.int .i64 v) := ⟨s0, s1, s2⟩
      clear s0 s1 s2
      have HS0 := hide S0
      refine wp_region_held_drew (S := (fun w' => w'.cell? ⟨kr, 0, none⟩ = some (.slice (some ⟨g, 0, none⟩) n cap) ∧ w'.cell? ⟨kr, 1, none⟩ = some (.int .i64 ((i : Int) + 1)) ∧ w'.cell? ⟨g, i * 3 + 2, none⟩ = some (.int .i64 v))) (by kernel_rfl) S0 (fun hH0 => ?_)
      refine takeH 0 34 (v := ?vq01) rfl rfl (by kernel_rfl) (by kernel_rfl) (by kernel_rfl) (fun _ _ _ h => h) (Or.inl ⟨by rfl, ?hq01⟩) hH0 ?rq01
      case hq01 => (intro w hSw; clear hSw; go_simp; (try with_reducible rfl))
      case rq01 =>
      try simp only [Act.put, List.setIfInBounds_toArray, List.set_cons_zero, List.set_cons_succ]
      refine takeH 1 35 (v := ?vq02) rfl rfl (by kernel_rfl) (by kernel_rfl) (by kernel_rfl) (fun _ _ _ h => h) (Or.inl ⟨by rfl, ?hq02⟩) hH0 ?rq02
      case hq02 => (intro w hSw; clear hSw; go_simp; (try with_reducible rfl))
      case rq02 =>
      try simp only [Act.put, List.setIfInBounds_toArray, List.set_cons_zero, List.set_cons_succ]
      refine takeH 2 36 (v := ?vq03) rfl rfl (by kernel_rfl) (by kernel_rfl) (by kernel_rfl) (fun _ _ _ h => h) (Or.inl ⟨by rfl, ?hq03⟩) hH0 ?rq03
      case hq03 => (intro w hSw; clear hSw; go_simp; (try with_reducible rfl))
      case rq03 =>
      try simp only [Act.put, List.setIfInBounds_toArray, List.set_cons_zero, List.set_cons_succ]
      refine takeH 3 37 (v := ?vq04) rfl rfl (by kernel_rfl) (by kernel_rfl) (by kernel_rfl) (fun _ _ _ h => h) (Or.inl ⟨by rfl, ?hq04⟩) hH0 ?rq04
      case hq04 => (intro w hSw; obtain ⟨s0, s1, s2⟩ := hSw; go_simp; (try with_reducible rfl))
      case rq04 =>
      try simp only [Act.put, List.setIfInBounds_toArray, List.set_cons_zero, List.set_cons_succ]
      refine takeH 4 38 (v := ?vq05) rfl rfl (by kernel_rfl) (by kernel_rfl) (by kernel_rfl) (fun _ _ _ h => h) (Or.inl ⟨by rfl, ?hq05⟩) hH0 ?rq05
      case hq05 => (intro w hSw; clear hSw; go_simp; (try with_reducible rfl))
      case rq05 =>
      try simp only [Act.put, List.setIfInBounds_toArray, List.set_cons_zero, List.set_cons_succ]
      refine takeH 5 39 (v := ?vq06) rfl rfl (by kernel_rfl) (by kernel_rfl) (by kernel_rfl) (fun _ _ _ h => h) (Or.inl ⟨by rfl, ?hq06⟩) hH0 ?rq06
      case hq06 => (intro w hSw; clear hSw; go_simp; (try with_reducible rfl))
      case rq06 =>
      try simp only [Act.put, List.setIfInBounds_toArray, List.set_cons_zero, List.set_cons_succ]
      refine takeH 6 40 (v := ?vq07) rfl rfl (by kernel_rfl) (by kernel_rfl) (by kernel_rfl) (fun _ _ _ h => h) (Or.inl ⟨by rfl, ?hq07⟩) hH0 ?rq07
      case hq07 => (intro w hSw; clear hSw; go_simp; (try with_reducible rfl))
      case rq07 =>
      try simp only [Act.put, List.setIfInBounds_toArray, List.set_cons_zero, List.set_cons_succ]
      refine takeH 7 41 (v := ?vq08) rfl rfl (by kernel_rfl) (by kernel_rfl) (by kernel_rfl) (fun _ _ _ h => h) (Or.inl ⟨by rfl, ?hq08⟩) hH0 ?rq08
      case hq08 => (intro w hSw; obtain ⟨s0, s1, s2⟩ := hSw; go_simp; (try with_reducible rfl))
      case rq08 =>
      try simp only [Act.put, List.setIfInBounds_toArray, List.set_cons_zero, List.set_cons_succ]
      refine takeH 8 42 (v := ?vq09) rfl rfl (by kernel_rfl) (by kernel_rfl) (by kernel_rfl) (fun _ _ _ h => h) (Or.inl ⟨by rfl, ?hq09⟩) hH0 ?rq09
      case hq09 => (intro w hSw; clear hSw; go_simp; (try with_reducible rfl))
      case rq09 =>
      try simp only [Act.put, List.setIfInBounds_toArray, List.set_cons_zero, List.set_cons_succ]
      refine takeH 9 43 (v := ?vq010) rfl rfl (by kernel_rfl) (by kernel_rfl) (by kernel_rfl) (fun _ _ _ h => h) (Or.inl ⟨by rfl, ?hq010⟩) hH0 ?rq010
      case hq010 => (intro w hSw; clear hSw; go_simp; (try with_reducible rfl))
      case rq010 =>
      try simp only [Act.put, List.setIfInBounds_toArray, List.set_cons_zero, List.set_cons_succ]
      refine takeH 10 44 (v := ?vq011) rfl rfl (by kernel_rfl) (by kernel_rfl) (by kernel_rfl) (fun _ _ _ h => h) (Or.inl ⟨by rfl, ?hq011⟩) hH0 ?rq011
      case hq011 => (intro w hSw; clear hSw; go_simp; (try with_reducible rfl))
      case rq011 =>
      try simp only [Act.put, List.setIfInBounds_toArray, List.set_cons_zero, List.set_cons_succ]
      refine takeH 11 45 (v := ?vq012) rfl rfl (by kernel_rfl) (by kernel_rfl) (by kernel_rfl) (fun _ _ _ h => h) (Or.inl ⟨by rfl, ?hq012⟩) hH0 ?rq012
      case hq012 => (intro w hSw; obtain ⟨s0, s1, s2⟩ := hSw; go_simp; (try with_reducible rfl))
      case rq012 =>
      try simp only [Act.put, List.setIfInBounds_toArray, List.set_cons_zero, List.set_cons_succ]
      refine callH 12 (by kernel_rfl) rfl 46 rfl rfl 157 Tryz.func157 (by kernel_rfl) (by kernel_rfl) #[.tmp 45] #[3] rfl #[.int .i64 v] (by simp [Act.eval]) (R := fun v' w' => v' = .agg #[.bool false, .int .i64 v, .string ⟨#[]⟩] ∧ Only (fun _ => False) w3.drew w') ((unhide C1).mono (by rintro en w' ⟨rfl, o⟩; exact ⟨_, rfl, rfl, o⟩)) ?kcc0
      case kcc0 =>
      rintro _ w4 ⟨rfl, o4⟩
      have oE : Only (fun _ => False) w3 w4 := (Only.refl _ w3).drew.trans o4 (fun _ _ e => e)
      obtain ⟨n4, n5, hfin⟩ := QmLt.fin (v := vI v) (unhide HK).1 (unhide HK).2 (unhide HQ).1.1 (unhide HQ).2 (unhide HQ).1.2 oE
      rw [(unhide HO).2] at n4 n5 hfin
      have S4 : w4.cell? ⟨kr, 0, none⟩ = some (.slice (some ⟨g, 0, none⟩) n cap) ∧ w4.cell? ⟨kr, 1, none⟩ = some (.int .i64 ((i : Int) + 1)) ∧ w4.cell? ⟨g, i * 3 + 2, none⟩ = some (.int .i64 v) := ⟨oE.cellS (unhide HS0).1, oE.cellS (unhide HS0).2.1, oE.cellS (unhide HS0).2.2⟩
      refine ⟨S4, ?_⟩
      try simp only [Act.put, List.setIfInBounds_toArray, List.set_cons_zero, List.set_cons_succ]
      have S5 : (((w4.setCell ⟨gv, 0, none⟩ (.bool false)).setCell ⟨gv, 1, none⟩ (.int .i64 v)).setCell ⟨gv, 2, none⟩ (.string ⟨#[]⟩)).cell? ⟨kr, 0, none⟩ = some (.slice (some ⟨g, 0, none⟩) n cap) ∧ (((w4.setCell ⟨gv, 0, none⟩ (.bool false)).setCell ⟨gv, 1, none⟩ (.int .i64 v)).setCell ⟨gv, 2, none⟩ (.string ⟨#[]⟩)).cell? ⟨kr, 1, none⟩ = some (.int .i64 ((i : Int) + 1)) ∧ (((w4.setCell ⟨gv, 0, none⟩ (.bool false)).setCell ⟨gv, 1, none⟩ (.int .i64 v)).setCell ⟨gv, 2, none⟩ (.string ⟨#[]⟩)).cell? ⟨g, i * 3 + 2, none⟩ = some (.int .i64 v) := ⟨cell_keep S4.1 (only3' w4 gv _ _ _) (unhide HNe).1, cell_keep S4.2.1 (only3' w4 gv _ _ _) (unhide HNe).1, cell_keep S4.2.2 (only3' w4 gv _ _ _) (unhide HNe).2⟩
      refine storeH_any 13 (by kernel_rfl) rfl rfl rfl 152 _ _ rfl ⟨gv, 0, none⟩ (.agg #[.bool false, .int .i64 v, .string ⟨#[]⟩]) rfl rfl (run_store_val (n4.cell 0) (n4.cell 1) (n4.cell 2) (n4.free 0) (n4.free 1) (n4.free 2) _ _ _) S5 ?_
      try simp only [Act.put, List.setIfInBounds_toArray, List.set_cons_zero, List.set_cons_succ]
      refine wpAnyH_done (by kernel_rfl) ?_ _
      have FF := hide hfin
      have N5 := hide n5
      clear n4 n5 hfin S4 S5 oE o4
      go_wp2_with fail
      exact bodyPost_ret (sres_val Tryz.results267 _ rfl (unhide N5) rfl) rfl (unhide FF)
    | str v =>
      simp only [tkK, tkT] at d0 d1
      clear d2
      go_quiet (fail)
      go_upto_region 4 with fail
      have oq0 : Only (fun _ => False) w1 (w1.drewN nq) := onlyQ _ _
      obtain ⟨w2, hw2⟩ : ∃ w2, w1.drewN nq = w2 := ⟨_, rfl⟩
      rw [hw2] at oq0 ⊢
      have h2 := (unhide HH).keep oq0 (fun e => e) (fun _ _ e => e)
      have hg2 := (unhide HG).keep oq0 (fun e => e)
      have HH2 := hide h2
      have HG2 := hide hg2
      have HO2 := hide (And.intro ((unhide HO).1.trans oq0 (fun _ _ e => e)) (unhide HO).2)
      have c0 : w2.cell? ⟨kr, 0, none⟩ = _ := oq0.cellS c0
      have c1 : w2.cell? ⟨kr, 1, none⟩ = _ := oq0.cellS c1
      have c2 : w2.cell? ⟨kr, 2, none⟩ = _ := oq0.cellS c2
      have f1 := h2.has.free 1
      have f2 := h2.has.free 2
      have kl := h2.has.lt
      try have d0 := oq0.cellS d0
      try have d1 := oq0.cellS d1
      try have d2 := oq0.cellS d2
      clear hw2 oq0 h2 hg2 HH HG HO
      have HH := HH2
      have HG := HG2
      have HO := HO2
      clear HH2 HG2 HO2
      go_quiet (fail)
      go_upto_region 6 with fail
      have oq : Only (fun _ => False) w2 (w2.drewN nq) := onlyQ _ _
      have h2 := (unhide HH).keep oq (fun e => e) (fun _ _ e => e)
      have hl := lit_str (unhide HP) (unhide Hy).1 (unhide Hy).2
      have hm : MRp kr (.slice (some ⟨g, 0, none⟩) l.length cap) l (litP P) (w2.drewN nq) ((w2.drewN nq).setCell ⟨kr, 1, none⟩ (.int .i64 ((i + 1 : Nat) : Int))) := by rw [hl.1]; exact h2.nxt (unhide Hy).1 (unhide HP)
      have hq := QmLt.pre (unhide HO).1 (unhide HK).1 (unhide HG) oq hm
      have h3 := h2.on (unhide Hy).1
      rw [unhide Hn] at h3
      have s0 := h3.has.cell 0
      have s1 := h3.has.cell 1
      have s2 : ((w2.drewN nq).setCell ⟨kr, 1, none⟩ (.int .i64 ((i + 1 : Nat) : Int))).cell? ⟨g, i * 3 + 1, none⟩ = some (.string v) := by
        obtain ⟨g', e', _, y1, y2⟩ := OwnT.at_ h3.own (unhide Hy).2
        cases e'
        exact y1
      have HQ := hide (And.intro hq hl.2)
      obtain ⟨w3, hw3⟩ : ∃ w3, (w2.drewN nq).setCell ⟨kr, 1, none⟩ (.int .i64 ((i + 1 : Nat) : Int)) = w3 := ⟨_, rfl⟩
      rw [hw3] at HQ s0 s1 s2
      clear h2 hl hm hq h3
      have e3 : (w2.drewN nq).setCell ⟨kr, 1, none⟩ (.int .i64 ((i : Int) + 1)) = w3 := hw3
      rw [e3]
      clear e3 hw3 oq c0 c1 c2 f1 f2 kl d0 d1
      have C1 := eStr_any v w3.drew
      unfold vlA vS at C1
      have C1 := hide C1
      have S0 : w3.cell? ⟨kr, 0, none⟩ = some (.slice (some ⟨g, 0, none⟩) n cap) ∧ w3.cell? ⟨kr, 1, none⟩ = some (.int .i64 ((i : Int) + 1)) ∧ w3.cell? ⟨g, i * 3 + 1, none⟩ = some (.string v) := ⟨s0, s1, s2⟩
      clear s0 s1 s2
      have HS0 := hide S0
      refine wp_region_held_drew (S := (fun w' => w'.cell? ⟨kr, 0, none⟩ = some (.slice (some ⟨g, 0, none⟩) n cap) ∧ w'.cell? ⟨kr, 1, none⟩ = some (.int .i64 ((i : Int) + 1)) ∧ w'.cell? ⟨g, i * 3 + 1, none⟩ = some (.string v))) (by kernel_rfl) S0 (fun hH0 => ?_)
      refine takeH 0 78 (v := ?vq11) rfl rfl (by kernel_rfl) (by kernel_rfl) (by kernel_rfl) (fun _ _ _ h => h) (Or.inl ⟨by rfl, ?hq11⟩) hH0 ?rq11
      case hq11 => (intro w hSw; clear hSw; go_simp; (try with_reducible rfl))
      case rq11 =>
      try simp only [Act.put, List.setIfInBounds_toArray, List.set_cons_zero, List.set_cons_succ]
      refine takeH 1 79 (v := ?vq12) rfl rfl (by kernel_rfl) (by kernel_rfl) (by kernel_rfl) (fun _ _ _ h => h) (Or.inl ⟨by rfl, ?hq12⟩) hH0 ?rq12
      case hq12 => (intro w hSw; clear hSw; go_simp; (try with_reducible rfl))
      case rq12 =>
      try simp only [Act.put, List.setIfInBounds_toArray, List.set_cons_zero, List.set_cons_succ]
      refine takeH 2 80 (v := ?vq13) rfl rfl (by kernel_rfl) (by kernel_rfl) (by kernel_rfl) (fun _ _ _ h => h) (Or.inl ⟨by rfl, ?hq13⟩) hH0 ?rq13
      case hq13 => (intro w hSw; clear hSw; go_simp; (try with_reducible rfl))
      case rq13 =>
      try simp only [Act.put, List.setIfInBounds_toArray, List.set_cons_zero, List.set_cons_succ]
      refine takeH 3 81 (v := ?vq14) rfl rfl (by kernel_rfl) (by kernel_rfl) (by kernel_rfl) (fun _ _ _ h => h) (Or.inl ⟨by rfl, ?hq14⟩) hH0 ?rq14
      case hq14 => (intro w hSw; obtain ⟨s0, s1, s2⟩ := hSw; go_simp; (try with_reducible rfl))
      case rq14 =>
      try simp only [Act.put, List.setIfInBounds_toArray, List.set_cons_zero, List.set_cons_succ]
      refine takeH 4 82 (v := ?vq15) rfl rfl (by kernel_rfl) (by kernel_rfl) (by kernel_rfl) (fun _ _ _ h => h) (Or.inl ⟨by rfl, ?hq15⟩) hH0 ?rq15
      case hq15 => (intro w hSw; clear hSw; go_simp; (try with_reducible rfl))
      case rq15 =>
      try simp only [Act.put, List.setIfInBounds_toArray, List.set_cons_zero, List.set_cons_succ]
      refine takeH 5 83 (v := ?vq16) rfl rfl (by kernel_rfl) (by kernel_rfl) (by kernel_rfl) (fun _ _ _ h => h) (Or.inl ⟨by rfl, ?hq16⟩) hH0 ?rq16
      case hq16 => (intro w hSw; clear hSw; go_simp; (try with_reducible rfl))
      case rq16 =>
      try simp only [Act.put, List.setIfInBounds_toArray, List.set_cons_zero, List.set_cons_succ]
      refine takeH 6 84 (v := ?vq17) rfl rfl (by kernel_rfl) (by kernel_rfl) (by kernel_rfl) (fun _ _ _ h => h) (Or.inl ⟨by rfl, ?hq17⟩) hH0 ?rq17
      case hq17 => (intro w hSw; clear hSw; go_simp; (try with_reducible rfl))
      case rq17 =>
      try simp only [Act.put, List.setIfInBounds_toArray, List.set_cons_zero, List.set_cons_succ]
      refine takeH 7 85 (v := ?vq18) rfl rfl (by kernel_rfl) (by kernel_rfl) (by kernel_rfl) (fun _ _ _ h => h) (Or.inl ⟨by rfl, ?hq18⟩) hH0 ?rq18
      case hq18 => (intro w hSw; obtain ⟨s0, s1, s2⟩ := hSw; go_simp; (try with_reducible rfl))
      case rq18 =>
      try simp only [Act.put, List.setIfInBounds_toArray, List.set_cons_zero, List.set_cons_succ]
      refine takeH 8 86 (v := ?vq19) rfl rfl (by kernel_rfl) (by kernel_rfl) (by kernel_rfl) (fun _ _ _ h => h) (Or.inl ⟨by rfl, ?hq19⟩) hH0 ?rq19
      case hq19 => (intro w hSw; clear hSw; go_simp; (try with_reducible rfl))
      case rq19 =>
      try simp only [Act.put, List.setIfInBounds_toArray, List.set_cons_zero, List.set_cons_succ]
      refine takeH 9 87 (v := ?vq110) rfl rfl (by kernel_rfl) (by kernel_rfl) (by kernel_rfl) (fun _ _ _ h => h) (Or.inl ⟨by rfl, ?hq110⟩) hH0 ?rq110
      case hq110 => (intro w hSw; clear hSw; go_simp; (try with_reducible rfl))
      case rq110 =>
      try simp only [Act.put, List.setIfInBounds_toArray, List.set_cons_zero, List.set_cons_succ]
      refine takeH 10 88 (v := ?vq111) rfl rfl (by kernel_rfl) (by kernel_rfl) (by kernel_rfl) (fun _ _ _ h => h) (Or.inl ⟨by rfl, ?hq111⟩) hH0 ?rq111
      case hq111 => (intro w hSw; clear hSw; go_simp; (try with_reducible rfl))
      case rq111 =>
      try simp only [Act.put, List.setIfInBounds_toArray, List.set_cons_zero, List.set_cons_succ]
      refine takeH 11 89 (v := ?vq112) rfl rfl (by kernel_rfl) (by kernel_rfl) (by kernel_rfl) (fun _ _ _ h => h) (Or.inl ⟨by rfl, ?hq112⟩) hH0 ?rq112
      case hq112 => (intro w hSw; obtain ⟨s0, s1, s2⟩ := hSw; go_simp; (try with_reducible rfl))
      case rq112 =>
      try simp only [Act.put, List.setIfInBounds_toArray, List.set_cons_zero, List.set_cons_succ]
      refine callH 12 (by kernel_rfl) rfl 90 rfl rfl 158 Tryz.func158 (by kernel_rfl) (by kernel_rfl) #[.tmp 89] #[9] rfl #[.string v] (by simp [Act.eval]) (R := fun v' w' => v' = .agg #[.bool true, .int .i64 0, .string v] ∧ Only (fun _ => False) w3.drew w') ((unhide C1).mono (by rintro en w' ⟨rfl, o⟩; exact ⟨_, rfl, rfl, o⟩)) ?kcc1
      case kcc1 =>
      rintro _ w4 ⟨rfl, o4⟩
      have oE : Only (fun _ => False) w3 w4 := (Only.refl _ w3).drew.trans o4 (fun _ _ e => e)
      obtain ⟨n4, n5, hfin⟩ := QmLt.fin (v := vS v) (unhide HK).1 (unhide HK).2 (unhide HQ).1.1 (unhide HQ).2 (unhide HQ).1.2 oE
      rw [(unhide HO).2] at n4 n5 hfin
      have S4 : w4.cell? ⟨kr, 0, none⟩ = some (.slice (some ⟨g, 0, none⟩) n cap) ∧ w4.cell? ⟨kr, 1, none⟩ = some (.int .i64 ((i : Int) + 1)) ∧ w4.cell? ⟨g, i * 3 + 1, none⟩ = some (.string v) := ⟨oE.cellS (unhide HS0).1, oE.cellS (unhide HS0).2.1, oE.cellS (unhide HS0).2.2⟩
      refine ⟨S4, ?_⟩
      try simp only [Act.put, List.setIfInBounds_toArray, List.set_cons_zero, List.set_cons_succ]
      have S5 : (((w4.setCell ⟨gv, 0, none⟩ (.bool true)).setCell ⟨gv, 1, none⟩ (.int .i64 0)).setCell ⟨gv, 2, none⟩ (.string v)).cell? ⟨kr, 0, none⟩ = some (.slice (some ⟨g, 0, none⟩) n cap) ∧ (((w4.setCell ⟨gv, 0, none⟩ (.bool true)).setCell ⟨gv, 1, none⟩ (.int .i64 0)).setCell ⟨gv, 2, none⟩ (.string v)).cell? ⟨kr, 1, none⟩ = some (.int .i64 ((i : Int) + 1)) ∧ (((w4.setCell ⟨gv, 0, none⟩ (.bool true)).setCell ⟨gv, 1, none⟩ (.int .i64 0)).setCell ⟨gv, 2, none⟩ (.string v)).cell? ⟨g, i * 3 + 1, none⟩ = some (.string v) := ⟨cell_keep S4.1 (only3' w4 gv _ _ _) (unhide HNe).1, cell_keep S4.2.1 (only3' w4 gv _ _ _) (unhide HNe).1, cell_keep S4.2.2 (only3' w4 gv _ _ _) (unhide HNe).2⟩
      refine storeH_any 13 (by kernel_rfl) rfl rfl rfl 152 _ _ rfl ⟨gv, 0, none⟩ (.agg #[.bool true, .int .i64 0, .string v]) rfl rfl (run_store_val (n4.cell 0) (n4.cell 1) (n4.cell 2) (n4.free 0) (n4.free 1) (n4.free 2) _ _ _) S5 ?_
      try simp only [Act.put, List.setIfInBounds_toArray, List.set_cons_zero, List.set_cons_succ]
      refine wpAnyH_done (by kernel_rfl) ?_ _
      have FF := hide hfin
      have N5 := hide n5
      clear n4 n5 hfin S4 S5 oE o4
      go_wp2_with fail
      exact bodyPost_ret (sres_val Tryz.results267 _ rfl (unhide N5) rfl) rfl (unhide FF)
    | word s =>
      simp only [tkK] at d0
      clear d1 d2
      go_quiet (fail)
      go_upto_region 4 with fail
      have oq0 : Only (fun _ => False) w1 (w1.drewN nq) := onlyQ _ _
      obtain ⟨w2, hw2⟩ : ∃ w2, w1.drewN nq = w2 := ⟨_, rfl⟩
      rw [hw2] at oq0 ⊢
      have h2 := (unhide HH).keep oq0 (fun e => e) (fun _ _ e => e)
      have hg2 := (unhide HG).keep oq0 (fun e => e)
      have HH2 := hide h2
      have HG2 := hide hg2
      have HO2 := hide (And.intro ((unhide HO).1.trans oq0 (fun _ _ e => e)) (unhide HO).2)
      have c0 : w2.cell? ⟨kr, 0, none⟩ = _ := oq0.cellS c0
      have c1 : w2.cell? ⟨kr, 1, none⟩ = _ := oq0.cellS c1
      have c2 : w2.cell? ⟨kr, 2, none⟩ = _ := oq0.cellS c2
      have f1 := h2.has.free 1
      have f2 := h2.has.free 2
      have kl := h2.has.lt
      try have d0 := oq0.cellS d0
      try have d1 := oq0.cellS d1
      try have d2 := oq0.cellS d2
      clear hw2 oq0 h2 hg2 HH HG HO
      have HH := HH2
      have HG := HG2
      have HO := HO2
      clear HH2 HG2 HO2
      go_quiet (fail)
      have HL := hide (lit_no (unhide HP) (fun y' hy' => by rw [(unhide Hy).2] at hy'; cases hy'; exact ⟨(fun _ c => by cases c), (fun _ c => by cases c)⟩))
      go_upto_region 8 with fail
      have oq : Only (fun _ => False) w2 (w2.drewN nq) := onlyQ _ _
      have h2 := (unhide HH).keep oq (fun e => e) (fun _ _ e => e)
      have hl := unhide HL
      have hm := h2.fail
      rw [← hl.1] at hm
      have hq := QmLt.pre (unhide HO).1 (unhide HK).1 (unhide HG) oq hm
      have HQ := hide (And.intro hq (fun c => (hl.2 c).symm))
      clear h2 hl hm hq HL
      generalize (w2.drewN nq).setCell ⟨kr, 2, none⟩ (.bool true) = w3 at *
      have C1 := eInt_any 0 w3
      unfold vlA vI at C1
      have C1 := hide C1
      clear oq c0 c1 c2 f1 f2 kl
      go_wp2_with fail
      refine (unhide C1).mono ?_
      rintro e4 w4 ⟨rfl, o4⟩
      obtain ⟨n4, n5, hfin⟩ := QmLt.fin (v := vI 0) (unhide HK).1 (unhide HK).2 (unhide HQ).1.1 (unhide HQ).2 (unhide HQ).1.2 o4
      rw [(unhide HO).2] at n4 n5 hfin
      have x0 := n4.cell 0
      have x1 := n4.cell 1
      have x2 := n4.cell 2
      have y0 := n4.free 0
      have y1 := n4.free 1
      have y2 := n4.free 2
      have gl := n4.lt
      have FF := hide hfin
      have N5 := hide n5
      clear n4 n5 hfin o4 C1
      go_wp2_with fail
      exact bodyPost_ret (sres_val Tryz.results267 _ rfl (unhide N5) rfl) rfl (unhide FF)
    | sign s =>
      simp only [tkK] at d0
      clear d1 d2
      go_quiet (fail)
      go_upto_region 4 with fail
      have oq0 : Only (fun _ => False) w1 (w1.drewN nq) := onlyQ _ _
      obtain ⟨w2, hw2⟩ : ∃ w2, w1.drewN nq = w2 := ⟨_, rfl⟩
      rw [hw2] at oq0 ⊢
      have h2 := (unhide HH).keep oq0 (fun e => e) (fun _ _ e => e)
      have hg2 := (unhide HG).keep oq0 (fun e => e)
      have HH2 := hide h2
      have HG2 := hide hg2
      have HO2 := hide (And.intro ((unhide HO).1.trans oq0 (fun _ _ e => e)) (unhide HO).2)
      have c0 : w2.cell? ⟨kr, 0, none⟩ = _ := oq0.cellS c0
      have c1 : w2.cell? ⟨kr, 1, none⟩ = _ := oq0.cellS c1
      have c2 : w2.cell? ⟨kr, 2, none⟩ = _ := oq0.cellS c2
      have f1 := h2.has.free 1
      have f2 := h2.has.free 2
      have kl := h2.has.lt
      try have d0 := oq0.cellS d0
      try have d1 := oq0.cellS d1
      try have d2 := oq0.cellS d2
      clear hw2 oq0 h2 hg2 HH HG HO
      have HH := HH2
      have HG := HG2
      have HO := HO2
      clear HH2 HG2 HO2
      go_quiet (fail)
      have HL := hide (lit_no (unhide HP) (fun y' hy' => by rw [(unhide Hy).2] at hy'; cases hy'; exact ⟨(fun _ c => by cases c), (fun _ c => by cases c)⟩))
      go_upto_region 8 with fail
      have oq : Only (fun _ => False) w2 (w2.drewN nq) := onlyQ _ _
      have h2 := (unhide HH).keep oq (fun e => e) (fun _ _ e => e)
      have hl := unhide HL
      have hm := h2.fail
      rw [← hl.1] at hm
      have hq := QmLt.pre (unhide HO).1 (unhide HK).1 (unhide HG) oq hm
      have HQ := hide (And.intro hq (fun c => (hl.2 c).symm))
      clear h2 hl hm hq HL
      generalize (w2.drewN nq).setCell ⟨kr, 2, none⟩ (.bool true) = w3 at *
      have C1 := eInt_any 0 w3
      unfold vlA vI at C1
      have C1 := hide C1
      clear oq c0 c1 c2 f1 f2 kl
      go_wp2_with fail
      refine (unhide C1).mono ?_
      rintro e4 w4 ⟨rfl, o4⟩
      obtain ⟨n4, n5, hfin⟩ := QmLt.fin (v := vI 0) (unhide HK).1 (unhide HK).2 (unhide HQ).1.1 (unhide HQ).2 (unhide HQ).1.2 o4
      rw [(unhide HO).2] at n4 n5 hfin
      have x0 := n4.cell 0
      have x1 := n4.cell 1
      have x2 := n4.cell 2
      have y0 := n4.free 0
      have y1 := n4.free 1
      have y2 := n4.free 2
      have gl := n4.lt
      have FF := hide hfin
      have N5 := hide n5
      clear n4 n5 hfin o4 C1
      go_wp2_with fail
      exact bodyPost_ret (sres_val Tryz.results267 _ rfl (unhide N5) rfl) rfl (unhide FF)
  · have b1 : decide ((i : Int) < (l.length : Int)) = false := decide_eq_false (by omega)
    have b1p : ¬ (i : Int) < (l.length : Int) := by omega
    have HK := hide hkb
    have Hi := hide hi
    obtain ⟨n, hn⟩ : ∃ n, l.length = n := ⟨_, rfl⟩
    rw [hn] at b1 b1p c0 l1
    have Hn := hide hn
    clear hown hne hi hkb hn
    go_quiet (fail)
    go_upto_region 4 with fail
    have oq0 : Only (fun _ => False) w1 (w1.drewN nq) := onlyQ _ _
    obtain ⟨w2, hw2⟩ : ∃ w2, w1.drewN nq = w2 := ⟨_, rfl⟩
    rw [hw2] at oq0 ⊢
    have h2 := (unhide HH).keep oq0 (fun e => e) (fun _ _ e => e)
    have hg2 := (unhide HG).keep oq0 (fun e => e)
    have HH2 := hide h2
    have HG2 := hide hg2
    have HO2 := hide (And.intro ((unhide HO).1.trans oq0 (fun _ _ e => e)) (unhide HO).2)
    have c0 : w2.cell? ⟨kr, 0, none⟩ = _ := oq0.cellS c0
    have c1 : w2.cell? ⟨kr, 1, none⟩ = _ := oq0.cellS c1
    have c2 : w2.cell? ⟨kr, 2, none⟩ = _ := oq0.cellS c2
    have f1 := h2.has.free 1
    have f2 := h2.has.free 2
    have kl := h2.has.lt
    clear hw2 oq0 h2 hg2 HH HG HO
    have HH := HH2
    have HG := HG2
    have HO := HO2
    clear HH2 HG2 HO2
    go_quiet (fail)
    have HL := hide (lit_no (unhide HP) (fun y' hy' => by rw [List.getElem?_eq_none (by have := unhide Hi; omega)] at hy'; cases hy'))
    go_upto_region 8 with fail
    have oq : Only (fun _ => False) w2 (w2.drewN nq) := onlyQ _ _
    have h2 := (unhide HH).keep oq (fun e => e) (fun _ _ e => e)
    have hl := unhide HL
    have hm := h2.fail
    rw [← hl.1] at hm
    have hq := QmLt.pre (unhide HO).1 (unhide HK).1 (unhide HG) oq hm
    have HQ := hide (And.intro hq (fun c => (hl.2 c).symm))
    clear h2 hl hm hq HL
    generalize (w2.drewN nq).setCell ⟨kr, 2, none⟩ (.bool true) = w3 at *
    have C1 := eInt_any 0 w3
    unfold vlA vI at C1
    have C1 := hide C1
    clear oq c0 c1 c2 f1 f2 kl
    go_wp2_with fail
    refine (unhide C1).mono ?_
    rintro e4 w4 ⟨rfl, o4⟩
    obtain ⟨n4, n5, hfin⟩ := QmLt.fin (v := vI 0) (unhide HK).1 (unhide HK).2 (unhide HQ).1.1 (unhide HQ).2 (unhide HQ).1.2 o4
    rw [(unhide HO).2] at n4 n5 hfin
    have x0 := n4.cell 0
    have x1 := n4.cell 1
    have x2 := n4.cell 2
    have y0 := n4.free 0
    have y1 := n4.free 1
    have y2 := n4.free 2
    have gl := n4.lt
    have FF := hide hfin
    have N5 := hide n5
    clear n4 n5 hfin o4 C1
    go_wp2_with fail
    exact bodyPost_ret (sres_val Tryz.results267 _ rfl (unhide N5) rfl) rfl (unhide FF)
end
end Go.Proofs.Qxb6500412aGreat
