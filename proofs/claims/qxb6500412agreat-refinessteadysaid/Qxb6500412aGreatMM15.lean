/-
  OWN WORK. THE TABLE LAW's MODEL: Scan, refused (written by tools/gen_mm15.py).
-/
import Derived.Test.Qxb6500412aGreatMM14
import Derived.Test.Qxb6500412aGreatMM6
import Derived.Test.Qxb6500412aGreatEScn
namespace Go.Proofs.Qxb6500412aGreat
open Go.RowKit Go.PlainAid
set_option linter.unusedSimpArgs false
set_option linter.unusedVariables false

/-- Rows handed out. -/
def FrR (w : World) (R : List (List Vl)) (z : Int) (x : Ending) (w' : World) : Prop := ∃ (v : Value) (Z : List (Value × List Vl)), x = .returned (.tuple #[v, .int .i64 z]) ∧ Z.map (·.2) = R ∧ w'.ownsRow 0 95 1 v Z.length (Z.map (·.1)) ∧ (∀ z ∈ Z, OwnV w' z.1 z.2 ∧ Newer w z.1) ∧ Newer w v ∧ Only (fun _ => False) w w'
theorem FrR.none {w w' : World} {z : Int} (ho : Only (fun _ => False) w w') : FrR w [] z (.returned (.tuple #[.slice none 0 0, .int .i64 z])) w' := ⟨_, [], rfl, rfl, World.ownsRow_nil _ _ _ _, fun z hz => (by simp at hz), fun k hk => by simp [Value.ownBlock] at hk, ho⟩
/-- Rows handed out, all of them apart. -/
def ApR (Z : List (Value × List Vl)) : Prop := Z.Pairwise (fun a b => ∀ k, a.1.ownBlock = some k → b.1.ownBlock ≠ some k)
def FrS (w : World) (R : List (List Vl)) (z : Int) (x : Ending) (w' : World) : Prop := ∃ (v : Value) (Z : List (Value × List Vl)), x = .returned (.tuple #[v, .int .i64 z]) ∧ Z.map (·.2) = R ∧ w'.ownsRow 0 95 1 v Z.length (Z.map (·.1)) ∧ (∀ z ∈ Z, OwnV w' z.1 z.2 ∧ Newer w z.1) ∧ Newer w v ∧ Only (fun _ => False) w w' ∧ ApR Z
theorem FrS.none {w w' : World} {z : Int} (ho : Only (fun _ => False) w w') : FrS w [] z (.returned (.tuple #[.slice none 0 0, .int .i64 z])) w' := ⟨_, [], rfl, rfl, World.ownsRow_nil _ _ _ _, fun z hz => (by simp at hz), fun k hk => (by simp [Value.ownBlock] at hk), ho, List.Pairwise.nil⟩
theorem FrS.fr {w w' : World} {R : List (List Vl)} {z : Int} {x : Ending} (h : FrS w R z x w') : FrR w R z x w' := by
  obtain ⟨v, Z, h0, h1, h2, h3, h4, h5, _⟩ := h
  exact ⟨v, Z, h0, h1, h2, h3, h4, h5⟩
theorem FrS.low {w w' w0 : World} {R : List (List Vl)} {z : Int} {x : Ending} (o : Only (fun _ => False) w0 w) (h : FrS w R z x w') : FrS w0 R z x w' := by
  obtain ⟨v, Z, h0, h1, h2, h3, h4, h5, h6⟩ := h
  have := o.size
  exact ⟨v, Z, h0, h1, h2, fun z hz => ⟨(h3 z hz).1, fun k hk => Nat.le_trans this ((h3 z hz).2 k hk)⟩, fun k hk => Nat.le_trans this (h4 k hk), o.trans h5 (fun _ _ e => e), h6⟩
/-- The rows within, so far. -/
def ScI (w : World) (t : Tb) (c : Nat) (lo hi : Bnd) (j : Nat) (ov : Value) (n : Nat) (wr : World) : Prop := ∃ Z : List (Value × List Vl), n = Z.length ∧ GR 95 1 w ov n (Z.map (·.1)) wr ∧ Z.map (·.2) = (t.rows.take j).filter (fun r => inB lo hi (kyR c r)) ∧ (∀ z ∈ Z, OwnV wr z.1 z.2 ∧ Newer w z.1) ∧ ApR Z
section
variable {w wr w' : World} {t : Tb} {c j n : Nat} {lo hi : Bnd} {ov : Value}
theorem ScI.start (w w' : World) (t : Tb) (c : Nat) (lo hi : Bnd) (o : Only (fun _ => False) w w') : ScI w t c lo hi 0 (.slice none 0 0) 0 w' := ⟨[], rfl, (GR.nil _ _ _).far o, rfl, fun z hz => (by simp at hz), List.Pairwise.nil⟩
theorem ScI.quiet (h : ScI w t c lo hi j ov n wr) (o : Only (fun _ => False) wr w') : ScI w t c lo hi j ov n w' := by
  obtain ⟨Z, h0, h1, h2, h3, h4⟩ := h
  exact ⟨Z, h0, h1.far o, h2, fun z hz => ⟨(h3 z hz).1.keep o (fun _ _ e => e), (h3 z hz).2⟩, h4⟩
theorem ScI.skip (h : ScI w t c lo hi j ov n wr) {r : List Vl} (hr : t.rows[j]? = some r) (hb : inB lo hi (kyR c r) = false) : ScI w t c lo hi (j + 1) ov n wr := by
  obtain ⟨Z, h0, h1, h2, h3, h4⟩ := h
  refine ⟨Z, h0, h1, ?_, h3, h4⟩
  rw [List.take_add_one, hr, List.filter_append, h2]
  simp [hb]
theorem ScI.ho (h : ScI w t c lo hi j ov n wr) : Only (fun _ => False) w wr := by
  obtain ⟨Z, h0, h1, h2, h3, h4⟩ := h
  exact h1.ho
theorem FrR.low {R : List (List Vl)} {z : Int} {x : Ending} {w0 : World} (o : Only (fun _ => False) w0 w) (h : FrR w R z x w') : FrR w0 R z x w' := by
  obtain ⟨v, Z, h0, h1, h2, h3, h4, h5⟩ := h
  have := o.size
  exact ⟨v, Z, h0, h1, h2, fun z hz => ⟨(h3 z hz).1, fun k hk => Nat.le_trans this ((h3 z hz).2 k hk)⟩, fun k hk => Nat.le_trans this (h4 k hk), o.trans h5 (fun _ _ e => e)⟩
theorem ScI.le (h : ScI w t c lo hi j ov n wr) (h8 : t.rows.length ≤ 8) : n ≤ 8 := by
  obtain ⟨Z, h0, h1, h2, h3, h4⟩ := h
  have := congrArg List.length h2
  rw [List.length_map] at this
  have h5 := List.length_filter_le (fun r => inB lo hi (kyR c r)) (t.rows.take j)
  rw [List.length_take] at h5
  omega
theorem ScI.own (h : ScI w t c lo hi j ov n wr) {wq : World} (oq : Only (fun _ => False) wr wq) : ∃ cs, wq.ownsRow 0 95 1 ov n cs ∧ ∀ {u : Value} {r : List Vl} {v' : Value} {w9 : World} {o : Obj}, t.rows[j]? = some r → inB lo hi (kyR c r) = true → OwnV wq u r → Newer wr u → w9.ownsRow 0 95 1 v' (n + 1) (cs ++ [u]) → (wq.alloc o).grownBy w9 ov.ownBlock → (∀ k, v'.ownBlock = some k → ov.ownBlock = some k ∨ k = wq.heap.size + 1) → ScI w t c lo hi (j + 1) v' (n + 1) w9 := by
  have hw := h.ho.size
  have hq := h.quiet oq
  obtain ⟨Z0, g0, g1, g2, g3, g4⟩ := h
  have h0 := g0
  have h1 := g1.far oq
  have h3 : ∀ z ∈ Z0, OwnV wq z.1 z.2 ∧ Newer w z.1 := fun z hz => ⟨(g3 z hz).1.keep oq (fun _ _ e => e), (g3 z hz).2⟩
  refine ⟨_, h1.own, ?_⟩
  intro u r v' w9 o hr hb hO hN hown hgrow hwhere
  have og : Only (fun k => ov.ownBlock = some k) wq w9 := ((Only.refl _ wq).alloc o).grown hgrow (fun k hk _ => hk)
  have kp : ∀ {a : Value} {b : List Vl}, OwnV wq a b → OwnV w9 a b := fun {a b} O => O.keep og (fun k hk e => by
    obtain ⟨cc, hc⟩ := ownsRow_has h1.own e
    exact ownsRow_ne O hc (by decide) k hk rfl)
  refine ⟨Z0 ++ [(u, r)], by simp [h0], ?_, ?_, fun z hz => ?_, ?_⟩
  · rw [List.map_append]
    exact GR.push h1 hown hgrow hwhere
  · rw [List.take_add_one, hr, List.filter_append, List.map_append, g2]
    simp [hb]
  · rcases List.mem_append.mp hz with hz | hz
    · exact ⟨kp (h3 z hz).1, (h3 z hz).2⟩
    · obtain rfl : z = (u, r) := by simpa using hz
      exact ⟨kp hO, fun k hk => Nat.le_trans hw (hN k hk)⟩
  · unfold ApR
    rw [List.pairwise_append]
    refine ⟨g4, List.pairwise_singleton _ _, fun a ha b hb k hk => ?_⟩
    obtain rfl : b = (u, r) := by simpa using hb
    intro c
    have h5 := ownsRow_lt (g3 a ha).1 k hk
    have h6 := hN k c
    omega
/-- The sort makes of them what the scan shows. -/
theorem ScI.sort (h : ScI w t c lo hi t.rows.length ov n wr) (ok : TbOk t) (hc : c < t.cols.length) : Calls Tryz.prog 250 #[ov, .int .i64 c, .bool false] wr fun e w' => e = .returned (.tuple #[]) ∧ FrS w (scnL t c lo hi) 0 (.returned (.tuple #[ov, .int .i64 0])) w' := by
  have h8 := h.le ok.len
  obtain ⟨Z, h0, h1, h2, h3, h4⟩ := h
  rw [List.take_of_length_le (Nat.le_refl _)] at h2
  have hm : ∀ z ∈ Z, z.2 ∈ t.rows := fun z hz => by
    have : z.2 ∈ Z.map (·.2) := List.mem_map.mpr ⟨z, hz, rfl⟩
    rw [h2] at this
    exact (List.mem_filter.mp this).1
  subst h0
  refine (msort_any (c := c) h1.own (fun z hz => ⟨(h3 z hz).1, by rw [(ok.row _ (hm z hz)).len]; exact hc⟩) (by omega)).mono ?_
  rintro e w' ⟨rfl, R, o⟩
  refine ⟨rfl, ov, sortP (cmpZ c) Z, rfl, ?_, by rw [sortP_len]; exact R, fun z hz => ?_, h1.hb, ?_, ?_⟩
  · have e : (sortP (cmpZ c) Z).map (·.2) = sortP (cmpR c) (Z.map (·.2)) := sortP_map (st := cmpR c) (fun z : Value × List Vl => z.2) Z
    rw [e, h2]
    exact sort_scn ok hc
  · have hz := (sortP_perm _ _).mem_iff.mp hz
    exact ⟨(h3 z hz).1.keep o (fun k hk e => by
      obtain ⟨cc, hcc⟩ := ownsRow_has h1.own e
      exact ownsRow_ne (h3 z hz).1 hcc (by decide) k hk rfl), (h3 z hz).2⟩
  · exact h1.ho.trans o (fun k hk e => by have := h1.hb k e; omega)
  · exact ((sortP_perm _ _).pairwise_iff (fun {a b} h c hc1 hc2 => h c hc2 hc1)).mpr h4
end
section
variable {w : World} {dk o : Nat} {v : Value} {l : List GE} {D : Db} {t : Tb} {nm : ByteArray}
set_option maxRecDepth 100000 in
set_option maxHeartbeats 4000000 in
theorem mscan_no (M : MDb w dk o v l D) (hf : findD D nm = none) (col : Int) (lh hh : Bool) (lv hv : Vl) : Calls Tryz.prog 331 #[.pointer (some ⟨dk, o, none⟩), .string nm, .int .i64 col, bdA lh lv, bdA hh hv] w (FrS w (scnD D nm col (bndOf lh lv) (bndOf hh hv)).1 (scnD D nm col (bndOf lh lv) (bndOf hh hv)).2) := by
  have hS : scnD D nm col (bndOf lh lv) (bndOf hh hv) = ([], 10) := by unfold scnD; rw [hf]
  rw [hS]
  have HF := hide hf
  clear hf hS
  have o0 : Only (fun _ => False) w ((w.alloc (.cells #[.bool lh, .bool lv.str, .int .i64 lv.i, .string lv.s] 244)).alloc (.cells #[.bool hh, .bool hv.str, .int .i64 hv.i, .string hv.s] 244)) := ((Only.refl _ w).alloc _).alloc _
  have KL : Has ((w.alloc (.cells #[.bool lh, .bool lv.str, .int .i64 lv.i, .string lv.s] 244)).alloc (.cells #[.bool hh, .bool hv.str, .int .i64 hv.i, .string hv.s] 244)) w.heap.size #[.bool lh, .bool lv.str, .int .i64 lv.i, .string lv.s] 244 := (Has.new w _ _).alloc _
  have KH : Has ((w.alloc (.cells #[.bool lh, .bool lv.str, .int .i64 lv.i, .string lv.s] 244)).alloc (.cells #[.bool hh, .bool hv.str, .int .i64 hv.i, .string hv.s] 244)) (w.heap.size + 1) #[.bool hh, .bool hv.str, .int .i64 hv.i, .string hv.s] 244 := Has.new' _ _ _ _ (by simp)
  have M0 := M.quiet o0
  have CF := hide (mfind_any M0.c0 M0.ml nm)
  have c0 := M0.c0
  have HM := hide (And.intro M0 (And.intro KL (And.intro KH o0)))
  clear M M0 KL KH o0
  unfold bdA
  go_enter Tryz.func331, Tryz.ntmps331
  go_upto_region 1 with fail
  generalize (w.alloc (.cells #[.bool lh, .bool lv.str, .int .i64 lv.i, .string lv.s] 244)).alloc (.cells #[.bool hh, .bool hv.str, .int .i64 hv.i, .string hv.s] 244) = w0 at *
  have hsz := (unhide HM).2.2.1.lt
  have hs0 := (unhide HM).2.2.2.size
  generalize hkb : w.heap.size = kb at *
  go_wp2_with fail
  refine (unhide CF).mono ?_
  rintro x w2 ⟨r, rfl, hr, rfl⟩
  clear CF
  have r0 : r < 0 := by
    by_cases h : r < 0
    · exact h
    · exfalso
      obtain ⟨i, e, _, _, _, h, _⟩ := hr.myes (unhide HM).1.tt (unhide HM).1.ok (by omega)
      rw [unhide HF] at h
      cases h
  have dr : decide (r < 0) = true := decide_eq_true r0
  clear hr r0
  go_wp2_with fail
  go_ret2
  exact FrS.none (unhide HM).2.2.2
set_option maxRecDepth 100000 in
set_option maxHeartbeats 4000000 in
theorem mscan_bad (M : MDb w dk o v l D) (hf : findD D nm = some t) (col : Int) (lh hh : Bool) (lv hv : Vl) (hb : col < 0 ∨ (t.cols.length : Int) ≤ col ∨ (col ≠ (t.pk : Int) ∧ col ≠ ixI t.ix)) : Calls Tryz.prog 331 #[.pointer (some ⟨dk, o, none⟩), .string nm, .int .i64 col, bdA lh lv, bdA hh hv] w (FrS w (scnD D nm col (bndOf lh lv) (bndOf hh hv)).1 (scnD D nm col (bndOf lh lv) (bndOf hh hv)).2) := by
  obtain ⟨RR, zz, hS⟩ : ∃ RR zz, scnD D nm col (bndOf lh lv) (bndOf hh hv) = (RR, zz) := ⟨_, _, rfl⟩
  rw [hS]
  have HS := hide (show ∀ z : Int, z ≠ 0 → scnE t col (bndOf lh lv) (bndOf hh hv) = z → RR = [] ∧ zz = z from fun z hz e => by
    unfold scnD at hS
    rw [hf] at hS
    simp only [e, if_neg hz] at hS
    cases hS
    exact ⟨rfl, rfl⟩)
  have HF := hide hf
  clear hf hS
  have o0 : Only (fun _ => False) w ((w.alloc (.cells #[.bool lh, .bool lv.str, .int .i64 lv.i, .string lv.s] 244)).alloc (.cells #[.bool hh, .bool hv.str, .int .i64 hv.i, .string hv.s] 244)) := ((Only.refl _ w).alloc _).alloc _
  have KL : Has ((w.alloc (.cells #[.bool lh, .bool lv.str, .int .i64 lv.i, .string lv.s] 244)).alloc (.cells #[.bool hh, .bool hv.str, .int .i64 hv.i, .string hv.s] 244)) w.heap.size #[.bool lh, .bool lv.str, .int .i64 lv.i, .string lv.s] 244 := (Has.new w _ _).alloc _
  have KH : Has ((w.alloc (.cells #[.bool lh, .bool lv.str, .int .i64 lv.i, .string lv.s] 244)).alloc (.cells #[.bool hh, .bool hv.str, .int .i64 hv.i, .string hv.s] 244)) (w.heap.size + 1) #[.bool hh, .bool hv.str, .int .i64 hv.i, .string hv.s] 244 := Has.new' _ _ _ _ (by simp)
  have M0 := M.quiet o0
  have CF := hide (mfind_any M0.c0 M0.ml nm)
  have c0 := M0.c0
  have HM := hide (And.intro M0 (And.intro KL (And.intro KH o0)))
  clear M M0 KL KH o0
  unfold bdA
  go_enter Tryz.func331, Tryz.ntmps331
  go_upto_region 1 with fail
  generalize (w.alloc (.cells #[.bool lh, .bool lv.str, .int .i64 lv.i, .string lv.s] 244)).alloc (.cells #[.bool hh, .bool hv.str, .int .i64 hv.i, .string hv.s] 244) = w0 at *
  have hsz := (unhide HM).2.2.1.lt
  have hs0 := (unhide HM).2.2.2.size
  generalize hkb : w.heap.size = kb at *
  go_wp2_with fail
  refine (unhide CF).mono ?_
  rintro x w2 ⟨r, rfl, hr, rfl⟩
  clear CF
  have r0 : ¬ r < 0 := fun h => by
    have := hr.mno (unhide HM).1.tt (unhide HM).1.ok h
    rw [unhide HF] at this
    cases this
  have dr : decide (r < 0) = false := decide_eq_false r0
  obtain ⟨i, e, rfl, hi, hn, hfe, hm⟩ := hr.myes (unhide HM).1.tt (unhide HM).1.ok (by omega)
  have het : e.t = t := by rw [unhide HF] at hfe; exact (Option.some.inj hfe).symm
  obtain ⟨b, cap, hvx, P, E⟩ := (unhide HM).1.ml.pt hi
  have il : (i : Int) < (l.length : Int) := by have := (List.getElem?_eq_some_iff.mp hi).1; omega
  have h3 := (unhide HM).1.ml.len
  rw [hvx] at c0
  have p1 := P.c1
  have p2 := P.c2
  have p3 := P.c3
  have tok := (unhide HM).1.ok.tb e.t hm
  obtain ⟨ca, cc, hcc⟩ := E.col.shape
  rw [hcc] at p1
  rw [het] at p1 p2 p3 tok
  obtain ⟨ln, hln⟩ : ∃ ln, l.length = ln := ⟨_, rfl⟩
  rw [hln] at il h3 c0
  have HE := hide (And.intro P (And.intro E (And.intro het (And.intro tok hcc))))
  clear hr r0 hi hn hfe hm hvx P E tok hcc hln het
  by_cases c1 : col < 0 ∨ (t.cols.length : Int) ≤ col
  · by_cases cz : col < 0
    · have d1 : decide (col < 0) = true := decide_eq_true cz
      obtain ⟨e1, e2⟩ := unhide HS 14 (by decide) (by unfold scnE; rw [if_pos c1])
      subst e1 e2
      clear c1 cz hb
      go_wp2_with fail
      go_ret2
      exact FrS.none (unhide HM).2.2.2
    · have d1 : decide (col < 0) = false := decide_eq_false cz
      have d2 : decide (col ≥ (t.cols.length : Int)) = true := decide_eq_true (by omega)
      have d2' : decide ((t.cols.length : Int) ≤ col) = true := decide_eq_true (by omega)
      obtain ⟨e1, e2⟩ := unhide HS 14 (by decide) (by unfold scnE; rw [if_pos c1])
      subst e1 e2
      generalize ht : t.cols.length = tn at *
      clear c1 cz hb ht
      go_wp2_with fail
      go_ret2
      exact FrS.none (unhide HM).2.2.2
  · have d1 : decide (col < 0) = false := decide_eq_false (by omega)
    have d2 : decide (col ≥ (t.cols.length : Int)) = false := decide_eq_false (by omega)
    have d2' : decide ((t.cols.length : Int) ≤ col) = false := decide_eq_false (by omega)
    have hb2 : col ≠ (t.pk : Int) ∧ col ≠ ixI t.ix := by
      rcases hb with e | e | e
      · exact absurd (.inl e) c1
      · exact absurd (.inr e) c1
      · exact e
    have d3 : (col != (t.pk : Int)) = true := by simpa using hb2.1
    have d4 : (col != ixI t.ix) = true := by simpa using hb2.2
    obtain ⟨e1, e2⟩ := unhide HS 19 (by decide) (by unfold scnE; rw [if_neg c1, if_pos hb2])
    subst e1 e2
    generalize ht : t.cols.length = tn at *
    generalize hpk : t.pk = pk at *
    generalize hix : ixI t.ix = X at *
    clear c1 hb hb2 ht hpk hix
    go_wp2_with fail
    go_ret2
    exact FrS.none (unhide HM).2.2.2
end
end Go.Proofs.Qxb6500412aGreat
