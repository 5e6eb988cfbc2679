/-
  OWN WORK. QUERY: the parser: lit, the comparison.
-/
import Derived.Test.Qxb6500412aGreatS5
namespace Go.Proofs.Qxb6500412aGreat
open Go.RowKit Go.PlainAid
set_option linter.unusedSimpArgs false
set_option linter.unusedVariables false

theorem lit_list (l : List UInt8) : (⟨l.toArray⟩ : ByteArray).toList = l := by
  rw [ls_toList]
  simp [ls]
theorem seqL_t {s : ByteArray} {l : List UInt8} (h : s = ⟨l.toArray⟩) : (s.toList == l) = true := by rw [h, lit_list]; simp
theorem seqL_f {s : ByteArray} {l : List UInt8} (h : ¬ s = ⟨l.toArray⟩) : (s.toList == l) = false := by
  rw [← lit_list l]
  exact seq_f h
theorem Tryz.sizeSVal : (Tryz.prog.info? 152).map (·.size) = some 3 := by kernel_rfl
theorem sres_val {fn : Func} {p : Tmp} (h : fn.results = #[.cell p 152]) (tmps : Array Value) {w : World} {g : Nat} {c : Array Value} (hp : tmps.getD p undef = .pointer (some ⟨g, 0, none⟩)) (hn : Has w g c 152) (hc : c.size = 3) : (results fn tmps).run Tryz.prog w = .ok (.agg c) w :=
  sres_cell h tmps hp (run_loadVar_row w g 152 152 _ (0, 0) _ hn Tryz.underlying152 rfl (by rw [Tryz.sizeSVal, hc]))
theorem val_set {w : World} {g : Nat} {a b x : Value} (h : Has w g #[a, b, x] 152) (y : Vl) : Has (((w.setCell ⟨g, 0, none⟩ (.bool y.str)).setCell ⟨g, 1, none⟩ (.int .i64 y.i)).setCell ⟨g, 2, none⟩ (.string y.s)) g #[.bool y.str, .int .i64 y.i, .string y.s] 152 :=
  ((h.setCell 0 (.bool y.str)).setCell 1 (.int .i64 y.i)).setCell 2 (.string y.s)
theorem only3' (w : World) (g : Nat) (a b x : Value) : Only (fun k => k = g) w (((w.setCell ⟨g, 0, none⟩ a).setCell ⟨g, 1, none⟩ b).setCell ⟨g, 2, none⟩ x) := ((only1 (p := g) _ _).trans (only1 (p := g) _ _) (fun _ _ h => h)).trans (only1 (p := g) _ _) (fun _ _ h => h)
section
variable {w w' : World} {kp : Nat} {t : ByteArray} {P : Ps}
set_option maxRecDepth 100000 in
set_option maxHeartbeats 8000000 in
theorem sqlit_any (ht : t.size ≤ 256) (h : PS w kp t P) : Calls Tryz.prog 294 #[.pointer (some ⟨kp, 0, none⟩)] w fun e w' => e = .returned (vlA (litV P)) ∧ PaP kp t (litP P) w w' := by
  have hP := h
  obtain ⟨k, s, v, e, h1, h2⟩ := h
  have o1 : Only (fun _ => False) w ((w.alloc (.cells #[.bool false, .int .i64 0, .string ⟨#[]⟩] 152)).alloc (.cells #[.int .i64 k, .string s, .int .i64 v, .int .i64 e] 227)) := ((Only.refl _ w).alloc _).alloc _
  have o0 : Only (fun _ => False) w (w.alloc (.cells #[.bool false, .int .i64 0, .string ⟨#[]⟩] 152)) := (Only.refl _ w).alloc _
  have N1 : Has ((w.alloc (.cells #[.bool false, .int .i64 0, .string ⟨#[]⟩] 152)).alloc (.cells #[.int .i64 k, .string s, .int .i64 v, .int .i64 e] 227)) w.heap.size #[.bool false, .int .i64 0, .string ⟨#[]⟩] 152 := (Has.new w _ _).alloc _
  have N2 : Has ((w.alloc (.cells #[.bool false, .int .i64 0, .string ⟨#[]⟩] 152)).alloc (.cells #[.int .i64 k, .string s, .int .i64 v, .int .i64 e] 227)) (w.heap.size + 1) #[.int .i64 k, .string s, .int .i64 v, .int .i64 e] 227 := Has.new' _ _ _ _ (by simp)
  have h0 := h1.keep o0 (fun e => e)
  have c1 : (w.alloc (.cells #[.bool false, .int .i64 0, .string ⟨#[]⟩] 152)).cell? ⟨kp, 1, none⟩ = some (.int .i64 k) := h0.cell 1
  have c2 : (w.alloc (.cells #[.bool false, .int .i64 0, .string ⟨#[]⟩] 152)).cell? ⟨kp, 2, none⟩ = some (.string s) := h0.cell 2
  have c3 : (w.alloc (.cells #[.bool false, .int .i64 0, .string ⟨#[]⟩] 152)).cell? ⟨kp, 3, none⟩ = some (.int .i64 v) := h0.cell 3
  have c4 : (w.alloc (.cells #[.bool false, .int .i64 0, .string ⟨#[]⟩] 152)).cell? ⟨kp, 4, none⟩ = some (.int .i64 e) := h0.cell 4
  have kl := h1.lt
  have HP := hide (hP.keep o1 (fun e => e))
  have HO := hide o1
  have HN1 := hide N1
  have HN2 := hide N2
  clear h1 hP o1 o0 N1 N2 h0
  go_enter Tryz.func294, Tryz.ntmps294
  go_upto_region 2 with fail
  generalize (w.alloc (.cells #[.bool false, .int .i64 0, .string ⟨#[]⟩] 152)).alloc (.cells #[.int .i64 k, .string s, .int .i64 v, .int .i64 e] 227) = w1 at *
  clear c1 c2 c3 c4
  generalize hg : w.heap.size = g at *
  have Hg := hide hg
  have kg : kp < g := kl
  clear hg kl
  have d0 : w1.cell? ⟨g + 1, 0, none⟩ = some (.int .i64 k) := (unhide HN2).cell 0
  have gl := (unhide HN2).lt
  -- the end: a value stored behind a call that left w2
  have HE := hide (fun (w2 : World) (P' : Ps) (y : Vl) (h1 : PaP kp t P' w1 w2) (hP : litP P = P') (hV : litV P = y) (w3 : World) (o3 : Only (fun _ => False) w2 w3) => show (w3.cell? ⟨g, 0, none⟩ = some (.bool false) ∧ w3.cell? ⟨g, 1, none⟩ = some (.int .i64 0) ∧ w3.cell? ⟨g, 2, none⟩ = some (.string ⟨#[]⟩) ∧ w3.frozen? ⟨g, 0, none⟩ = false ∧ w3.frozen? ⟨g, 1, none⟩ = false ∧ w3.frozen? ⟨g, 2, none⟩ = false ∧ g < w3.heap.size) ∧ Has (((w3.setCell ⟨g, 0, none⟩ (.bool y.str)).setCell ⟨g, 1, none⟩ (.int .i64 y.i)).setCell ⟨g, 2, none⟩ (.string y.s)) g #[.bool y.str, .int .i64 y.i, .string y.s] 152 ∧ (Ending.returned (.agg #[.bool y.str, .int .i64 y.i, .string y.s]) = .returned (vlA (litV P)) ∧ PaP kp t (litP P) w (((w3.setCell ⟨g, 0, none⟩ (.bool y.str)).setCell ⟨g, 1, none⟩ (.int .i64 y.i)).setCell ⟨g, 2, none⟩ (.string y.s))) from by
    have n3 := ((unhide HN1).keep h1.2 (fun c => by have c' : g = kp := c; omega)).keep o3 (fun e => e)
    have o4 := only3' w3 g (.bool y.str) (.int .i64 y.i) (.string y.s)
    have hgw := unhide Hg
    refine ⟨⟨n3.cell 0, n3.cell 1, n3.cell 2, n3.free 0, n3.free 1, n3.free 2, n3.lt⟩, val_set n3 y, by rw [hV]; rfl, ?_⟩
    rw [hP]
    refine ⟨(h1.1.keep o3 (fun e => e)).keep o4 (fun c => by have c' : kp = g := c; omega), ?_⟩
    exact Only.lateS (C := fun b => b = g) ((((unhide HO).mono (fun _ _ e => e.elim)).trans h1.2 (fun _ _ e => e)).trans (o3.mono (fun _ _ e => e.elim)) (fun _ _ e => e)) o4 (fun b hb => by have hb' : b = g := hb; omega))
  have HR := hide h2
  rcases h2.cases_ with ⟨hp, rfl, hs, hv⟩ | ⟨hp, rfl, hs, hv⟩ | ⟨l, b, hp, hk, rfl, hv⟩ | ⟨l, b, hp, hk, rfl, hv⟩ | ⟨l, b, hp, rfl, hs⟩ | ⟨l, b, hp, rfl, hv⟩ | ⟨l, b, hp, rfl, hv⟩
  case inr.inr.inr.inr.inl =>
    have h3 := unhide HP
    rw [hp] at h3
    have C := hide (sqstep_any ht h3)
    have HV := hide (show litV P = vI v ∧ litP P = (l, b) by rw [hp]; exact ⟨rfl, rfl⟩)
    have HNe := hide (show ∀ w2, Only (fun b => b = kp) w1 w2 → Has w2 (g + 1) #[.int .i64 4, .string s, .int .i64 v, .int .i64 e] 227 from fun w2 o => (unhide HN2).keep o (fun c => by have c' : g + 1 = kp := c; omega))
    clear h2 hp h3 hs
    go_wp2_with fail
    refine (unhide C).mono ?_
    rintro e1 w2 ⟨rfl, hh⟩
    have n2 := unhide HNe w2 hh.2
    have d0 : w2.cell? ⟨g + 1, 0, none⟩ = some (.int .i64 4) := n2.cell 0
    have d2 : w2.cell? ⟨g + 1, 2, none⟩ = some (.int .i64 v) := n2.cell 2
    have gl2 := n2.lt
    have C2 := eInt_any v w2
    unfold vlA vI at C2
    have C2 := hide C2
    have HH := hide (unhide HE w2 (l, b) (vI v) hh (unhide HV).2 (unhide HV).1)
    clear C hh n2
    go_wp2_with fail
    refine (unhide C2).mono ?_
    rintro e2 w3 ⟨rfl, o3⟩
    obtain ⟨⟨x0, x1, x2, y0, y1, y2, xl⟩, hn, hfin⟩ := unhide HH w3 o3
    unfold vI at hn hfin
    have HN3 := hide hn
    have FF := hide hfin
    clear C2 o3 hn hfin d0 d2
    go_wp2_with fail
    exact bodyPost_ret (sres_val Tryz.results294 _ rfl (unhide HN3) rfl) rfl (unhide FF)
  case inr.inr.inr.inr.inr.inl =>
    have h3 := unhide HP
    rw [hp] at h3
    have C := hide (sqstep_any ht h3)
    have HV := hide (show litV P = vS s ∧ litP P = (l, b) by rw [hp]; exact ⟨rfl, rfl⟩)
    have HNe := hide (show ∀ w2, Only (fun b => b = kp) w1 w2 → Has w2 (g + 1) #[.int .i64 5, .string s, .int .i64 v, .int .i64 e] 227 from fun w2 o => (unhide HN2).keep o (fun c => by have c' : g + 1 = kp := c; omega))
    clear h2 hp h3 hv
    go_wp2_with fail
    refine (unhide C).mono ?_
    rintro e1 w2 ⟨rfl, hh⟩
    have n2 := unhide HNe w2 hh.2
    have d0 : w2.cell? ⟨g + 1, 0, none⟩ = some (.int .i64 5) := n2.cell 0
    have d2 : w2.cell? ⟨g + 1, 1, none⟩ = some (.string s) := n2.cell 1
    have gl2 := n2.lt
    have C2 := eStr_any s w2
    unfold vlA vS at C2
    have C2 := hide C2
    have HH := hide (unhide HE w2 (l, b) (vS s) hh (unhide HV).2 (unhide HV).1)
    clear C hh n2
    go_wp2_with fail
    refine (unhide C2).mono ?_
    rintro e2 w3 ⟨rfl, o3⟩
    obtain ⟨⟨x0, x1, x2, y0, y1, y2, xl⟩, hn, hfin⟩ := unhide HH w3 o3
    unfold vS at hn hfin
    have HN3 := hide hn
    have FF := hide hfin
    clear C2 o3 hn hfin d0 d2
    go_wp2_with fail
    exact bodyPost_ret (sres_val Tryz.results294 _ rfl (unhide HN3) rfl) rfl (unhide FF)
  all_goals
    have HV := hide (show litV P = vI 0 ∧ litP P = failP by rw [hp]; exact ⟨rfl, rfl⟩)
    have C := hide (sqfail_any (unhide HP))
    clear h2 hp
    try clear hs
    try clear hv
    try clear hk
    go_wp2_with fail
    refine (unhide C).mono ?_
    rintro e1 w2 ⟨rfl, hh⟩
    have C2 := eInt_any 0 w2
    unfold vlA vI at C2
    have C2 := hide C2
    have HH := hide (unhide HE w2 ([], false) (vI 0) hh (unhide HV).2 (unhide HV).1)
    clear C hh
    go_wp2_with fail
    refine (unhide C2).mono ?_
    rintro e2 w3 ⟨rfl, o3⟩
    obtain ⟨⟨x0, x1, x2, y0, y1, y2, xl⟩, hn, hfin⟩ := unhide HH w3 o3
    unfold vI at hn hfin
    have HN3 := hide hn
    have FF := hide hfin
    clear C2 o3 hn hfin
    go_wp2_with fail
    exact bodyPost_ret (sres_val Tryz.results294 _ rfl (unhide HN3) rfl) rfl (unhide FF)
theorem TkR.op {k : Int} {s : ByteArray} {v e : Int} (h : TkR t P k s v e) : opV P = if k = 6 then opS s else 0 := by
  rcases h.cases_ with ⟨hp, rfl, _⟩ | ⟨hp, rfl, _⟩ | ⟨l, b, hp, _, rfl, _⟩ | ⟨l, b, hp, _, rfl, _⟩ | ⟨l, b, hp, rfl, _⟩ | ⟨l, b, hp, rfl, _⟩ | ⟨l, b, hp, rfl, _⟩ <;> rw [hp] <;> rfl
set_option maxRecDepth 100000 in
set_option maxHeartbeats 4000000 in
theorem sqopOf_any (k : Int) (s : ByteArray) (v e : Int) (w : World) : Calls Tryz.prog 295 #[.agg (tkV k s v e)] w fun x w' => x = .returned (.int .i64 (if k = 6 then opS s else 0)) ∧ Only (fun _ => False) w w' := by
  have o1 : Only (fun _ => False) w (w.alloc (.cells #[.int .i64 k, .string s, .int .i64 v, .int .i64 e] 227)) := (Only.refl _ w).alloc _
  have N1 := Has.new w #[.int .i64 k, .string s, .int .i64 v, .int .i64 e] 227
  have HO := hide o1
  have HN := hide N1
  obtain ⟨r, hr⟩ : ∃ r, (if k = 6 then opS s else 0) = r := ⟨_, rfl⟩
  rw [hr]
  have Hr := hide hr
  unfold tkV
  clear o1 N1 hr
  go_enter Tryz.func295, Tryz.ntmps295
  go_upto_region 1 with fail
  generalize w.alloc (.cells #[.int .i64 k, .string s, .int .i64 v, .int .i64 e] 227) = w1 at *
  generalize w.heap.size = g at *
  have c0 : w1.cell? ⟨g, 0, none⟩ = some (.int .i64 k) := (unhide HN).cell 0
  have c1 : w1.cell? ⟨g, 1, none⟩ = some (.string s) := (unhide HN).cell 1
  have gl := (unhide HN).lt
  by_cases hk : k = 6
  · subst hk
    have hr := unhide Hr
    rw [if_pos rfl] at hr
    by_cases h0 : s = ⟨#[60]⟩
    · have g0 : (s.toList == [60]) = true := seqL_t h0
      have e1 : opS s = 1 := by unfold opS; rw [if_pos h0]
      rw [e1] at hr
      subst hr
      clear e1 h0
      go_wp2_with fail
      go_ret
      exact ⟨rfl, unhide HO⟩
    have g0 : (s.toList == [60]) = false := seqL_f h0
    by_cases h1 : s = ⟨#[61]⟩
    · have g1 : (s.toList == [61]) = true := seqL_t h1
      have e1 : opS s = 2 := by unfold opS; rw [if_neg h0, if_pos h1]
      rw [e1] at hr
      subst hr
      clear e1 h1 h0
      go_wp2_with fail
      go_ret
      exact ⟨rfl, unhide HO⟩
    have g1 : (s.toList == [61]) = false := seqL_f h1
    by_cases h2 : s = ⟨#[60, 61]⟩
    · have g2 : (s.toList == [60, 61]) = true := seqL_t h2
      have e1 : opS s = 3 := by unfold opS; rw [if_neg h0, if_neg h1, if_pos h2]
      rw [e1] at hr
      subst hr
      clear e1 h2 h0 h1
      go_wp2_with fail
      go_ret
      exact ⟨rfl, unhide HO⟩
    have g2 : (s.toList == [60, 61]) = false := seqL_f h2
    by_cases h3 : s = ⟨#[62]⟩
    · have g3 : (s.toList == [62]) = true := seqL_t h3
      have e1 : opS s = 4 := by unfold opS; rw [if_neg h0, if_neg h1, if_neg h2, if_pos h3]
      rw [e1] at hr
      subst hr
      clear e1 h3 h0 h1 h2
      go_wp2_with fail
      go_ret
      exact ⟨rfl, unhide HO⟩
    have g3 : (s.toList == [62]) = false := seqL_f h3
    by_cases h4 : s = ⟨#[33, 61]⟩
    · have g4 : (s.toList == [33, 61]) = true := seqL_t h4
      have e1 : opS s = 5 := by unfold opS; rw [if_neg h0, if_neg h1, if_neg h2, if_neg h3, if_pos h4]
      rw [e1] at hr
      subst hr
      clear e1 h4 h0 h1 h2 h3
      go_wp2_with fail
      go_ret
      exact ⟨rfl, unhide HO⟩
    have g4 : (s.toList == [33, 61]) = false := seqL_f h4
    by_cases h5 : s = ⟨#[62, 61]⟩
    · have g5 : (s.toList == [62, 61]) = true := seqL_t h5
      have e1 : opS s = 6 := by unfold opS; rw [if_neg h0, if_neg h1, if_neg h2, if_neg h3, if_neg h4, if_pos h5]
      rw [e1] at hr
      subst hr
      clear e1 h5 h0 h1 h2 h3 h4
      go_wp2_with fail
      go_ret
      exact ⟨rfl, unhide HO⟩
    have g5 : (s.toList == [62, 61]) = false := seqL_f h5
    have e1 : opS s = 0 := by unfold opS; rw [if_neg h0, if_neg h1, if_neg h2, if_neg h3, if_neg h4, if_neg h5]
    rw [e1] at hr
    subst hr
    clear e1 h0 h1 h2 h3 h4 h5
    go_wp2_with fail
    go_ret
    exact ⟨rfl, unhide HO⟩
  · have hr := unhide Hr
    rw [if_neg hk] at hr
    subst hr
    have b0 : (k != 6) = true := by simpa using hk
    clear hk
    go_wp2_with fail
    go_ret
    exact ⟨rfl, unhide HO⟩
end
end Go.Proofs.Qxb6500412aGreat
