/-
  OWN WORK. QUERY: the parser: creates, whole (written by tools/gen_s15.py).
-/
import Derived.Test.Qxb6500412aGreatS14
namespace Go.Proofs.Qxb6500412aGreat
open Go.RowKit Go.PlainAid
set_option linter.unusedSimpArgs false
set_option linter.unusedVariables false

def wINDEX : ByteArray := ⟨#[73, 78, 68, 69, 88]⟩
def wON : ByteArray := ⟨#[79, 78]⟩
def idxA (P : Ps) : Ps := wantP wON (wantP wINDEX P)
def idxB (P : Ps) : Ps := wantP wLP (nameP (idxA P))
def idxP (P : Ps) (st : St) : Ps × St := (wantP wRP (nameP (idxB P)), { st with kind := 6, table := nameV (idxA P), list := st.list ++ [nameV (idxB P)] })
def creP (P : Ps) (st : St) : Ps × St := if eatB wTABLE P = true then tabP (nextP P) st else idxP P st
section
variable {lo : Nat} {w w' : World} {kp ks : Nat} {t : ByteArray} {P : Ps} {st st' : St} {S : Sq}
set_option maxRecDepth 100000 in
set_option maxHeartbeats 8000000 in
theorem sqcreatesI_any (ht : t.size ≤ 256) (h : QP lo w kp ks t P st) (hl : st.list.length + 1 ≤ 1000) (he : eatB wTABLE P = false) : Calls Tryz.prog 222 #[.pointer (some ⟨kp, 0, none⟩), .pointer (some ⟨ks, 0, none⟩)] w fun e w' => e = .returned (.tuple #[]) ∧ QpP lo kp ks t (idxP P st).1 (idxP P st).2 w w' := by
  obtain ⟨i0, hi0, hz0, hy0, hb0⟩ := info_parts Tryz.infoSStr
  have C1 := sqeat_any ht h.ps wTABLE
  rw [he] at C1
  unfold wTABLE at C1
  have C1 := hide C1
  have e1 : eatP wTABLE P = P := by unfold eatP; rw [he]; rfl
  obtain ⟨Pb, hPb⟩ : ∃ x, idxB P = x := ⟨_, rfl⟩
  obtain ⟨Pc, hPc⟩ : ∃ x, idxA P = x := ⟨_, rfl⟩
  obtain ⟨st0, hst0⟩ : ∃ s, s = { st with kind := 6, table := nameV Pc } := ⟨_, rfl⟩
  have hU : idxP P st = (wantP wRP (nameP Pb), { st0 with list := st0.list ++ [nameV Pb] }) := by
    unfold idxP
    rw [hPb, hPc, hst0]
  have hPb' : wantP wLP (nameP Pc) = Pb := by rw [← hPb, ← hPc]; rfl
  have hPc' : wantP wON (wantP wINDEX P) = Pc := hPc
  obtain ⟨FP, hFP⟩ : ∃ x, (wantP wRP (nameP Pb), ({ st0 with list := st0.list ++ [nameV Pb] } : St)) = x := ⟨_, rfl⟩
  rw [hU, hFP]
  have HFP := hide hFP
  have HL := hide (show st0.list.length + 1 ≤ 1000 by rw [hst0]; exact hl)
  have Hs := hide (And.intro hst0 (And.intro hPb' (And.intro hPc' e1)))
  have HH := hide h
  clear h hl hU hPb hPc hPb' hPc' hFP hst0 he e1
  go_enter Tryz.func222, Tryz.ntmps222
  go_wp2_with fail
  refine (unhide C1).mono ?_
  rintro e w0 ⟨rfl, hh⟩
  have q0 := (unhide HH).parP hh
  have q0 : QpP lo kp ks t P st w w0 := by
    have e := (unhide Hs).2.2.2
    unfold wTABLE at e
    rw [e] at q0
    exact q0
  obtain ⟨v0, c0, f0, kl⟩ := q0.1.at_ (i := 0) (by omega)
  have H1 := hide (q0.trans (q0.1.set (i := 0) (v := .int .i64 6) (by unfold sqj; omega) (fun S hS => hS.kind_)))
  clear C1 hh q0 HH
  go_upto_region 2 with fail
  generalize w0.setCell ⟨ks, 0, none⟩ (.int .i64 6) = w1 at *
  clear c0 f0 kl
  have C1 := sqwant_any ht (unhide H1).1.ps wINDEX
  unfold wINDEX at C1
  have C1 := hide C1
  go_wp2_with fail
  refine (unhide C1).mono ?_
  rintro e w2 ⟨rfl, hh⟩
  have H2 := hide ((unhide H1).trans ((unhide H1).1.parP hh))
  clear C1 hh
  have C1 := sqwant_any ht (unhide H2).1.ps wON
  unfold wON at C1
  have C1 := hide C1
  go_wp2_with fail
  refine (unhide C1).mono ?_
  rintro e w3 ⟨rfl, hh⟩
  have H3 := hide ((unhide H2).trans ((unhide H2).1.parP hh))
  clear C1 hh
  have H3 := hide (show QpP lo kp ks t Pc { st with kind := 6 } w w3 by
    rw [← (unhide Hs).2.2.1]
    exact unhide H3)
  clear H1 H2
  have C1 := hide (sqname_any ht (unhide H3).1.ps)
  go_wp2_with fail
  refine (unhide C1).mono ?_
  rintro e w4 ⟨rfl, hh⟩
  have q2 := (unhide H3).trans ((unhide H3).1.parP hh)
  obtain ⟨v1, c1, f1, kl⟩ := q2.1.at_ (i := 1) (by omega)
  obtain ⟨nm0, hnm0⟩ : ∃ x, nameV Pc = x := ⟨_, rfl⟩
  rw [hnm0]
  have H5 := hide (q2.trans (q2.1.set (i := 1) (v := .string nm0) (by unfold sqj; omega) (fun S hS => hS.table_)))
  have Hnm := hide hnm0
  clear C1 hh q2 H3 hnm0
  go_upto_region 5 with fail
  generalize w4.setCell ⟨ks, 1, none⟩ (.string nm0) = w5 at *
  clear c1 f1 kl
  have C1 := sqwant_any ht (unhide H5).1.ps wLP
  unfold wLP at C1
  have C1 := hide C1
  go_wp2_with fail
  refine (unhide C1).mono ?_
  rintro e wr ⟨rfl, hh⟩
  have H6 := hide ((unhide H5).trans ((unhide H5).1.parP hh))
  clear C1 hh
  have HQ0 := hide (show QpP lo kp ks t Pb st0 w wr by
    rw [(unhide Hs).1, ← (unhide Hs).2.1, unhide Hnm]
    exact unhide H6)
  clear H5 H6
  have hQ := (unhide HQ0).1
  have oW := (unhide HQ0).2
  obtain ⟨S, hM, hO⟩ := hQ.sq
  have hlp := hQ.lp
  have klt := hQ.klt
  have oDr : Only (fun _ => False) wr wr.drew := (Only.refl _ wr).drew
  have C1 := sqname_any ht (hQ.ps.keep oDr (fun e => e))
  obtain ⟨lv, hlv⟩ : ∃ x, nameV Pb = x := ⟨_, rfl⟩
  obtain ⟨Pn, hPn⟩ : ∃ x, nameP Pb = x := ⟨_, rfl⟩
  rw [hlv, hPn] at C1
  have C1 := hide C1
  have HV := hide (And.intro hlv hPn)
  obtain ⟨l, hll⟩ : ∃ l, st0.list = l := ⟨_, rfl⟩
  obtain ⟨n, hnn⟩ : ∃ n, l.length = n := ⟨_, rfl⟩
  have hln : S.ln 6 = n := by rw [← hnn, ← hll]; exact hO.x6.2
  have own0 := hM.own 6 (by unfold sqj; omega)
  rw [hln] at own0
  obtain ⟨a, cap, hcell⟩ := ownsRow_shape own0
  have z0 := hM.cl (i := 6) (by omega)
  rw [hcell] at z0
  have z0d := oDr.cellS z0
  have kld : ks < wr.drew.heap.size := Nat.lt_of_lt_of_le hM.lt oDr.size
  obtain ⟨pc, hpc⟩ := hQ.ps.has
  have HPar := hide (show ∀ b, S.B ks b → b ≠ kp from hM.par hpc)
  have HM := hide hM
  have Hcell := hide hcell
  have Hln := hide hln
  have n1000 : n + 1 ≤ 1000 := by rw [← hnn, ← hll]; exact unhide HL
  have l5 : n + 1 ≤ maxLen := by unfold maxLen; omega
  have hlo := hQ.lo_
  have HBl := hide hO
  have HPP : Hid (∀ (w2 : World) (hh : PaP kp t Pn wr.drew w2) (gg cap3 : Nat) (w5 : World), w5.ownsRow 0 9 1 (.slice (some ⟨gg, 0, none⟩) (n + 1) cap3) (n + 1) (S.xs 6 ++ [.string lv]) → (w2.alloc (.cells #[.string lv] 9)).grownBy w5 (Value.slice a n cap).ownBlock → ((Value.slice a n cap).ownBlock = some gg ∨ gg = w2.heap.size + 1) → QP lo (w5.setCell ⟨ks, 6, none⟩ (.slice (some ⟨gg, 0, none⟩) (n + 1) cap3)) kp ks t Pn { st0 with list := l ++ [lv] } ∧ Only (fun b => lo ≤ b) w (w5.setCell ⟨ks, 6, none⟩ (.slice (some ⟨gg, 0, none⟩) (n + 1) cap3))) := hide (fun w2 hh gg cap3 w5 h1 h2 h3 => by
    have o2 : Only (fun b => b = kp) wr w2 := (oDr.mono (T := fun b => b = kp) (fun _ _ e => e.elim)).trans hh.2 (fun _ _ e => e)
    have k2 := (unhide HM).keep o2 (fun b hb e => unhide HPar b hb e)
    have s2 := o2.size
    have p := k2.push (j := 6) (by unfold sqj; omega) (es := [.string lv]) (n := n + 1) ((Only.refl _ w2).alloc _) h1 (by rw [unhide Hcell]; exact h2) (fun b hb => by
      simp [Value.ownBlock] at hb
      subst hb
      rw [unhide Hcell]
      exact h3.imp id (fun c => by omega)) (by omega)
    have hk : ¬ S.U ks 6 kp := fun c => by
      rcases c with c | c
      · exact unhide HPar ks (.inl rfl) c.symm
      · exact unhide HPar kp (.inr ⟨6, by unfold sqj; omega, c⟩) rfl
    have hO6 : SqOf S { st0 with list := l } := by
      have e : ({ st0 with list := l } : St) = st0 := by rw [← hll]
      rw [e]
      exact unhide HBl
    exact ⟨⟨hh.1.keep p.2 hk, hlp, _, p.1, hO6.list_ (by rw [hnn])⟩, (oW.trans o2 (fun b _ e => by have e' : b = kp := e; omega)).trans p.2 (fun b _ c => k2.ulo (by unfold sqj; omega) b c)⟩)
  have HFP2 := hide (show (wantP wRP Pn, ({ st0 with list := l ++ [lv] } : St)) = FP by rw [← unhide HFP, hlv, hPn, hll])
  clear hM hO hQ oW hcell hln own0 z0 hpc hlv hPn oDr hll hnn HQ0
  go_upto_region 6 with fail
  refine wp_region_held_drew (S := fun _ => True) (by kernel_rfl) trivial (fun _ => ?_)
  refine takeH 0 24 (v := ?vp0) rfl rfl (by kernel_rfl) (by kernel_rfl) (by kernel_rfl) (fun _ _ _ h => h) (Or.inl ⟨by rfl, ?hp0⟩) trivial ?rp0
  case hp0 => (intro w hSw; clear hSw; go_simp; (try with_reducible rfl))
  case rp0 =>
  try simp only [Act.put, List.setIfInBounds_toArray, List.set_cons_zero, List.set_cons_succ]
  refine takeH 1 25 (v := ?vp1) rfl rfl (by kernel_rfl) (by kernel_rfl) (by kernel_rfl) (fun _ _ _ h => h) (Or.inl ⟨by rfl, ?hp1⟩) trivial ?rp1
  case hp1 => (intro w hSw; clear hSw; go_simp; (try with_reducible rfl))
  case rp1 =>
  try simp only [Act.put, List.setIfInBounds_toArray, List.set_cons_zero, List.set_cons_succ]
  refine takeH 2 26 (v := ?vp2) rfl rfl (by kernel_rfl) (by kernel_rfl) (by kernel_rfl) (fun _ _ _ h => h) (Or.inl ⟨by rfl, ?hp2⟩) trivial ?rp2
  case hp2 => (intro w hSw; clear hSw; go_simp; (try with_reducible rfl))
  case rp2 =>
  try simp only [Act.put, List.setIfInBounds_toArray, List.set_cons_zero, List.set_cons_succ]
  refine takeH 3 27 (v := ?vp3) rfl rfl (by kernel_rfl) (by kernel_rfl) (by kernel_rfl) (fun _ _ _ h => h) (Or.inl ⟨by rfl, ?hp3⟩) trivial ?rp3
  case hp3 => (intro w hSw; clear hSw; go_simp; (try with_reducible rfl))
  case rp3 =>
  try simp only [Act.put, List.setIfInBounds_toArray, List.set_cons_zero, List.set_cons_succ]
  refine takeH 5 29 (v := ?vp5) rfl rfl (by kernel_rfl) (by kernel_rfl) (by kernel_rfl) (fun _ _ _ h => h) (Or.inl ⟨by rfl, ?hp5⟩) trivial ?rp5
  case hp5 => (intro w hSw; clear hSw; go_simp; (try with_reducible rfl))
  case rp5 =>
  try simp only [Act.put, List.setIfInBounds_toArray, List.set_cons_zero, List.set_cons_succ]
  refine pairC 4 6 (by kernel_rfl) rfl rfl 28 30 rfl rfl rfl rfl (v := .slice a n cap) ?pe1 ?pk1 220 Tryz.func220 (by kernel_rfl) (by kernel_rfl) #[.tmp 29] #[225] rfl #[.pointer (some ⟨kp, 0, none⟩)] (by simp [Act.eval]) (R := fun v w' => v = .string lv ∧ PaP kp t Pn wr.drew w') ((unhide C1).mono (by rintro en w' ⟨rfl, o⟩; exact ⟨_, rfl, rfl, o⟩)) ?pk2
  case pe1 => (go_simp; (try with_reducible rfl))
  case pk1 =>
    refine ⟨trivial, ?_⟩
    try simp only [Act.put, List.setIfInBounds_toArray, List.set_cons_zero, List.set_cons_succ]
    refine callH 6 (by kernel_rfl) rfl 30 rfl rfl 220 Tryz.func220 (by kernel_rfl) (by kernel_rfl) #[.tmp 29] #[225] rfl #[.pointer (some ⟨kp, 0, none⟩)] (by simp [Act.eval]) (R := fun v w' => v = .string lv ∧ PaP kp t Pn wr.drew w') ((unhide C1).mono (by rintro en w' ⟨rfl, o⟩; exact ⟨_, rfl, rfl, o⟩)) ?kc
    case kc =>
    rintro _ w2 ⟨rfl, hh⟩
    refine ⟨trivial, ?_⟩
    try simp only [Act.put, List.setIfInBounds_toArray, List.set_cons_zero, List.set_cons_succ]
    have kM := (unhide HM).keep ((Only.refl (fun _ => False) wr).drew.mono (T := fun b => b = kp) (fun _ _ e => e.elim) |>.trans hh.2 (fun _ _ e => e)) (fun b hb e => unhide HPar b hb e)
    have zc := kM.cl (i := 6) (by omega)
    rw [unhide Hcell] at zc
    have zfr := kM.fr 6
    have kl2 := kM.lt
    have own2 : w2.ownsRow 0 9 1 (.slice a n cap) n (S.xs 6) := by have := kM.own 6 (by unfold sqj; omega); rw [unhide Hcell, unhide Hln] at this; exact this
    have zne : (Value.slice a n cap).ownBlock ≠ some ks := fun c => kM.kne (j := 6) (by unfold sqj; omega) (by rw [unhide Hcell]; exact c) rfl
    have oAl : Only (fun _ => False) w2 (w2.alloc (.cells #[.string lv] 9)) := (Only.refl _ _).alloc _
    have y1 := oAl.cellS zc
    have y1f : (w2.alloc (.cells #[.string lv] 9)).frozen? ⟨ks, 6, none⟩ = false := oAl.frS zfr (fun e => e) kl2
    refine soneH 7 (by kernel_rfl) rfl 31 rfl rfl (v := .slice (some ⟨w2.heap.size, 0, none⟩) 1 1) (w1 := (w2.alloc (.cells #[.string lv] 9))) ?oea ?oka
    case oea => (go_simp; (try with_reducible rfl))
    case oka =>
    refine ⟨trivial, ?_⟩
    try simp only [Act.put, List.setIfInBounds_toArray, List.set_cons_zero, List.set_cons_succ]
    refine sappH 8 (by kernel_rfl) rfl 32 rfl rfl _ _ _ rfl 0 9 i0 _ 1 16 Tryz.underlying49 hi0 hz0 hy0 hb0 rfl (by omega) (.slice a n cap) n (S.xs 6) rfl (own2.alloc _) ⟨w2.heap.size, 0, none⟩ 1 1 [.string lv] rfl rfl (World.news_of_block (cs := #[.string lv]) (t := 9) (fr := (0, 0)) (heap_alloc_new w2 _)) (by simp [Value.oneCell']) (by omega) l5 (by omega) (by simp) (w2.heap.size + 1) (by simp) ?apa
    case apa =>
    intro gg cap3 w5 hown1 hgrow hat hlt3
    have y3 := (hgrow.cell_far ⟨ks, 6, none⟩ (by simp; omega) (Ne.symm zne)).trans y1
    have yz := (hgrow.frozen_far ⟨ks, 6, none⟩ (by simp; omega) (Ne.symm zne)).trans y1f
    have HQ9 := hide (unhide HPP w2 hh gg cap3 w5 hown1 hgrow hat)
    refine ⟨trivial, ?_⟩
    try simp only [Act.put, List.setIfInBounds_toArray, List.set_cons_zero, List.set_cons_succ]
    refine takeH 9 33 (v := ?vq9a) rfl rfl (by kernel_rfl) (by kernel_rfl) (by kernel_rfl) (fun _ _ _ h => h) (Or.inl ⟨by rfl, ?hq9a⟩) trivial ?rq9a
    case hq9a => (intro w hSw; clear hSw; go_simp; (try with_reducible rfl))
    case rq9a =>
    try simp only [Act.put, List.setIfInBounds_toArray, List.set_cons_zero, List.set_cons_succ]
    refine takeH 10 34 (v := ?vq10a) rfl rfl (by kernel_rfl) (by kernel_rfl) (by kernel_rfl) (fun _ _ _ h => h) (Or.inl ⟨by rfl, ?hq10a⟩) trivial ?rq10a
    case hq10a => (intro w hSw; clear hSw; go_simp; (try with_reducible rfl))
    case rq10a =>
    try simp only [Act.put, List.setIfInBounds_toArray, List.set_cons_zero, List.set_cons_succ]
    refine storeH_cell 11 (by kernel_rfl) rfl rfl rfl 49 _ _ rfl ⟨ks, 6, none⟩ (.slice (some ⟨gg, 0, none⟩) (n + 1) cap3) rfl rfl (run_store_list y3 yz _ _ _) trivial ?_
    try simp only [Act.put, List.setIfInBounds_toArray, List.set_cons_zero, List.set_cons_succ]
    refine wpAnyH_done (by kernel_rfl) ?_ _
    clear hown1 hgrow hat y3 yz hlt3 kM zc zfr own2 zne oAl y1 y1f hh
    go_upto_region 7 with fail
    generalize w5.setCell ⟨ks, 6, none⟩ (.slice (some ⟨gg, 0, none⟩) (n + 1) cap3) = wA at *
    have C5 := sqwant_any ht (unhide HQ9).1.ps wRP
    unfold wRP at C5
    have C5 := hide C5
    go_wp2_with fail
    refine (unhide C5).mono ?_
    rintro e5 wB ⟨rfl, hh⟩
    have FF := hide (show QpP lo kp ks t FP.1 FP.2 w wB by
      rw [← unhide HFP2]
      exact (show QpP lo kp ks t Pn { st0 with list := l ++ [lv] } w wA from unhide HQ9).trans ((unhide HQ9).1.parP hh))
    clear C5 hh
    go_wp2_with fail
    ((try simp only [Exit.inBlock, Exit.then]); refine bodyPost_ret (results_none rfl _ _ _) rfl ?_)
    exact ⟨rfl, unhide FF⟩
  case pk2 =>
    rintro _ w2 ⟨rfl, hh⟩
    refine ⟨trivial, ?_⟩
    try simp only [Act.put, List.setIfInBounds_toArray, List.set_cons_zero, List.set_cons_succ]
    have kM := (unhide HM).keep ((Only.refl (fun _ => False) wr).drew.mono (T := fun b => b = kp) (fun _ _ e => e.elim) |>.trans hh.2 (fun _ _ e => e)) (fun b hb e => unhide HPar b hb e)
    have zc := kM.cl (i := 6) (by omega)
    rw [unhide Hcell] at zc
    have zfr := kM.fr 6
    have kl2 := kM.lt
    have own2 : w2.ownsRow 0 9 1 (.slice a n cap) n (S.xs 6) := by have := kM.own 6 (by unfold sqj; omega); rw [unhide Hcell, unhide Hln] at this; exact this
    have zne : (Value.slice a n cap).ownBlock ≠ some ks := fun c => kM.kne (j := 6) (by unfold sqj; omega) (by rw [unhide Hcell]; exact c) rfl
    have oAl : Only (fun _ => False) w2 (w2.alloc (.cells #[.string lv] 9)) := (Only.refl _ _).alloc _
    have y1 := oAl.cellS zc
    have y1f : (w2.alloc (.cells #[.string lv] 9)).frozen? ⟨ks, 6, none⟩ = false := oAl.frS zfr (fun e => e) kl2
    refine spairH 4 7 (by kernel_rfl) rfl rfl 28 31 rfl rfl rfl rfl (v := .slice a n cap) (w1 := w2) (u := .slice (some ⟨w2.heap.size, 0, none⟩) 1 1) (w2 := (w2.alloc (.cells #[.string lv] 9))) ?se1 ?se2 ?sk1 ?sk2
    case se1 => (go_simp; (try with_reducible rfl))
    case se2 => (go_simp; (try with_reducible rfl))
    case sk1 =>
      refine ⟨trivial, ?_⟩
      try simp only [Act.put, List.setIfInBounds_toArray, List.set_cons_zero, List.set_cons_succ]
      refine soneH 7 (by kernel_rfl) rfl 31 rfl rfl (v := .slice (some ⟨w2.heap.size, 0, none⟩) 1 1) (w1 := (w2.alloc (.cells #[.string lv] 9))) ?oes1 ?oks1
      case oes1 => (go_simp; (try with_reducible rfl))
      case oks1 =>
      refine ⟨trivial, ?_⟩
      try simp only [Act.put, List.setIfInBounds_toArray, List.set_cons_zero, List.set_cons_succ]
      refine sappH 8 (by kernel_rfl) rfl 32 rfl rfl _ _ _ rfl 0 9 i0 _ 1 16 Tryz.underlying49 hi0 hz0 hy0 hb0 rfl (by omega) (.slice a n cap) n (S.xs 6) rfl (own2.alloc _) ⟨w2.heap.size, 0, none⟩ 1 1 [.string lv] rfl rfl (World.news_of_block (cs := #[.string lv]) (t := 9) (fr := (0, 0)) (heap_alloc_new w2 _)) (by simp [Value.oneCell']) (by omega) l5 (by omega) (by simp) (w2.heap.size + 1) (by simp) ?apb
      case apb =>
      intro gg cap3 w5 hown1 hgrow hat hlt3
      have y3 := (hgrow.cell_far ⟨ks, 6, none⟩ (by simp; omega) (Ne.symm zne)).trans y1
      have yz := (hgrow.frozen_far ⟨ks, 6, none⟩ (by simp; omega) (Ne.symm zne)).trans y1f
      have HQ9 := hide (unhide HPP w2 hh gg cap3 w5 hown1 hgrow hat)
      refine ⟨trivial, ?_⟩
      try simp only [Act.put, List.setIfInBounds_toArray, List.set_cons_zero, List.set_cons_succ]
      refine takeH 9 33 (v := ?vq9b) rfl rfl (by kernel_rfl) (by kernel_rfl) (by kernel_rfl) (fun _ _ _ h => h) (Or.inl ⟨by rfl, ?hq9b⟩) trivial ?rq9b
      case hq9b => (intro w hSw; clear hSw; go_simp; (try with_reducible rfl))
      case rq9b =>
      try simp only [Act.put, List.setIfInBounds_toArray, List.set_cons_zero, List.set_cons_succ]
      refine takeH 10 34 (v := ?vq10b) rfl rfl (by kernel_rfl) (by kernel_rfl) (by kernel_rfl) (fun _ _ _ h => h) (Or.inl ⟨by rfl, ?hq10b⟩) trivial ?rq10b
      case hq10b => (intro w hSw; clear hSw; go_simp; (try with_reducible rfl))
      case rq10b =>
      try simp only [Act.put, List.setIfInBounds_toArray, List.set_cons_zero, List.set_cons_succ]
      refine storeH_cell 11 (by kernel_rfl) rfl rfl rfl 49 _ _ rfl ⟨ks, 6, none⟩ (.slice (some ⟨gg, 0, none⟩) (n + 1) cap3) rfl rfl (run_store_list y3 yz _ _ _) trivial ?_
      try simp only [Act.put, List.setIfInBounds_toArray, List.set_cons_zero, List.set_cons_succ]
      refine wpAnyH_done (by kernel_rfl) ?_ _
      clear hown1 hgrow hat y3 yz hlt3 kM zc zfr own2 zne oAl y1 y1f hh
      go_upto_region 7 with fail
      generalize w5.setCell ⟨ks, 6, none⟩ (.slice (some ⟨gg, 0, none⟩) (n + 1) cap3) = wA at *
      have C5 := sqwant_any ht (unhide HQ9).1.ps wRP
      unfold wRP at C5
      have C5 := hide C5
      go_wp2_with fail
      refine (unhide C5).mono ?_
      rintro e5 wB ⟨rfl, hh⟩
      have FF := hide (show QpP lo kp ks t FP.1 FP.2 w wB by
        rw [← unhide HFP2]
        exact (show QpP lo kp ks t Pn { st0 with list := l ++ [lv] } w wA from unhide HQ9).trans ((unhide HQ9).1.parP hh))
      clear C5 hh
      go_wp2_with fail
      ((try simp only [Exit.inBlock, Exit.then]); refine bodyPost_ret (results_none rfl _ _ _) rfl ?_)
      exact ⟨rfl, unhide FF⟩
    case sk2 =>
      refine ⟨trivial, ?_⟩
      try simp only [Act.put, List.setIfInBounds_toArray, List.set_cons_zero, List.set_cons_succ]
      refine soneH 4 (by kernel_rfl) rfl 28 rfl rfl (v := .slice a n cap) (w1 := (w2.alloc (.cells #[.string lv] 9))) ?ol ?okl
      case ol => (go_simp; (try with_reducible rfl))
      case okl =>
      refine ⟨trivial, ?_⟩
      try simp only [Act.put, List.setIfInBounds_toArray, List.set_cons_zero, List.set_cons_succ]
      refine sappH 8 (by kernel_rfl) rfl 32 rfl rfl _ _ _ rfl 0 9 i0 _ 1 16 Tryz.underlying49 hi0 hz0 hy0 hb0 rfl (by omega) (.slice a n cap) n (S.xs 6) rfl (own2.alloc _) ⟨w2.heap.size, 0, none⟩ 1 1 [.string lv] rfl rfl (World.news_of_block (cs := #[.string lv]) (t := 9) (fr := (0, 0)) (heap_alloc_new w2 _)) (by simp [Value.oneCell']) (by omega) l5 (by omega) (by simp) (w2.heap.size + 1) (by simp) ?apc
      case apc =>
      intro gg cap3 w5 hown1 hgrow hat hlt3
      have y3 := (hgrow.cell_far ⟨ks, 6, none⟩ (by simp; omega) (Ne.symm zne)).trans y1
      have yz := (hgrow.frozen_far ⟨ks, 6, none⟩ (by simp; omega) (Ne.symm zne)).trans y1f
      have HQ9 := hide (unhide HPP w2 hh gg cap3 w5 hown1 hgrow hat)
      refine ⟨trivial, ?_⟩
      try simp only [Act.put, List.setIfInBounds_toArray, List.set_cons_zero, List.set_cons_succ]
      refine takeH 9 33 (v := ?vq9c) rfl rfl (by kernel_rfl) (by kernel_rfl) (by kernel_rfl) (fun _ _ _ h => h) (Or.inl ⟨by rfl, ?hq9c⟩) trivial ?rq9c
      case hq9c => (intro w hSw; clear hSw; go_simp; (try with_reducible rfl))
      case rq9c =>
      try simp only [Act.put, List.setIfInBounds_toArray, List.set_cons_zero, List.set_cons_succ]
      refine takeH 10 34 (v := ?vq10c) rfl rfl (by kernel_rfl) (by kernel_rfl) (by kernel_rfl) (fun _ _ _ h => h) (Or.inl ⟨by rfl, ?hq10c⟩) trivial ?rq10c
      case hq10c => (intro w hSw; clear hSw; go_simp; (try with_reducible rfl))
      case rq10c =>
      try simp only [Act.put, List.setIfInBounds_toArray, List.set_cons_zero, List.set_cons_succ]
      refine storeH_cell 11 (by kernel_rfl) rfl rfl rfl 49 _ _ rfl ⟨ks, 6, none⟩ (.slice (some ⟨gg, 0, none⟩) (n + 1) cap3) rfl rfl (run_store_list y3 yz _ _ _) trivial ?_
      try simp only [Act.put, List.setIfInBounds_toArray, List.set_cons_zero, List.set_cons_succ]
      refine wpAnyH_done (by kernel_rfl) ?_ _
      clear hown1 hgrow hat y3 yz hlt3 kM zc zfr own2 zne oAl y1 y1f hh
      go_upto_region 7 with fail
      generalize w5.setCell ⟨ks, 6, none⟩ (.slice (some ⟨gg, 0, none⟩) (n + 1) cap3) = wA at *
      have C5 := sqwant_any ht (unhide HQ9).1.ps wRP
      unfold wRP at C5
      have C5 := hide C5
      go_wp2_with fail
      refine (unhide C5).mono ?_
      rintro e5 wB ⟨rfl, hh⟩
      have FF := hide (show QpP lo kp ks t FP.1 FP.2 w wB by
        rw [← unhide HFP2]
        exact (show QpP lo kp ks t Pn { st0 with list := l ++ [lv] } w wA from unhide HQ9).trans ((unhide HQ9).1.parP hh))
      clear C5 hh
      go_wp2_with fail
      ((try simp only [Exit.inBlock, Exit.then]); refine bodyPost_ret (results_none rfl _ _ _) rfl ?_)
      exact ⟨rfl, unhide FF⟩
/-- creates, whole. -/
theorem sqcreates_any (ht : t.size ≤ 256) (h : QP lo w kp ks t P st) (hd : st.defs = []) (hl : P.1.length + 1 ≤ 1000) (hl2 : st.list.length + 1 ≤ 1000) : Calls Tryz.prog 222 #[.pointer (some ⟨kp, 0, none⟩), .pointer (some ⟨ks, 0, none⟩)] w fun e w' => e = .returned (.tuple #[]) ∧ QpP lo kp ks t (creP P st).1 (creP P st).2 w w' := by
  unfold creP
  cases he : eatB wTABLE P with
  | true =>
    rw [if_pos rfl]
    exact sqcreatesT_any ht h hd hl he
  | false =>
    rw [if_neg (by decide)]
    exact sqcreatesI_any ht h hl2 he
end
end Go.Proofs.Qxb6500412aGreat
