/-
  OWN WORK. QUERY: the parser: inserts (written by tools/gen_s12.py).
-/
import Derived.Test.Qxb6500412aGreatS11
namespace Go.Proofs.Qxb6500412aGreat
open Go.RowKit Go.PlainAid
set_option linter.unusedSimpArgs false
set_option linter.unusedVariables false

def wINTO : ByteArray := ⟨#[73, 78, 84, 79]⟩
def wVALUES : ByteArray := ⟨#[86, 65, 76, 85, 69, 83]⟩
def wLP : ByteArray := ⟨#[40]⟩
def wRP : ByteArray := ⟨#[41]⟩
def litL (P : Ps) : Ps × Vl := (litP P, litV P)
theorem litL_len (P : Ps) : (litL P).1.1.length ≤ P.1.length := litP_len P
def insLP (P : Ps) : Ps := wantP wLP (wantP wVALUES (nameP (wantP wINTO P)))
def intP (P : Ps) (st : St) : Ps × St := (wantP wRP (listP litL wCOMMA (insLP P) st.lits).1, { st with kind := 7, table := nameV (wantP wINTO P), lits := (listP litL wCOMMA (insLP P) st.lits).2 })
theorem run_store_lits {w : World} {ad : Addr} {old : Value} (h : w.cell? ad = some old) (hf : w.frozen? ad = false) (b : Option Addr) (n c : Nat) : (storeVar 95 ad (.slice b n c)).run Tryz.prog w = .ok () (w.setCell ad (.slice b n c)) := by
  go_simp
section
variable {lo : Nat} {w w' : World} {kp ks : Nat} {t : ByteArray} {P : Ps} {st st' : St} {S : Sq}
theorem SqOf.lits_ {l : List Vl} {c : Vl} {v : Value} {n : Nat} (h : SqOf S { st with lits := l }) (hn : n = l.length + 1) : SqOf (S.setL 4 v (S.xs 4 ++ [.bool c.str, .int .i64 c.i, .string c.s]) n) { st with lits := l ++ [c] } := by
  refine ⟨h.k0, h.k1, h.x2, h.k3, ⟨?_, ?_⟩, h.k5, h.x6, h.x7, h.x8, h.k9, h.k10, h.k11, h.k12⟩
  · show S.xs 4 ++ _ = vcs (l ++ [c])
    rw [h.x4.1, vcs_app]
    rfl
  · show n = (l ++ [c]).length
    rw [hn]; simp
set_option maxRecDepth 100000 in
set_option maxHeartbeats 8000000 in
theorem sqinserts_any (ht : t.size ≤ 256) (h : QP lo w kp ks t P st) (hl : st.lits.length + P.1.length + 1 ≤ 1000) : Calls Tryz.prog 217 #[.pointer (some ⟨kp, 0, none⟩), .pointer (some ⟨ks, 0, none⟩)] w fun e w' => e = .returned (.tuple #[]) ∧ QpP lo kp ks t (intP P st).1 (intP P st).2 w w' := by
  obtain ⟨i0, hi0, hz0, hy0, hb0⟩ := info_parts Tryz.infoEVal
  obtain ⟨v0, c0, f0, kl⟩ := h.at_ (i := 0) (by omega)
  have H1 := hide (h.set (i := 0) (v := .int .i64 7) (by unfold sqj; omega) (fun S hS => hS.kind_))
  obtain ⟨st0, hst0⟩ : ∃ s, s = { st with kind := 7, table := nameV (wantP wINTO P) } := ⟨_, rfl⟩
  obtain ⟨Pa, hPa⟩ : ∃ x, insLP P = x := ⟨_, rfl⟩
  obtain ⟨R, hR⟩ : ∃ R, R = listP litL wCOMMA Pa st0.lits := ⟨_, rfl⟩
  have hU : intP P st = (wantP wRP R.1, { st0 with lits := R.2 }) := by
    rw [hR, hst0, ← hPa]
    rfl
  rw [hU]
  have hPl : Pa.1.length ≤ P.1.length := by rw [← hPa]; exact Nat.le_trans (wantP_len _ _) (Nat.le_trans (wantP_len _ _) (Nat.le_trans (nameP_len _) (wantP_len _ _)))
  have HL := hide (show st0.lits.length + Pa.1.length + 1 ≤ 1000 ∧ Pa.1.length ≤ P.1.length by rw [hst0]; exact ⟨(by show st.lits.length + Pa.1.length + 1 ≤ 1000; omega), hPl⟩)
  have HR := hide hR
  have Hs := hide (And.intro hst0 hPa)
  clear h hl hU hPl hR hst0 hPa
  go_enter Tryz.func217, Tryz.ntmps217
  go_upto_region 1 with fail
  generalize w.setCell ⟨ks, 0, none⟩ (.int .i64 7) = w1 at *
  clear c0 f0 kl
  have C1 := sqwant_any ht (unhide H1).1.ps wINTO
  unfold wINTO at C1
  have C1 := hide C1
  go_wp2_with fail
  refine (unhide C1).mono ?_
  rintro e w2 ⟨rfl, hh⟩
  have H2 := hide ((unhide H1).trans ((unhide H1).1.parP hh))
  clear C1 hh
  have C1 := hide (sqname_any ht (unhide H2).1.ps)
  go_wp2_with fail
  refine (unhide C1).mono ?_
  rintro e w3 ⟨rfl, hh⟩
  have q2 := (unhide H2).trans ((unhide H2).1.parP hh)
  obtain ⟨v1, c1, f1, kl⟩ := q2.1.at_ (i := 1) (by omega)
  obtain ⟨nm0, hnm0⟩ : ∃ x, nameV (wantP wINTO P) = x := ⟨_, rfl⟩
  have e0 : nameV (wantP ⟨#[73, 78, 84, 79]⟩ P) = nm0 := hnm0
  rw [e0]
  have H3 := hide (q2.trans (q2.1.set (i := 1) (v := .string nm0) (by unfold sqj; omega) (fun S hS => hS.table_)))
  have Hnm := hide hnm0
  clear C1 hh q2 H1 H2 e0 hnm0
  go_upto_region 3 with fail
  generalize w3.setCell ⟨ks, 1, none⟩ (.string nm0) = w4 at *
  clear c1 f1 kl
  have C1 := sqwant_any ht (unhide H3).1.ps wVALUES
  unfold wVALUES at C1
  have C1 := hide C1
  go_wp2_with fail
  refine (unhide C1).mono ?_
  rintro e w5 ⟨rfl, hh⟩
  have H4 := hide ((unhide H3).trans ((unhide H3).1.parP hh))
  clear C1 hh
  have C1 := sqwant_any ht (unhide H4).1.ps wLP
  unfold wLP at C1
  have C1 := hide C1
  go_wp2_with fail
  refine (unhide C1).mono ?_
  rintro e w6 ⟨rfl, hh⟩
  have H5 := hide ((unhide H4).trans ((unhide H4).1.parP hh))
  clear C1 hh
  have HS3 := hide (show QP lo w6 kp ks t Pa { st0 with lits := st0.lits } ∧ Only (fun b => lo ≤ b) w w6 ∧ Pa.1.length ≤ P.1.length from by
    have q := unhide H5
    refine ⟨?_, q.2, (unhide HL).2⟩
    have e : ({ st0 with lits := st0.lits } : St) = st0 := rfl
    rw [e, (unhide Hs).1, ← (unhide Hs).2]
    rw [← unhide Hnm] at q
    exact q.1)
  clear H3 H4 H5
  go_upto_region 6 with fail
  go_loopg [4] (2 * P.1.length + 2) (fun gk mv wr => ∃ (m : Bool) (P1 : Ps) (l : List Vl), mv = .bool m ∧ QP lo wr kp ks t P1 { st0 with lits := l } ∧ l.length + P1.1.length + (if m = true then 1 else 0) ≤ 1000 ∧ R = (if m = true then listP litL wCOMMA P1 l else (P1, l)) ∧ Only (fun b => lo ≤ b) w wr ∧ 2 * P1.1.length + (if m = true then 1 else 0) ≤ gk)
  case atStart => (have hh := unhide HS3; exact ⟨true, Pa, st0.lits, rfl, hh.1, by have := unhide HL; simp; omega, by rw [if_pos rfl]; exact unhide HR, hh.2.1, by have := hh.2.2; simp; omega⟩)
  case round =>
    obtain ⟨m, P1, l, rfl, hQ, hlen, hR, oW, hgk⟩ := hrel
    cases m with
    | false =>
      have hR' : R = (P1, l) := by simpa using hR
      have CW := sqwant_any ht hQ.ps wRP
      unfold wRP at CW
      have HW := hide (And.intro hR' (And.intro oW hQ))
      have CW := hide CW
      clear hQ hR oW hR'
      go_wp2_with fail
      refine (unhide CW).mono ?_
      rintro e9 w9 ⟨rfl, hh⟩
      have FF := hide (show QpP lo kp ks t (wantP wRP R.1) { st0 with lits := R.2 } w w9 by rw [(unhide HW).1]; exact (show QpP lo kp ks t P1 { st0 with lits := l } w wr from ⟨(unhide HW).2.2, (unhide HW).2.1⟩).trans ((unhide HW).2.2.parP hh))
      clear hh CW
      go_wp2_with fail
      go_end0
      exact ⟨rfl, unhide FF⟩
    | true =>
      obtain ⟨S, hM, hO⟩ := hQ.sq
      have hlp := hQ.lp
      have klt := hQ.klt
      have oDr : Only (fun _ => False) wr wr.drew := (Only.refl _ wr).drew
      have C1 := sqlit_any ht (hQ.ps.keep oDr (fun e => e))
      obtain ⟨lv, hlv⟩ : ∃ x, litV P1 = x := ⟨_, rfl⟩
      obtain ⟨Pn, hPn⟩ : ∃ x, litP P1 = x := ⟨_, rfl⟩
      rw [hlv, hPn] at C1
      unfold vlA at C1
      have C1 := hide C1
      have HV := hide (And.intro hlv hPn)
      obtain ⟨n, hnn⟩ : ∃ n, l.length = n := ⟨_, rfl⟩
      have hln : S.ln 4 = n := by rw [← hnn]; exact hO.x4.2
      have own0 := hM.own 4 (by unfold sqj; omega)
      rw [hln] at own0
      obtain ⟨a, cap, hcell⟩ := ownsRow_shape own0
      have z0 := hM.cl (i := 4) (by omega)
      rw [hcell] at z0
      have z0d := oDr.cellS z0
      have kld : ks < wr.drew.heap.size := Nat.lt_of_lt_of_le hM.lt oDr.size
      obtain ⟨pc, hpc⟩ := hQ.ps.has
      have HPar := hide (show ∀ b, S.B ks b → b ≠ kp from hM.par hpc)
      have HM := hide hM
      have Hcell := hide hcell
      have Hln := hide hln
      have hl1000 : l.length + P1.1.length + 1 ≤ 1000 := by simpa using hlen
      have l5 : n + 1 ≤ maxLen := by unfold maxLen; omega
      have n1000 : n ≤ 1000 := by omega
      have hlo := hQ.lo_
      have HBl := hide (And.intro hO (And.intro hlen (And.intro hR hgk)))
      have HPP : Hid (∀ (w2 : World) (hh : PaP kp t Pn wr.drew w2) (gg cap3 : Nat) (w5 : World), w5.ownsRow 0 152 3 (.slice (some ⟨gg, 0, none⟩) (n + 1) cap3) (n + 1) (S.xs 4 ++ [.bool lv.str, .int .i64 lv.i, .string lv.s]) → (w2.alloc (.cells #[.bool lv.str, .int .i64 lv.i, .string lv.s] 152)).grownBy w5 (Value.slice a n cap).ownBlock → ((Value.slice a n cap).ownBlock = some gg ∨ gg = w2.heap.size + 1) → QP lo (w5.setCell ⟨ks, 4, none⟩ (.slice (some ⟨gg, 0, none⟩) (n + 1) cap3)) kp ks t Pn { st0 with lits := l ++ [lv] } ∧ Only (fun b => lo ≤ b) w (w5.setCell ⟨ks, 4, none⟩ (.slice (some ⟨gg, 0, none⟩) (n + 1) cap3))) := hide (fun w2 hh gg cap3 w5 h1 h2 h3 => by
        have o2 : Only (fun b => b = kp) wr w2 := (oDr.mono (T := fun b => b = kp) (fun _ _ e => e.elim)).trans hh.2 (fun _ _ e => e)
        have k2 := (unhide HM).keep o2 (fun b hb e => unhide HPar b hb e)
        have s2 := o2.size
        have p := k2.push (j := 4) (by unfold sqj; omega) (es := [.bool lv.str, .int .i64 lv.i, .string lv.s]) (n := n + 1) ((Only.refl _ w2).alloc _) h1 (by rw [unhide Hcell]; exact h2) (fun b hb => by
          simp [Value.ownBlock] at hb
          subst hb
          rw [unhide Hcell]
          exact h3.imp id (fun c => by omega)) (by omega)
        have hk : ¬ S.U ks 4 kp := fun c => by
          rcases c with c | c
          · exact unhide HPar ks (.inl rfl) c.symm
          · exact unhide HPar kp (.inr ⟨4, by unfold sqj; omega, c⟩) rfl
        exact ⟨⟨hh.1.keep p.2 hk, hlp, _, p.1, (unhide HBl).1.lits_ (by rw [hnn])⟩, (oW.trans o2 (fun b _ e => by have e' : b = kp := e; omega)).trans p.2 (fun b _ c => k2.ulo (by unfold sqj; omega) b c)⟩)
      clear hM hO hQ oW hR hlen hgk hcell hln own0 z0 hpc hlv hPn oDr
      go_upto_region 8 with fail
      refine wp_region_held_drew (S := fun _ => True) (by kernel_rfl) trivial (fun _ => ?_)
      refine takeH 0 22 (v := ?vp0) rfl rfl (by kernel_rfl) (by kernel_rfl) (by kernel_rfl) (fun _ _ _ h => h) (Or.inl ⟨by rfl, ?hp0⟩) trivial ?rp0
      case hp0 => (intro w hSw; clear hSw; go_simp; (try with_reducible rfl))
      case rp0 =>
      try simp only [Act.put, List.setIfInBounds_toArray, List.set_cons_zero, List.set_cons_succ]
      refine takeH 1 23 (v := ?vp1) rfl rfl (by kernel_rfl) (by kernel_rfl) (by kernel_rfl) (fun _ _ _ h => h) (Or.inl ⟨by rfl, ?hp1⟩) trivial ?rp1
      case hp1 => (intro w hSw; clear hSw; go_simp; (try with_reducible rfl))
      case rp1 =>
      try simp only [Act.put, List.setIfInBounds_toArray, List.set_cons_zero, List.set_cons_succ]
      refine takeH 2 24 (v := ?vp2) rfl rfl (by kernel_rfl) (by kernel_rfl) (by kernel_rfl) (fun _ _ _ h => h) (Or.inl ⟨by rfl, ?hp2⟩) trivial ?rp2
      case hp2 => (intro w hSw; clear hSw; go_simp; (try with_reducible rfl))
      case rp2 =>
      try simp only [Act.put, List.setIfInBounds_toArray, List.set_cons_zero, List.set_cons_succ]
      refine takeH 3 25 (v := ?vp3) rfl rfl (by kernel_rfl) (by kernel_rfl) (by kernel_rfl) (fun _ _ _ h => h) (Or.inl ⟨by rfl, ?hp3⟩) trivial ?rp3
      case hp3 => (intro w hSw; clear hSw; go_simp; (try with_reducible rfl))
      case rp3 =>
      try simp only [Act.put, List.setIfInBounds_toArray, List.set_cons_zero, List.set_cons_succ]
      refine takeH 5 27 (v := ?vp5) rfl rfl (by kernel_rfl) (by kernel_rfl) (by kernel_rfl) (fun _ _ _ h => h) (Or.inl ⟨by rfl, ?hp5⟩) trivial ?rp5
      case hp5 => (intro w hSw; clear hSw; go_simp; (try with_reducible rfl))
      case rp5 =>
      try simp only [Act.put, List.setIfInBounds_toArray, List.set_cons_zero, List.set_cons_succ]
      refine pairC 4 6 (by kernel_rfl) rfl rfl 26 28 rfl rfl rfl rfl (v := .slice a n cap) ?pe1 ?pk1 294 Tryz.func294 (by kernel_rfl) (by kernel_rfl) #[.tmp 27] #[225] rfl #[.pointer (some ⟨kp, 0, none⟩)] (by simp [Act.eval]) (R := fun v w' => v = .agg #[.bool lv.str, .int .i64 lv.i, .string lv.s] ∧ PaP kp t Pn wr.drew w') ((unhide C1).mono (by rintro en w' ⟨rfl, o⟩; exact ⟨_, rfl, rfl, o⟩)) ?pk2
      case pe1 => (go_simp; (try with_reducible rfl))
      case pk1 =>
        refine ⟨trivial, ?_⟩
        try simp only [Act.put, List.setIfInBounds_toArray, List.set_cons_zero, List.set_cons_succ]
        refine callH 6 (by kernel_rfl) rfl 28 rfl rfl 294 Tryz.func294 (by kernel_rfl) (by kernel_rfl) #[.tmp 27] #[225] rfl #[.pointer (some ⟨kp, 0, none⟩)] (by simp [Act.eval]) (R := fun v w' => v = .agg #[.bool lv.str, .int .i64 lv.i, .string lv.s] ∧ PaP kp t Pn wr.drew w') ((unhide C1).mono (by rintro en w' ⟨rfl, o⟩; exact ⟨_, rfl, rfl, o⟩)) ?kc
        case kc =>
        rintro _ w2 ⟨rfl, hh⟩
        refine ⟨trivial, ?_⟩
        try simp only [Act.put, List.setIfInBounds_toArray, List.set_cons_zero, List.set_cons_succ]
        have kM := (unhide HM).keep ((Only.refl (fun _ => False) wr).drew.mono (T := fun b => b = kp) (fun _ _ e => e.elim) |>.trans hh.2 (fun _ _ e => e)) (fun b hb e => unhide HPar b hb e)
        have zc := kM.cl (i := 4) (by omega)
        rw [unhide Hcell] at zc
        have zfr := kM.fr 4
        have kl2 := kM.lt
        have own2 : w2.ownsRow 0 152 3 (.slice a n cap) n (S.xs 4) := by have := kM.own 4 (by unfold sqj; omega); rw [unhide Hcell, unhide Hln] at this; exact this
        have zne : (Value.slice a n cap).ownBlock ≠ some ks := fun c => kM.kne (j := 4) (by unfold sqj; omega) (by rw [unhide Hcell]; exact c) rfl
        have oAl : Only (fun _ => False) w2 (w2.alloc (.cells #[.bool lv.str, .int .i64 lv.i, .string lv.s] 152)) := (Only.refl _ _).alloc _
        have y1 := oAl.cellS zc
        have y1f : (w2.alloc (.cells #[.bool lv.str, .int .i64 lv.i, .string lv.s] 152)).frozen? ⟨ks, 4, none⟩ = false := oAl.frS zfr (fun e => e) kl2
        refine soneH 7 (by kernel_rfl) rfl 29 rfl rfl (v := .slice (some ⟨w2.heap.size, 0, none⟩) 1 1) (w1 := (w2.alloc (.cells #[.bool lv.str, .int .i64 lv.i, .string lv.s] 152))) ?oea ?oka
        case oea => (go_simp; (try with_reducible rfl))
        case oka =>
        refine ⟨trivial, ?_⟩
        try simp only [Act.put, List.setIfInBounds_toArray, List.set_cons_zero, List.set_cons_succ]
        refine sappH 8 (by kernel_rfl) rfl 30 rfl rfl _ _ _ rfl 0 152 i0 _ 3 32 Tryz.underlying95 hi0 hz0 hy0 hb0 rfl (by omega) (.slice a n cap) n (S.xs 4) rfl (own2.alloc _) ⟨w2.heap.size, 0, none⟩ 1 1 [.bool lv.str, .int .i64 lv.i, .string lv.s] rfl rfl (World.news_of_block (cs := #[.bool lv.str, .int .i64 lv.i, .string lv.s]) (t := 152) (fr := (0, 0)) (heap_alloc_new w2 _)) (by simp [Value.oneCell']) (by omega) l5 (by omega) (by simp) (w2.heap.size + 1) (by simp) ?apa
        case apa =>
        intro gg cap3 w5 hown1 hgrow hat hlt3
        have y3 := (hgrow.cell_far ⟨ks, 4, none⟩ (by simp; omega) (Ne.symm zne)).trans y1
        have yz := (hgrow.frozen_far ⟨ks, 4, none⟩ (by simp; omega) (Ne.symm zne)).trans y1f
        have HQ9 := hide (unhide HPP w2 hh gg cap3 w5 hown1 hgrow hat)
        refine ⟨trivial, ?_⟩
        try simp only [Act.put, List.setIfInBounds_toArray, List.set_cons_zero, List.set_cons_succ]
        refine takeH 9 31 (v := ?vq9a) rfl rfl (by kernel_rfl) (by kernel_rfl) (by kernel_rfl) (fun _ _ _ h => h) (Or.inl ⟨by rfl, ?hq9a⟩) trivial ?rq9a
        case hq9a => (intro w hSw; clear hSw; go_simp; (try with_reducible rfl))
        case rq9a =>
        try simp only [Act.put, List.setIfInBounds_toArray, List.set_cons_zero, List.set_cons_succ]
        refine takeH 10 32 (v := ?vq10a) rfl rfl (by kernel_rfl) (by kernel_rfl) (by kernel_rfl) (fun _ _ _ h => h) (Or.inl ⟨by rfl, ?hq10a⟩) trivial ?rq10a
        case hq10a => (intro w hSw; clear hSw; go_simp; (try with_reducible rfl))
        case rq10a =>
        try simp only [Act.put, List.setIfInBounds_toArray, List.set_cons_zero, List.set_cons_succ]
        refine storeH_cell 11 (by kernel_rfl) rfl rfl rfl 95 _ _ rfl ⟨ks, 4, none⟩ (.slice (some ⟨gg, 0, none⟩) (n + 1) cap3) rfl rfl (run_store_lits y3 yz _ _ _) trivial ?_
        try simp only [Act.put, List.setIfInBounds_toArray, List.set_cons_zero, List.set_cons_succ]
        refine wpAnyH_done (by kernel_rfl) ?_ _
        clear hown1 hgrow hat y3 yz hlt3 kM zc zfr own2 zne oAl y1 y1f hh
        go_upto_region 7 with fail
        generalize w5.setCell ⟨ks, 4, none⟩ (.slice (some ⟨gg, 0, none⟩) (n + 1) cap3) = wA at *
        have C5 := sqeat_any ht (unhide HQ9).1.ps wCOMMA
        obtain ⟨b5, hb5⟩ : ∃ b, eatB wCOMMA Pn = b := ⟨_, rfl⟩
        rw [hb5] at C5
        have Hb5 := hide hb5
        unfold wCOMMA at C5
        have C5 := hide C5
        clear hb5
        go_wp2_with fail
        refine (unhide C5).mono ?_
        rintro e5 wB ⟨rfl, hh⟩
        have HEnd : Hid (∃ (m : Bool) (P1' : Ps) (l' : List Vl), (Value.bool b5 : Value) = .bool m ∧ QP lo wB kp ks t P1' { st0 with lits := l' } ∧ l'.length + P1'.1.length + (if m = true then 1 else 0) ≤ 1000 ∧ R = (if m = true then listP litL wCOMMA P1' l' else (P1', l')) ∧ Only (fun b => lo ≤ b) w wB ∧ 2 * P1'.1.length + (if m = true then 1 else 0) < gk) := hide (by
          obtain ⟨hO, hlen, hR, hgk⟩ := unhide HBl
          have hq : QP lo wB kp ks t (eatP wCOMMA Pn) { st0 with lits := l ++ [lv] } := (unhide HQ9).1.par hh
          have hon := (unhide HQ9).2.trans hh.2 (fun b _ e => by have e' : b = kp := e; omega)
          have hcmp : litL P1 = (Pn, lv) := by
            unfold litL
            rw [(unhide HV).1, (unhide HV).2]
          have hstep := listP_step (sep := wCOMMA) litL_len P1 l
          rw [hcmp] at hstep
          simp only at hstep
          have hR : R = listP litL wCOMMA P1 l := by simpa using hR
          have hgk : 2 * P1.1.length + 1 ≤ gk := by simpa using hgk
          have hlen : l.length + P1.1.length + 1 ≤ 1000 := by simpa using hlen
          rw [hstep] at hR
          have hlen4 : Pn.1.length ≤ P1.1.length := by
            have := litL_len P1
            rw [hcmp] at this
            exact this
          have e1 : eatP wCOMMA Pn = if b5 = true then nextP Pn else Pn := by unfold eatP; rw [unhide Hb5]
          rw [e1] at hq
          cases b5 with
          | true =>
            rw [unhide Hb5, if_pos rfl] at hR
            have e2 := eat_len (unhide Hb5)
            rw [if_pos rfl] at hq
            exact ⟨true, nextP Pn, l ++ [lv], rfl, hq, by simp; omega, by rw [if_pos rfl]; exact hR, hon, by simp; omega⟩
          | false =>
            rw [unhide Hb5, if_neg (by decide : ¬ (false = true))] at hR
            rw [if_neg (by decide : ¬ (false = true))] at hq
            exact ⟨false, Pn, l ++ [lv], rfl, hq, by simp; omega, by rw [if_neg (by decide : ¬ (false = true))]; exact hR, hon, by simp; omega⟩)
        clear C5 hh
        go_wp2_with fail
        obtain ⟨m', P1', l', hm', hq', hl', hr', ho', hg'⟩ := unhide HEnd
        go_roundg (2 * P1'.1.length + (if m' = true then 1 else 0))
        case measure => exact hg'
        case rel => exact ⟨m', P1', l', hm', hq', hl', hr', ho', Nat.le_refl _⟩
      case pk2 =>
        rintro _ w2 ⟨rfl, hh⟩
        refine ⟨trivial, ?_⟩
        try simp only [Act.put, List.setIfInBounds_toArray, List.set_cons_zero, List.set_cons_succ]
        have kM := (unhide HM).keep ((Only.refl (fun _ => False) wr).drew.mono (T := fun b => b = kp) (fun _ _ e => e.elim) |>.trans hh.2 (fun _ _ e => e)) (fun b hb e => unhide HPar b hb e)
        have zc := kM.cl (i := 4) (by omega)
        rw [unhide Hcell] at zc
        have zfr := kM.fr 4
        have kl2 := kM.lt
        have own2 : w2.ownsRow 0 152 3 (.slice a n cap) n (S.xs 4) := by have := kM.own 4 (by unfold sqj; omega); rw [unhide Hcell, unhide Hln] at this; exact this
        have zne : (Value.slice a n cap).ownBlock ≠ some ks := fun c => kM.kne (j := 4) (by unfold sqj; omega) (by rw [unhide Hcell]; exact c) rfl
        have oAl : Only (fun _ => False) w2 (w2.alloc (.cells #[.bool lv.str, .int .i64 lv.i, .string lv.s] 152)) := (Only.refl _ _).alloc _
        have y1 := oAl.cellS zc
        have y1f : (w2.alloc (.cells #[.bool lv.str, .int .i64 lv.i, .string lv.s] 152)).frozen? ⟨ks, 4, none⟩ = false := oAl.frS zfr (fun e => e) kl2
        refine spairH 4 7 (by kernel_rfl) rfl rfl 26 29 rfl rfl rfl rfl (v := .slice a n cap) (w1 := w2) (u := .slice (some ⟨w2.heap.size, 0, none⟩) 1 1) (w2 := (w2.alloc (.cells #[.bool lv.str, .int .i64 lv.i, .string lv.s] 152))) ?se1 ?se2 ?sk1 ?sk2
        case se1 => (go_simp; (try with_reducible rfl))
        case se2 => (go_simp; (try with_reducible rfl))
        case sk1 =>
          refine ⟨trivial, ?_⟩
          try simp only [Act.put, List.setIfInBounds_toArray, List.set_cons_zero, List.set_cons_succ]
          refine soneH 7 (by kernel_rfl) rfl 29 rfl rfl (v := .slice (some ⟨w2.heap.size, 0, none⟩) 1 1) (w1 := (w2.alloc (.cells #[.bool lv.str, .int .i64 lv.i, .string lv.s] 152))) ?oes1 ?oks1
          case oes1 => (go_simp; (try with_reducible rfl))
          case oks1 =>
          refine ⟨trivial, ?_⟩
          try simp only [Act.put, List.setIfInBounds_toArray, List.set_cons_zero, List.set_cons_succ]
          refine sappH 8 (by kernel_rfl) rfl 30 rfl rfl _ _ _ rfl 0 152 i0 _ 3 32 Tryz.underlying95 hi0 hz0 hy0 hb0 rfl (by omega) (.slice a n cap) n (S.xs 4) rfl (own2.alloc _) ⟨w2.heap.size, 0, none⟩ 1 1 [.bool lv.str, .int .i64 lv.i, .string lv.s] rfl rfl (World.news_of_block (cs := #[.bool lv.str, .int .i64 lv.i, .string lv.s]) (t := 152) (fr := (0, 0)) (heap_alloc_new w2 _)) (by simp [Value.oneCell']) (by omega) l5 (by omega) (by simp) (w2.heap.size + 1) (by simp) ?apb
          case apb =>
          intro gg cap3 w5 hown1 hgrow hat hlt3
          have y3 := (hgrow.cell_far ⟨ks, 4, none⟩ (by simp; omega) (Ne.symm zne)).trans y1
          have yz := (hgrow.frozen_far ⟨ks, 4, none⟩ (by simp; omega) (Ne.symm zne)).trans y1f
          have HQ9 := hide (unhide HPP w2 hh gg cap3 w5 hown1 hgrow hat)
          refine ⟨trivial, ?_⟩
          try simp only [Act.put, List.setIfInBounds_toArray, List.set_cons_zero, List.set_cons_succ]
          refine takeH 9 31 (v := ?vq9b) rfl rfl (by kernel_rfl) (by kernel_rfl) (by kernel_rfl) (fun _ _ _ h => h) (Or.inl ⟨by rfl, ?hq9b⟩) trivial ?rq9b
          case hq9b => (intro w hSw; clear hSw; go_simp; (try with_reducible rfl))
          case rq9b =>
          try simp only [Act.put, List.setIfInBounds_toArray, List.set_cons_zero, List.set_cons_succ]
          refine takeH 10 32 (v := ?vq10b) rfl rfl (by kernel_rfl) (by kernel_rfl) (by kernel_rfl) (fun _ _ _ h => h) (Or.inl ⟨by rfl, ?hq10b⟩) trivial ?rq10b
          case hq10b => (intro w hSw; clear hSw; go_simp; (try with_reducible rfl))
          case rq10b =>
          try simp only [Act.put, List.setIfInBounds_toArray, List.set_cons_zero, List.set_cons_succ]
          refine storeH_cell 11 (by kernel_rfl) rfl rfl rfl 95 _ _ rfl ⟨ks, 4, none⟩ (.slice (some ⟨gg, 0, none⟩) (n + 1) cap3) rfl rfl (run_store_lits y3 yz _ _ _) trivial ?_
          try simp only [Act.put, List.setIfInBounds_toArray, List.set_cons_zero, List.set_cons_succ]
          refine wpAnyH_done (by kernel_rfl) ?_ _
          clear hown1 hgrow hat y3 yz hlt3 kM zc zfr own2 zne oAl y1 y1f hh
          go_upto_region 7 with fail
          generalize w5.setCell ⟨ks, 4, none⟩ (.slice (some ⟨gg, 0, none⟩) (n + 1) cap3) = wA at *
          have C5 := sqeat_any ht (unhide HQ9).1.ps wCOMMA
          obtain ⟨b5, hb5⟩ : ∃ b, eatB wCOMMA Pn = b := ⟨_, rfl⟩
          rw [hb5] at C5
          have Hb5 := hide hb5
          unfold wCOMMA at C5
          have C5 := hide C5
          clear hb5
          go_wp2_with fail
          refine (unhide C5).mono ?_
          rintro e5 wB ⟨rfl, hh⟩
          have HEnd : Hid (∃ (m : Bool) (P1' : Ps) (l' : List Vl), (Value.bool b5 : Value) = .bool m ∧ QP lo wB kp ks t P1' { st0 with lits := l' } ∧ l'.length + P1'.1.length + (if m = true then 1 else 0) ≤ 1000 ∧ R = (if m = true then listP litL wCOMMA P1' l' else (P1', l')) ∧ Only (fun b => lo ≤ b) w wB ∧ 2 * P1'.1.length + (if m = true then 1 else 0) < gk) := hide (by
            obtain ⟨hO, hlen, hR, hgk⟩ := unhide HBl
            have hq : QP lo wB kp ks t (eatP wCOMMA Pn) { st0 with lits := l ++ [lv] } := (unhide HQ9).1.par hh
            have hon := (unhide HQ9).2.trans hh.2 (fun b _ e => by have e' : b = kp := e; omega)
            have hcmp : litL P1 = (Pn, lv) := by
              unfold litL
              rw [(unhide HV).1, (unhide HV).2]
            have hstep := listP_step (sep := wCOMMA) litL_len P1 l
            rw [hcmp] at hstep
            simp only at hstep
            have hR : R = listP litL wCOMMA P1 l := by simpa using hR
            have hgk : 2 * P1.1.length + 1 ≤ gk := by simpa using hgk
            have hlen : l.length + P1.1.length + 1 ≤ 1000 := by simpa using hlen
            rw [hstep] at hR
            have hlen4 : Pn.1.length ≤ P1.1.length := by
              have := litL_len P1
              rw [hcmp] at this
              exact this
            have e1 : eatP wCOMMA Pn = if b5 = true then nextP Pn else Pn := by unfold eatP; rw [unhide Hb5]
            rw [e1] at hq
            cases b5 with
            | true =>
              rw [unhide Hb5, if_pos rfl] at hR
              have e2 := eat_len (unhide Hb5)
              rw [if_pos rfl] at hq
              exact ⟨true, nextP Pn, l ++ [lv], rfl, hq, by simp; omega, by rw [if_pos rfl]; exact hR, hon, by simp; omega⟩
            | false =>
              rw [unhide Hb5, if_neg (by decide : ¬ (false = true))] at hR
              rw [if_neg (by decide : ¬ (false = true))] at hq
              exact ⟨false, Pn, l ++ [lv], rfl, hq, by simp; omega, by rw [if_neg (by decide : ¬ (false = true))]; exact hR, hon, by simp; omega⟩)
          clear C5 hh
          go_wp2_with fail
          obtain ⟨m', P1', l', hm', hq', hl', hr', ho', hg'⟩ := unhide HEnd
          go_roundg (2 * P1'.1.length + (if m' = true then 1 else 0))
          case measure => exact hg'
          case rel => exact ⟨m', P1', l', hm', hq', hl', hr', ho', Nat.le_refl _⟩
        case sk2 =>
          refine ⟨trivial, ?_⟩
          try simp only [Act.put, List.setIfInBounds_toArray, List.set_cons_zero, List.set_cons_succ]
          refine soneH 4 (by kernel_rfl) rfl 26 rfl rfl (v := .slice a n cap) (w1 := (w2.alloc (.cells #[.bool lv.str, .int .i64 lv.i, .string lv.s] 152))) ?ol ?okl
          case ol => (go_simp; (try with_reducible rfl))
          case okl =>
          refine ⟨trivial, ?_⟩
          try simp only [Act.put, List.setIfInBounds_toArray, List.set_cons_zero, List.set_cons_succ]
          refine sappH 8 (by kernel_rfl) rfl 30 rfl rfl _ _ _ rfl 0 152 i0 _ 3 32 Tryz.underlying95 hi0 hz0 hy0 hb0 rfl (by omega) (.slice a n cap) n (S.xs 4) rfl (own2.alloc _) ⟨w2.heap.size, 0, none⟩ 1 1 [.bool lv.str, .int .i64 lv.i, .string lv.s] rfl rfl (World.news_of_block (cs := #[.bool lv.str, .int .i64 lv.i, .string lv.s]) (t := 152) (fr := (0, 0)) (heap_alloc_new w2 _)) (by simp [Value.oneCell']) (by omega) l5 (by omega) (by simp) (w2.heap.size + 1) (by simp) ?apc
          case apc =>
          intro gg cap3 w5 hown1 hgrow hat hlt3
          have y3 := (hgrow.cell_far ⟨ks, 4, none⟩ (by simp; omega) (Ne.symm zne)).trans y1
          have yz := (hgrow.frozen_far ⟨ks, 4, none⟩ (by simp; omega) (Ne.symm zne)).trans y1f
          have HQ9 := hide (unhide HPP w2 hh gg cap3 w5 hown1 hgrow hat)
          refine ⟨trivial, ?_⟩
          try simp only [Act.put, List.setIfInBounds_toArray, List.set_cons_zero, List.set_cons_succ]
          refine takeH 9 31 (v := ?vq9c) rfl rfl (by kernel_rfl) (by kernel_rfl) (by kernel_rfl) (fun _ _ _ h => h) (Or.inl ⟨by rfl, ?hq9c⟩) trivial ?rq9c
          case hq9c => (intro w hSw; clear hSw; go_simp; (try with_reducible rfl))
          case rq9c =>
          try simp only [Act.put, List.setIfInBounds_toArray, List.set_cons_zero, List.set_cons_succ]
          refine takeH 10 32 (v := ?vq10c) rfl rfl (by kernel_rfl) (by kernel_rfl) (by kernel_rfl) (fun _ _ _ h => h) (Or.inl ⟨by rfl, ?hq10c⟩) trivial ?rq10c
          case hq10c => (intro w hSw; clear hSw; go_simp; (try with_reducible rfl))
          case rq10c =>
          try simp only [Act.put, List.setIfInBounds_toArray, List.set_cons_zero, List.set_cons_succ]
          refine storeH_cell 11 (by kernel_rfl) rfl rfl rfl 95 _ _ rfl ⟨ks, 4, none⟩ (.slice (some ⟨gg, 0, none⟩) (n + 1) cap3) rfl rfl (run_store_lits y3 yz _ _ _) trivial ?_
          try simp only [Act.put, List.setIfInBounds_toArray, List.set_cons_zero, List.set_cons_succ]
          refine wpAnyH_done (by kernel_rfl) ?_ _
          clear hown1 hgrow hat y3 yz hlt3 kM zc zfr own2 zne oAl y1 y1f hh
          go_upto_region 7 with fail
          generalize w5.setCell ⟨ks, 4, none⟩ (.slice (some ⟨gg, 0, none⟩) (n + 1) cap3) = wA at *
          have C5 := sqeat_any ht (unhide HQ9).1.ps wCOMMA
          obtain ⟨b5, hb5⟩ : ∃ b, eatB wCOMMA Pn = b := ⟨_, rfl⟩
          rw [hb5] at C5
          have Hb5 := hide hb5
          unfold wCOMMA at C5
          have C5 := hide C5
          clear hb5
          go_wp2_with fail
          refine (unhide C5).mono ?_
          rintro e5 wB ⟨rfl, hh⟩
          have HEnd : Hid (∃ (m : Bool) (P1' : Ps) (l' : List Vl), (Value.bool b5 : Value) = .bool m ∧ QP lo wB kp ks t P1' { st0 with lits := l' } ∧ l'.length + P1'.1.length + (if m = true then 1 else 0) ≤ 1000 ∧ R = (if m = true then listP litL wCOMMA P1' l' else (P1', l')) ∧ Only (fun b => lo ≤ b) w wB ∧ 2 * P1'.1.length + (if m = true then 1 else 0) < gk) := hide (by
            obtain ⟨hO, hlen, hR, hgk⟩ := unhide HBl
            have hq : QP lo wB kp ks t (eatP wCOMMA Pn) { st0 with lits := l ++ [lv] } := (unhide HQ9).1.par hh
            have hon := (unhide HQ9).2.trans hh.2 (fun b _ e => by have e' : b = kp := e; omega)
            have hcmp : litL P1 = (Pn, lv) := by
              unfold litL
              rw [(unhide HV).1, (unhide HV).2]
            have hstep := listP_step (sep := wCOMMA) litL_len P1 l
            rw [hcmp] at hstep
            simp only at hstep
            have hR : R = listP litL wCOMMA P1 l := by simpa using hR
            have hgk : 2 * P1.1.length + 1 ≤ gk := by simpa using hgk
            have hlen : l.length + P1.1.length + 1 ≤ 1000 := by simpa using hlen
            rw [hstep] at hR
            have hlen4 : Pn.1.length ≤ P1.1.length := by
              have := litL_len P1
              rw [hcmp] at this
              exact this
            have e1 : eatP wCOMMA Pn = if b5 = true then nextP Pn else Pn := by unfold eatP; rw [unhide Hb5]
            rw [e1] at hq
            cases b5 with
            | true =>
              rw [unhide Hb5, if_pos rfl] at hR
              have e2 := eat_len (unhide Hb5)
              rw [if_pos rfl] at hq
              exact ⟨true, nextP Pn, l ++ [lv], rfl, hq, by simp; omega, by rw [if_pos rfl]; exact hR, hon, by simp; omega⟩
            | false =>
              rw [unhide Hb5, if_neg (by decide : ¬ (false = true))] at hR
              rw [if_neg (by decide : ¬ (false = true))] at hq
              exact ⟨false, Pn, l ++ [lv], rfl, hq, by simp; omega, by rw [if_neg (by decide : ¬ (false = true))]; exact hR, hon, by simp; omega⟩)
          clear C5 hh
          go_wp2_with fail
          obtain ⟨m', P1', l', hm', hq', hl', hr', ho', hg'⟩ := unhide HEnd
          go_roundg (2 * P1'.1.length + (if m' = true then 1 else 0))
          case measure => exact hg'
          case rel => exact ⟨m', P1', l', hm', hq', hl', hr', ho', Nat.le_refl _⟩
end
end Go.Proofs.Qxb6500412aGreat
