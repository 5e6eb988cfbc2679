/-
  OWN WORK. QUERY's LAW: SameExec (written by tools/gen_ql11.py).
-/
import Derived.Test.Qxb6500412aGreatQL10
namespace Go.Proofs.Qxb6500412aGreat
open Go.RowKit Go.PlainAid
set_option linter.unusedSimpArgs false
set_option linter.unusedVariables false

theorem results_tmp4 {fn : Func} {t u v x : Tmp} (h : fn.results = #[.tmp t, .tmp u, .tmp v, .tmp x]) (tmps : Array Value) (P : Program) (w : World) :
    (results fn tmps).run P w = .ok (.tuple #[tmps.getD t undef, tmps.getD u undef, tmps.getD v undef, tmps.getD x undef]) w := by
  simp [results, h]
theorem RsN.widen {B C : Nat → Prop} {w : World} {cv rv : Value} {R : Rs} (h : RsN B w cv rv R) (hC : ∀ b, B b → C b) : RsN C w cv rv R := by
  obtain ⟨Y, h1, h2, h3, h4⟩ := h.rl
  exact ⟨h.cn, fun b hb => hC b (h.cb b hb), Y, h1, h2, fun b hb => hC b (h3 b hb), fun z hz b hb => hC b (h4 z hz b hb)⟩
/-- What a step of both sides leaves. -/
def SeP (lo : Nat) (w : World) (p : Gnd) (k g x : Nat) (K : Nat → Prop) (k2 q2 : Nat) (H : Nat → Prop) (kb qb : Nat) (Mb : Mu) (Hb E : Nat → Prop) (kk : Nat) (B : Nat → Prop) (M' : Mu) (R' : Rs) (pl : Int) (e : Ending) (w' : World) : Prop :=
  ∃ (loud : Bool) (road : Nat) (p' : Gnd) (K' H' B' : Nat → Prop), e = .returned (.tuple #[.bool true, .bool loud, .int .i64 pl, .int .i64 road]) ∧ WQ lo w' p' k g x M' K' pl k2 q2 M' H' kb qb Mb Hb (fun b => E b ∨ B' b) ∧ KpQ w' kk R' B' ∧ (∀ b, B' b → B b ∨ w.heap.size ≤ b) ∧ p'.d = p.d ∧ (p'.recs.length = 0 ∨ (loud = true ∧ p'.recs.length ≤ 146)) ∧ Only (fun b => RSb p x k K b ∨ (H b ∨ b = k2) ∨ (B b ∨ b = kk)) w w'
section
variable {lo : Nat} {w w' : World} {p : Gnd} {k g x : Nat} {M : Mu} {K : Nat → Prop} {last : Int} {k2 q2 : Nat} {H : Nat → Prop} {kb qb : Nat} {Hb E B : Nat → Prop} {kk : Nat} {R : Rs}
set_option maxRecDepth 100000 in
set_option maxHeartbeats 16000000 in
theorem slsameExec_any (W : WQ lo w p k g x M K last k2 q2 M H kb qb M Hb E) (hbs : p.base = p.blk) (hrs : p.recs = []) (Kp : KpQ w kk R B) (hBE : ∀ b, B b ∨ b = kk → E b) (s : Int) (t : ByteArray) : Calls Tryz.prog 70 #[.pointer (some ⟨k, 0, none⟩), .pointer (some ⟨k2, 0, none⟩), .int .i64 s, .string t, .int .i64 last, .pointer (some ⟨kk, 0, none⟩)] w (SeP lo w p k g x K k2 q2 H kb qb M Hb E kk B (exQ M s t).1 (exQ M s t).2 (plnQ M s t last)) := by
  have mq := W.qr.rx.muQ
  have mo := W.qr.rx.mu
  have CR := hide (smread_any t w)
  have HP := hide (show (if ((exQ M s t).2.e = 0 ∨ (exQ M s t).2.e = 21) ∧ (rdK t = 8 ∨ rdK t = 9 ∨ rdK t = 10) then plI (scqD M.com (rdT t)).cols (scqD M.com (rdT t)).pk (scqD M.com (rdT t)).ix (rdW t) else last) = plnQ M s t last from plnQ_eq mq)
  have HLD := hide (show (exQ M s t).2.e = 0 → ldQ M s t → (decide (gdS s) && (exQ M s t).1.act s.toNat) = false ∧ rdK t ≠ 3 from loud_eq)
  have HRG := hide (show 0 ≤ plnQ M s t last ∧ plnQ M s t last ≤ 4 from plnQ_rng mq W.l0.1 W.l0.2)
  have HRB := hide (show RsB (exQ M s t).2 from exQ_b mq)
  have HVR := hide (fun nm => viQ_row (s := s) (nm := nm) mq)
  have HSL := hide (fun nm => scq_len mq nm)
  have HWL := hide (rdW_len (t := t))
  have HW := hide W
  have HMO := hide (And.intro mo mq)
  have HB := hide (And.intro hbs hrs)
  have HKp := hide Kp
  have HBE := hide hBE
  have CX := hide (fun (W : World) (h : QR p W k g x M K last) => sqexec_any h (by rw [hrs]; simp) s t)
  have CM := hide (fun (W : World) (h : ME W k2 q2 M H) => smexec_any (s := s) (t := t) h mo mq)
  obtain ⟨RR, hRR⟩ : ∃ r, exQ M s t = r := ⟨_, rfl⟩
  obtain ⟨pl, hpl⟩ : ∃ r, plnQ M s t last = r := ⟨_, rfl⟩
  obtain ⟨kd, hkd⟩ : ∃ r, rdK t = r := ⟨_, rfl⟩
  obtain ⟨tb, htb⟩ : ∃ r, rdT t = r := ⟨_, rfl⟩
  obtain ⟨wl, hwl⟩ : ∃ r, rdW t = r := ⟨_, rfl⟩
  obtain ⟨LD, hLD⟩ : ∃ r, ldQ M s t = r := ⟨_, rfl⟩
  rw [hRR, hpl, hkd, htb, hwl] at HP
  rw [hRR, hLD, hkd] at HLD
  rw [hpl] at HRG
  rw [hRR] at HRB
  rw [hwl] at HWL
  simp only [hRR, hpl, hLD] at CX
  simp only [hRR] at CM
  unfold RdP at CR
  rw [hkd, htb, hwl] at CR
  rw [hRR, hpl]
  clear W mq mo hbs hrs Kp hBE hRR hpl hkd htb hwl hLD
  go_enter Tryz.func70, Tryz.ntmps70
  go_wp2_with fail
  refine (unhide CR).mono ?_
  rintro e w1 ⟨v, rfl, hw1, nw1, o1⟩
  obtain ⟨wa, wc, hv⟩ := hw1.shape
  obtain ⟨wn, hwn⟩ : ∃ n, wl.length = n := ⟨_, rfl⟩
  rw [hwn] at hv
  subst hv
  have HWn := hide hwn
  have HS1 := hide (And.intro hw1 (And.intro nw1 o1))
  have C2 := smschemaOf_any ((unhide HW).quiet o1).me tb
  obtain ⟨sc, hsc⟩ : ∃ z, scqD M.com tb = z := ⟨_, rfl⟩
  rw [hsc] at C2
  have C2 := hide C2
  have HSC := hide hsc
  clear CR hw1 nw1 o1 hwn hsc
  go_wp2_with fail
  refine (unhide C2).mono ?_
  rintro e w2 ⟨ca, cn, cc, rfl, hC, nC, _, o2⟩
  have oA : Only (fun _ => False) w2 (w2.alloc (.cells #[.string sc.nm, .slice ca cn cc, .int .i64 sc.pk, .int .i64 sc.ix] 79)) := (Only.refl _ _).alloc _
  have HS2 := hide (show Has (w2.alloc (.cells #[.string sc.nm, .slice ca cn cc, .int .i64 sc.pk, .int .i64 sc.ix] 79)) w2.heap.size #[.string sc.nm, .slice ca cn cc, .int .i64 sc.pk, .int .i64 sc.ix] 79 ∧ OwnC (w2.alloc (.cells #[.string sc.nm, .slice ca cn cc, .int .i64 sc.pk, .int .i64 sc.ix] 79)) (.slice ca cn cc) sc.cols ∧ (∀ b, (Value.slice ca cn cc).ownBlock = some b → w.heap.size ≤ b) ∧ OwnSc (w2.alloc (.cells #[.string sc.nm, .slice ca cn cc, .int .i64 sc.pk, .int .i64 sc.ix] 79)) (.slice wa wn wc) wl ∧ Only (fun _ => False) w (w2.alloc (.cells #[.string sc.nm, .slice ca cn cc, .int .i64 sc.pk, .int .i64 sc.ix] 79)) ∧ w.heap.size ≤ w2.heap.size from ⟨Has.new _ _ _, hC.keep oA (fun _ _ e => e), fun b hb => Nat.le_trans (unhide HS1).2.2.size (nC b hb), ((unhide HS1).1.quiet o2).quiet oA, ((unhide HS1).2.2.trans o2 (fun _ _ e => e)).trans oA (fun _ _ e => e), Nat.le_trans (unhide HS1).2.2.size o2.size⟩)
  clear C2 hC nC o2 oA
  go_upto_region 3 with fail
  generalize w2.alloc (.cells #[.string sc.nm, .slice ca cn cc, .int .i64 sc.pk, .int .i64 sc.ix] 79) = w3 at *
  generalize w2.heap.size = G at *
  have C3 := smview_any ((unhide HW).quiet (unhide HS2).2.2.2.2.1).me s tb
  rw [(anV_vi M s tb).1, (anV_vi M s tb).2] at C3
  have hvr := unhide HVR tb
  obtain ⟨V, hV⟩ : ∃ z, viQ M s tb = z := ⟨_, rfl⟩
  rw [hV] at C3 hvr
  have C3 := hide C3
  have HVr := hide hvr
  clear hvr hV HVR
  go_wp2_with fail
  refine (unhide C3).mono ?_
  rintro e w4 ⟨rv, Z, rfl, hZm, own, hr, hNv, o4⟩
  obtain ⟨ra, rc, rfl⟩ := ownsRow_shape own
  obtain ⟨rn, hrn⟩ : ∃ n, Z.length = n := ⟨_, rfl⟩
  rw [hrn] at own hNv ⊢
  have HZ := hide (show w4.ownsRow 0 95 1 (.slice ra rn rc) Z.length (Z.map (·.1)) ∧ (∀ z ∈ Z, OwnV w4 z.1 z.2 ∧ z.2.length = sc.cols.length) ∧ Z.length ≤ 8 ∧ (∀ b, (Value.slice ra rn rc).ownBlock = some b → w.heap.size ≤ b) ∧ (∀ z ∈ Z, ∀ b, z.1.ownBlock = some b → w.heap.size ≤ b) from ⟨by rw [hrn]; exact own, fun z hz => ⟨(hr z hz).1, by rw [← unhide HSC]; exact (unhide HVr).2 z.2 (by rw [← hZm]; exact List.mem_map.mpr ⟨z, hz, rfl⟩)⟩, by have h := (unhide HVr).1; rw [← hZm, List.length_map] at h; exact h, fun b hb => Nat.le_trans (unhide HS2).2.2.2.2.1.size (hNv b hb), fun z hz b hb => Nat.le_trans (unhide HS2).2.2.2.2.1.size ((hr z hz).2 b hb)⟩)
  have HS4 := hide (show Has w4 G #[.string sc.nm, .slice ca cn cc, .int .i64 sc.pk, .int .i64 sc.ix] 79 ∧ OwnC w4 (.slice ca cn cc) sc.cols ∧ OwnSc w4 (.slice wa wn wc) wl ∧ Only (fun _ => False) w w4 from ⟨(unhide HS2).1.keep o4 (fun e => e), (unhide HS2).2.1.keep o4 (fun _ _ e => e), (unhide HS2).2.2.2.1.quiet o4, (unhide HS2).2.2.2.2.1.trans o4 (fun _ _ e => e)⟩)
  have HW4 := hide ((unhide HW).quiet (unhide HS4).2.2.2)
  have HG := hide (unhide HS2).2.2.2.2.2
  have HCn := hide (unhide HS2).2.2.1
  clear C3 hZm own hr hNv o4 hrn HVr
  have C5 := hide (unhide CX w4 (unhide HW4).qr)
  clear CX
  go_wp2_with fail
  refine (unhide C5).mono ?_
  intro e w5 hx
  obtain ⟨na, nn, nc, ea, en, ec, p', K', B1, rfl, hRN, hB1, hW5, hpd, hrec, o5⟩ := (unhide HW4).real (unhide HB).1 (unhide HB).2 (unhide HRG) hx
  have nf : ∀ b, w.heap.size ≤ b → ¬ RSb p x k K b := fun b hb => ((unhide HW).fresh hb).1
  have z4 := (unhide HS4).2.2.2.size
  obtain ⟨re, hre⟩ : ∃ z, RR.2.e = z := ⟨_, rfl⟩
  obtain ⟨rz, hrz⟩ : ∃ z, RR.2.n = z := ⟨_, rfl⟩
  rw [hre, hrz]
  rw [hre] at HP HLD hrec
  have HRE := hide (And.intro hre hrz)
  have oA : Only (fun _ => False) w5 (w5.alloc (.cells #[.int .i64 re, .int .i64 rz, .slice na nn nc, .slice ea en ec] 52)) := (Only.refl _ _).alloc _
  have HS6 := hide (show Has (w5.alloc (.cells #[.int .i64 re, .int .i64 rz, .slice na nn nc, .slice ea en ec] 52)) w5.heap.size #[.int .i64 re, .int .i64 rz, .slice na nn nc, .slice ea en ec] 52 ∧ Has (w5.alloc (.cells #[.int .i64 re, .int .i64 rz, .slice na nn nc, .slice ea en ec] 52)) G #[.string sc.nm, .slice ca cn cc, .int .i64 sc.pk, .int .i64 sc.ix] 79 ∧ OwnC (w5.alloc (.cells #[.int .i64 re, .int .i64 rz, .slice na nn nc, .slice ea en ec] 52)) (.slice ca cn cc) sc.cols ∧ OwnSc (w5.alloc (.cells #[.int .i64 re, .int .i64 rz, .slice na nn nc, .slice ea en ec] 52)) (.slice wa wn wc) wl ∧ (w5.alloc (.cells #[.int .i64 re, .int .i64 rz, .slice na nn nc, .slice ea en ec] 52)).ownsRow 0 95 1 (.slice ra rn rc) Z.length (Z.map (·.1)) ∧ (∀ z ∈ Z, OwnV (w5.alloc (.cells #[.int .i64 re, .int .i64 rz, .slice na nn nc, .slice ea en ec] 52)) z.1 z.2 ∧ z.2.length = sc.cols.length) from ⟨Has.new _ _ _, ((unhide HS4).1.keep o5 (nf _ (unhide HG))).keep oA (fun e => e), ((unhide HS4).2.1.keep o5 (fun b hb => nf b (unhide HCn b hb))).keep oA (fun _ _ e => e), ((unhide HS4).2.2.1.keep o5 (fun b hb => nf b ((unhide HS1).2.1 b hb))).quiet oA, ownsRow_keep (ownsRow_keep (unhide HZ).1 o5 (fun b hb => nf b ((unhide HZ).2.2.2.1 b hb))) oA (fun _ _ e => e), fun z hz => ⟨(((unhide HZ).2.1 z hz).1.keep o5 (fun b hb => nf b ((unhide HZ).2.2.2.2 z hz b hb))).keep oA (fun _ _ e => e), ((unhide HZ).2.1 z hz).2⟩⟩)
  have HW6 := hide (hW5.quiet oA)
  have HR6 := hide (And.intro (hRN.keep oA (fun _ _ e => e)) (And.intro (show ∀ b, B1 b → w.heap.size ≤ b from fun b hb => Nat.le_trans z4 (hB1 b hb)) (And.intro hpd (And.intro hrec (show Only (RSb p x k K) w (w5.alloc (.cells #[.int .i64 re, .int .i64 rz, .slice na nn nc, .slice ea en ec] 52)) from (((unhide HS4).2.2.2.mono (fun _ _ e => e.elim)).trans o5 (fun _ _ e => e)).trans (oA.mono (fun _ _ e => e.elim)) (fun _ _ e => e))))))
  have HG5 := hide (show w.heap.size ≤ w5.heap.size from Nat.le_trans z4 o5.size)
  have HKp6 := hide (((unhide HKp).keep ((unhide HS4).2.2.2.mono (T := fun _ => False) (fun _ _ e => e)) (fun _ _ e => e)).keep (o5.trans (oA.mono (T := RSb p x k K) (fun _ _ e => e.elim)) (fun _ _ e => e)) (fun b hb => ((unhide HW).ex b (unhide HBE b hb)).1))
  clear C5 hx hRN hB1 hW5 hpd hrec o5 oA nf z4 hre hrz HS2 HS4 HW4 HKp
  go_upto_region 6 with fail
  generalize w5.alloc (.cells #[.int .i64 re, .int .i64 rz, .slice na nn nc, .slice ea en ec] 52) = w6 at *
  generalize w5.heap.size = G5 at *
  have g0 : w6.cell? ⟨G5, 0, none⟩ = some (.int .i64 re) := (unhide HS6).1.cell 0
  have g1 : w6.cell? ⟨G5, 1, none⟩ = some (.int .i64 rz) := (unhide HS6).1.cell 1
  have g2 : w6.cell? ⟨G5, 2, none⟩ = some (.slice na nn nc) := (unhide HS6).1.cell 2
  have g3 : w6.cell? ⟨G5, 3, none⟩ = some (.slice ea en ec) := (unhide HS6).1.cell 3
  have gl := (unhide HS6).1.lt
  obtain ⟨cb, hcb⟩ : ∃ b, decide ((re = 0 ∨ re = 21) ∧ (kd = 8 ∨ kd = 9 ∨ kd = 10)) = b := ⟨_, rfl⟩
  have HCB := hide hcb
  clear hcb
  go_cut [69] from 50 to 68 (fun bv wx => bv = .bool cb ∧ wx = w6)
  case first =>
    by_cases e0 : re = 0
    · have f0 : (re == 0) = true := by simpa using e0
      by_cases k8 : kd = 8
      · have d8 : (kd == 8) = true := by simpa using k8
        have RC := hide (show cb = true by rw [← unhide HCB]; exact decide_eq_true ⟨.inl e0, .inl k8⟩)
        clear e0 k8
        go_wp2_with fail
        go_meet
        exact ⟨by rw [unhide RC], rfl⟩
      have d8 : (kd == 8) = false := by simpa using k8
      by_cases k9 : kd = 9
      · have d9 : (kd == 9) = true := by simpa using k9
        have RC := hide (show cb = true by rw [← unhide HCB]; exact decide_eq_true ⟨.inl e0, .inr (.inl k9)⟩)
        clear e0 k8 k9
        go_wp2_with fail
        go_meet
        exact ⟨by rw [unhide RC], rfl⟩
      have d9 : (kd == 9) = false := by simpa using k9
      by_cases k10 : kd = 10
      · have d10 : (kd == 10) = true := by simpa using k10
        have RC := hide (show cb = true by rw [← unhide HCB]; exact decide_eq_true ⟨.inl e0, .inr (.inr k10)⟩)
        clear e0 k8 k9 k10
        go_wp2_with fail
        go_meet
        exact ⟨by rw [unhide RC], rfl⟩
      have d10 : (kd == 10) = false := by simpa using k10
      have RC := hide (show cb = false by rw [← unhide HCB]; exact decide_eq_false (fun c => by omega))
      clear e0 k8 k9 k10
      go_wp2_with fail
      go_meet
      exact ⟨by rw [unhide RC], rfl⟩
    have f0 : (re == 0) = false := by simpa using e0
    by_cases e21 : re = 21
    · have f21 : (re == 21) = true := by simpa using e21
      by_cases k8 : kd = 8
      · have d8 : (kd == 8) = true := by simpa using k8
        have RC := hide (show cb = true by rw [← unhide HCB]; exact decide_eq_true ⟨.inr e21, .inl k8⟩)
        clear e0 e21 k8
        go_wp2_with fail
        go_meet
        exact ⟨by rw [unhide RC], rfl⟩
      have d8 : (kd == 8) = false := by simpa using k8
      by_cases k9 : kd = 9
      · have d9 : (kd == 9) = true := by simpa using k9
        have RC := hide (show cb = true by rw [← unhide HCB]; exact decide_eq_true ⟨.inr e21, .inr (.inl k9)⟩)
        clear e0 e21 k8 k9
        go_wp2_with fail
        go_meet
        exact ⟨by rw [unhide RC], rfl⟩
      have d9 : (kd == 9) = false := by simpa using k9
      by_cases k10 : kd = 10
      · have d10 : (kd == 10) = true := by simpa using k10
        have RC := hide (show cb = true by rw [← unhide HCB]; exact decide_eq_true ⟨.inr e21, .inr (.inr k10)⟩)
        clear e0 e21 k8 k9 k10
        go_wp2_with fail
        go_meet
        exact ⟨by rw [unhide RC], rfl⟩
      have d10 : (kd == 10) = false := by simpa using k10
      have RC := hide (show cb = false by rw [← unhide HCB]; exact decide_eq_false (fun c => by omega))
      clear e0 e21 k8 k9 k10
      go_wp2_with fail
      go_meet
      exact ⟨by rw [unhide RC], rfl⟩
    have f21 : (re == 21) = false := by simpa using e21
    have RC := hide (show cb = false by rw [← unhide HCB]; exact decide_eq_false (fun c => by omega))
    clear e0 e21
    go_wp2_with fail
    go_meet
    exact ⟨by rw [unhide RC], rfl⟩
  case rest =>
  obtain ⟨rfl, rfl⟩ := hcut
  go_upto_if 69 with fail
  go_cut [4, 23] from 70 to 76 (fun pv qv wx => ∃ rd : Nat, pv = .int .i64 pl ∧ qv = .int .i64 rd ∧ Only (fun _ => False) wc wx)
  case first =>
    cases cb with
    | false =>
      have hp := unhide HP
      rw [if_neg (of_decide_eq_false (unhide HCB))] at hp
      have Hp := hide hp
      clear hp
      go_wp2_with fail
      go_meet
      exact ⟨0, by rw [unhide Hp], rfl, Only.refl _ _⟩
    | true =>
      have hp := unhide HP
      rw [if_pos (of_decide_eq_true (unhide HCB)), unhide HSC] at hp
      have s0 : wc.cell? ⟨G, 0, none⟩ = some (.string sc.nm) := (unhide HS6).2.1.cell 0
      have s1 : wc.cell? ⟨G, 1, none⟩ = some (.slice ca cn cc) := (unhide HS6).2.1.cell 1
      have s2 : wc.cell? ⟨G, 2, none⟩ = some (.int .i64 sc.pk) := (unhide HS6).2.1.cell 2
      have s3 : wc.cell? ⟨G, 3, none⟩ = some (.int .i64 sc.ix) := (unhide HS6).2.1.cell 3
      have sl := (unhide HS6).2.1.lt
      have hc3 : sc.cols.length ≤ 100 := by rw [← unhide HSC]; exact Nat.le_trans (unhide HSL tb) (by omega)
      have C7 := slplanIs_any (tn := sc.nm) (pk := sc.pk) (ix := sc.ix) (unhide HS6).2.2.1 hc3 (unhide HS6).2.2.2.1 (unhide HWL)
      unfold schU at C7
      rw [hp] at C7
      have C7 := hide C7
      have HC3 := hide hc3
      clear hp hc3
      go_wp2_with fail
      refine (unhide C7).mono ?_
      rintro e w7 ⟨rfl, o7⟩
      have s0 : w7.cell? ⟨G, 0, none⟩ = some (.string sc.nm) := o7.cellS s0
      have s1 : w7.cell? ⟨G, 1, none⟩ = some (.slice ca cn cc) := o7.cellS s1
      have s2 : w7.cell? ⟨G, 2, none⟩ = some (.int .i64 sc.pk) := o7.cellS s2
      have s3 : w7.cell? ⟨G, 3, none⟩ = some (.int .i64 sc.ix) := o7.cellS s3
      have sl : G < w7.heap.size := Nat.lt_of_lt_of_le sl o7.size
      have C8 := slroad_any (tn := sc.nm) (pk := sc.pk) (ix := sc.ix) ((unhide HS6).2.2.1.keep o7 (fun _ _ e => e)) (unhide HC3) ((unhide HS6).2.2.2.1.quiet o7) (unhide HWL) (ownsRow_keep (unhide HS6).2.2.2.2.1 o7 (fun _ _ e => e)) (fun z hz => ⟨((unhide HS6).2.2.2.2.2 z hz).1.keep o7 (fun _ _ e => e), ((unhide HS6).2.2.2.2.2 z hz).2⟩) (unhide HZ).2.2.1
      unfold schU at C8
      have C8 := hide C8
      have HO7 := hide o7
      clear C7 o7
      go_wp2_with fail
      refine (unhide C8).mono ?_
      rintro e w8 ⟨rd, rfl, o8⟩
      have HO8 := hide ((unhide HO7).trans o8 (fun _ _ e => e))
      clear C8 o8
      go_wp2_with fail
      go_meet
      exact ⟨rd, rfl, rfl, unhide HO8⟩
  case rest =>
  obtain ⟨rd, rfl, rfl, oC⟩ := hcut
  have HW9 := hide ((unhide HW6).quiet oC)
  have HR9 := hide (And.intro ((unhide HR6).1.keep oC (fun _ _ e => e)) (And.intro (unhide HR6).2.1 (And.intro (unhide HR6).2.2.1 (And.intro (unhide HR6).2.2.2.1 ((unhide HR6).2.2.2.2.trans (oC.mono (fun _ _ e => e.elim)) (fun _ _ e => e))))))
  have HK9 := hide ((unhide HKp6).quiet oC)
  have HG9 := hide ((unhide HS6).1.keep oC (fun e => e))
  clear oC HS6 HW6 HR6 HKp6 HZ HSL HWL HS1 HCn HG HP HCB HSC g0 g1 g2 g3 gl
  have C9 := hide (unhide CM _ (unhide HW9).me)
  clear CM
  go_wp2_with fail
  refine (unhide C9).mono ?_
  intro e wm hx
  obtain ⟨ma, mn, mc, ua, un, uc, H', B2, rfl, hMN, hB2, hWm, om⟩ := (unhide HW9).model hx
  rw [(unhide HRE).1, (unhide HRE).2]
  have oA : Only (fun _ => False) wm (wm.alloc (.cells #[.int .i64 re, .int .i64 rz, .slice ma mn mc, .slice ua un uc] 52)) := (Only.refl _ _).alloc _
  have z9 := (unhide HR9).2.2.2.2.size
  have nB : ∀ b, B1 b → ¬ H b := fun b hb c => by have := ((unhide HW9).ex b (.inr hb)).2.1; exact this (.inl c)
  have nK : ∀ b, B b ∨ b = kk → ¬ H b := fun b hb c => ((unhide HW9).ex b (.inl (unhide HBE b hb))).2.1 (.inl c)
  have nG5 : ¬ H G5 := fun c => by have := (unhide HW).me.lt G5 (.inl c); have := unhide HG5; omega
  have HWx := hide (hWm.quiet oA)
  have HAll := hide (show Has (wm.alloc (.cells #[.int .i64 re, .int .i64 rz, .slice ma mn mc, .slice ua un uc] 52)) wm.heap.size #[.int .i64 re, .int .i64 rz, .slice ma mn mc, .slice ua un uc] 52 ∧ Has (wm.alloc (.cells #[.int .i64 re, .int .i64 rz, .slice ma mn mc, .slice ua un uc] 52)) G5 #[.int .i64 re, .int .i64 rz, .slice na nn nc, .slice ea en ec] 52 ∧ RsN B1 (wm.alloc (.cells #[.int .i64 re, .int .i64 rz, .slice ma mn mc, .slice ua un uc] 52)) (.slice na nn nc) (.slice ea en ec) RR.2 ∧ RsN B2 (wm.alloc (.cells #[.int .i64 re, .int .i64 rz, .slice ma mn mc, .slice ua un uc] 52)) (.slice ma mn mc) (.slice ua un uc) RR.2 ∧ KpQ (wm.alloc (.cells #[.int .i64 re, .int .i64 rz, .slice ma mn mc, .slice ua un uc] 52)) kk R B ∧ (∀ b, B2 b → w.heap.size ≤ b) ∧ Only (fun b => RSb p x k K b ∨ (H b ∨ b = k2) ∨ (B b ∨ b = kk)) w (wm.alloc (.cells #[.int .i64 re, .int .i64 rz, .slice ma mn mc, .slice ua un uc] 52)) ∧ w.heap.size ≤ wm.heap.size from ⟨Has.new _ _ _, ((unhide HG9).keep om nG5).keep oA (fun e => e), ((unhide HR9).1.keep om nB).keep oA (fun _ _ e => e), hMN.keep oA (fun _ _ e => e), ((unhide HK9).keep om nK).quiet oA, fun b hb => Nat.le_trans z9 (hB2 b hb), (((unhide HR9).2.2.2.2.mono (fun _ _ e => .inl e)).trans (om.mono (fun _ _ e => .inr (.inl (.inl e)))) (fun _ _ e => e)).trans (oA.mono (fun _ _ e => e.elim)) (fun _ _ e => e), Nat.le_trans z9 om.size⟩)
  have HInf := hide (And.intro (unhide HR9).2.1 (And.intro (unhide HR9).2.2.1 (unhide HR9).2.2.2.1))
  clear C9 hx hMN hB2 hWm om oA z9 nB nK nG5 HR9 HK9 HG9 HW9
  go_upto_region 10 with fail
  generalize wm.alloc (.cells #[.int .i64 re, .int .i64 rz, .slice ma mn mc, .slice ua un uc] 52) = wx at *
  generalize wm.heap.size = G9 at *
  have g0 : wx.cell? ⟨G5, 0, none⟩ = some (.int .i64 re) := (unhide HAll).2.1.cell 0
  have g1 : wx.cell? ⟨G5, 1, none⟩ = some (.int .i64 rz) := (unhide HAll).2.1.cell 1
  have g2 : wx.cell? ⟨G5, 2, none⟩ = some (.slice na nn nc) := (unhide HAll).2.1.cell 2
  have g3 : wx.cell? ⟨G5, 3, none⟩ = some (.slice ea en ec) := (unhide HAll).2.1.cell 3
  have gl := (unhide HAll).2.1.lt
  have h0 : wx.cell? ⟨G9, 0, none⟩ = some (.int .i64 re) := (unhide HAll).1.cell 0
  have h1 : wx.cell? ⟨G9, 1, none⟩ = some (.int .i64 rz) := (unhide HAll).1.cell 1
  have h2 : wx.cell? ⟨G9, 2, none⟩ = some (.slice ma mn mc) := (unhide HAll).1.cell 2
  have h3 : wx.cell? ⟨G9, 3, none⟩ = some (.slice ua un uc) := (unhide HAll).1.cell 3
  have hl := (unhide HAll).1.lt
  have C10 := slsameResult_eq (unhide HAll).2.2.1 (unhide HAll).2.2.2.1 (unhide HRB)
  rw [(unhide HRE).1, (unhide HRE).2] at C10
  have C10 := hide C10
  go_wp2_with fail
  refine (unhide C10).mono ?_
  rintro e wy ⟨rfl, oy⟩
  have HAll := hide (show Has wy G9 #[.int .i64 re, .int .i64 rz, .slice ma mn mc, .slice ua un uc] 52 ∧ Has wy G5 #[.int .i64 re, .int .i64 rz, .slice na nn nc, .slice ea en ec] 52 ∧ RsN B1 wy (.slice na nn nc) (.slice ea en ec) RR.2 ∧ RsN B2 wy (.slice ma mn mc) (.slice ua un uc) RR.2 ∧ KpQ wy kk R B ∧ (∀ b, B2 b → w.heap.size ≤ b) ∧ Only (fun b => RSb p x k K b ∨ (H b ∨ b = k2) ∨ (B b ∨ b = kk)) w wy ∧ w.heap.size ≤ G9 from ⟨(unhide HAll).1.keep oy (fun e => e), (unhide HAll).2.1.keep oy (fun e => e), (unhide HAll).2.2.1.keep oy (fun _ _ e => e), (unhide HAll).2.2.2.1.keep oy (fun _ _ e => e), (unhide HAll).2.2.2.2.1.quiet oy, (unhide HAll).2.2.2.2.2.1, (unhide HAll).2.2.2.2.2.2.1.trans (oy.mono (fun _ _ e => e.elim)) (fun _ _ e => e), (unhide HAll).2.2.2.2.2.2.2⟩)
  have HWy := hide ((unhide HWx).quiet oy)
  clear C10 oy HWx g0 g1 g2 g3 gl h0 h1 h2 h3 hl
  obtain ⟨oa, on, oc, ya, yn, yc, oa2, on2, oc2, ya2, yn2, yc2, hK, hX1, hX2, hRb, hnB⟩ := (unhide HAll).2.2.2.2.1
  obtain ⟨ke, hke⟩ : ∃ z, R.e = z := ⟨_, rfl⟩
  obtain ⟨kz, hkz⟩ : ∃ z, R.n = z := ⟨_, rfl⟩
  rw [hke, hkz] at hK
  have oD : Only (fun _ => False) wy wy.drew := (Only.refl _ _).drew
  have C12 := slsameResult_eq (hX1.keep oD (fun _ _ e => e)) (hX2.keep oD (fun _ _ e => e)) hRb
  rw [hke, hkz] at C12
  have C12 := hide C12
  have HXX := hide (And.intro hX1 (And.intro hRb (And.intro hnB hK)))
  have kc0 : wy.cell? ⟨kk, 0, none⟩ = some (.int .i64 ke) := hK.cell 0
  have kc1 : wy.cell? ⟨kk, 1, none⟩ = some (.int .i64 kz) := hK.cell 1
  have kc2 : wy.cell? ⟨kk, 2, none⟩ = some (.slice oa on oc) := hK.cell 2
  have kc3 : wy.cell? ⟨kk, 3, none⟩ = some (.slice ya yn yc) := hK.cell 3
  have kc4 : wy.cell? ⟨kk, 4, none⟩ = some (.int .i64 ke) := hK.cell 4
  have kc5 : wy.cell? ⟨kk, 5, none⟩ = some (.int .i64 kz) := hK.cell 5
  have kc6 : wy.cell? ⟨kk, 6, none⟩ = some (.slice oa2 on2 oc2) := hK.cell 6
  have kc7 : wy.cell? ⟨kk, 7, none⟩ = some (.slice ya2 yn2 yc2) := hK.cell 7
  have kl := hK.lt
  clear hK hX1 hX2 hRb hnB hke hkz oD
  go_upto_region 12 with fail
  refine wp_region_held_drew (S := (fun w' => w'.cell? ⟨kk, 0, none⟩ = some (.int .i64 ke) ∧ w'.cell? ⟨kk, 1, none⟩ = some (.int .i64 kz) ∧ w'.cell? ⟨kk, 2, none⟩ = some (.slice oa on oc) ∧ w'.cell? ⟨kk, 3, none⟩ = some (.slice ya yn yc) ∧ w'.cell? ⟨kk, 4, none⟩ = some (.int .i64 ke) ∧ w'.cell? ⟨kk, 5, none⟩ = some (.int .i64 kz) ∧ w'.cell? ⟨kk, 6, none⟩ = some (.slice oa2 on2 oc2) ∧ w'.cell? ⟨kk, 7, none⟩ = some (.slice ya2 yn2 yc2))) (by kernel_rfl) ⟨kc0, kc1, kc2, kc3, kc4, kc5, kc6, kc7⟩ (fun hH0 => ?_)
  refine takeH 0 85 (v := ?vse1) rfl rfl (by kernel_rfl) (by kernel_rfl) (by kernel_rfl) (fun _ _ _ h => h) (Or.inl ⟨by rfl, ?hse1⟩) hH0 ?rse1
  case hse1 => (intro w hSw; clear hSw; go_simp; (try with_reducible rfl))
  case rse1 =>
  try simp only [Act.put, List.setIfInBounds_toArray, List.set_cons_zero, List.set_cons_succ]
  refine takeH 1 86 (v := ?vse2) rfl rfl (by kernel_rfl) (by kernel_rfl) (by kernel_rfl) (fun _ _ _ h => h) (Or.inl ⟨by rfl, ?hse2⟩) hH0 ?rse2
  case hse2 => (intro w hSw; clear hSw; go_simp; (try with_reducible rfl))
  case rse2 =>
  try simp only [Act.put, List.setIfInBounds_toArray, List.set_cons_zero, List.set_cons_succ]
  refine takeH 2 87 (v := ?vse3) rfl rfl (by kernel_rfl) (by kernel_rfl) (by kernel_rfl) (fun _ _ _ h => h) (Or.inl ⟨by rfl, ?hse3⟩) hH0 ?rse3
  case hse3 => (intro w hSw; clear hSw; go_simp; (try with_reducible rfl))
  case rse3 =>
  try simp only [Act.put, List.setIfInBounds_toArray, List.set_cons_zero, List.set_cons_succ]
  refine takeH 3 88 (v := ?vse4) rfl rfl (by kernel_rfl) (by kernel_rfl) (by kernel_rfl) (fun _ _ _ h => h) (Or.inl ⟨by rfl, ?hse4⟩) hH0 ?rse4
  case hse4 => (intro w hSw; obtain ⟨s0, s1, s2, s3, s4, s5, s6, s7⟩ := hSw; go_simp; (try with_reducible rfl))
  case rse4 =>
  try simp only [Act.put, List.setIfInBounds_toArray, List.set_cons_zero, List.set_cons_succ]
  refine takeH 4 89 (v := ?vse5) rfl rfl (by kernel_rfl) (by kernel_rfl) (by kernel_rfl) (fun _ _ _ h => h) (Or.inl ⟨by rfl, ?hse5⟩) hH0 ?rse5
  case hse5 => (intro w hSw; clear hSw; go_simp; (try with_reducible rfl))
  case rse5 =>
  try simp only [Act.put, List.setIfInBounds_toArray, List.set_cons_zero, List.set_cons_succ]
  refine takeH 5 90 (v := ?vse6) rfl rfl (by kernel_rfl) (by kernel_rfl) (by kernel_rfl) (fun _ _ _ h => h) (Or.inl ⟨by rfl, ?hse6⟩) hH0 ?rse6
  case hse6 => (intro w hSw; clear hSw; go_simp; (try with_reducible rfl))
  case rse6 =>
  try simp only [Act.put, List.setIfInBounds_toArray, List.set_cons_zero, List.set_cons_succ]
  refine takeH 6 91 (v := ?vse7) rfl rfl (by kernel_rfl) (by kernel_rfl) (by kernel_rfl) (fun _ _ _ h => h) (Or.inl ⟨by rfl, ?hse7⟩) hH0 ?rse7
  case hse7 => (intro w hSw; clear hSw; go_simp; (try with_reducible rfl))
  case rse7 =>
  try simp only [Act.put, List.setIfInBounds_toArray, List.set_cons_zero, List.set_cons_succ]
  refine takeH 7 92 (v := ?vse8) rfl rfl (by kernel_rfl) (by kernel_rfl) (by kernel_rfl) (fun _ _ _ h => h) (Or.inl ⟨by rfl, ?hse8⟩) hH0 ?rse8
  case hse8 => (intro w hSw; obtain ⟨s0, s1, s2, s3, s4, s5, s6, s7⟩ := hSw; go_simp; (try with_reducible rfl))
  case rse8 =>
  try simp only [Act.put, List.setIfInBounds_toArray, List.set_cons_zero, List.set_cons_succ]
  refine callH 8 (by kernel_rfl) rfl 93 rfl rfl 129 Tryz.func129 (by kernel_rfl) (by kernel_rfl) #[.tmp 88, .tmp 92] #[52, 52] rfl #[.agg #[.int .i64 ke, .int .i64 kz, .slice oa on oc, .slice ya yn yc], .agg #[.int .i64 ke, .int .i64 kz, .slice oa2 on2 oc2, .slice ya2 yn2 yc2]] (by simp [Act.eval]) (R := fun v w' => v = .bool true ∧ Only (fun _ => False) wy.drew w') ((unhide C12).mono (by rintro en w' ⟨rfl, o⟩; exact ⟨_, rfl, rfl, o⟩)) ?kse
  case kse =>
  rintro _ w6 ⟨rfl, o6⟩
  have S6 : w6.cell? ⟨kk, 0, none⟩ = some (.int .i64 ke) ∧ w6.cell? ⟨kk, 1, none⟩ = some (.int .i64 kz) ∧ w6.cell? ⟨kk, 2, none⟩ = some (.slice oa on oc) ∧ w6.cell? ⟨kk, 3, none⟩ = some (.slice ya yn yc) ∧ w6.cell? ⟨kk, 4, none⟩ = some (.int .i64 ke) ∧ w6.cell? ⟨kk, 5, none⟩ = some (.int .i64 kz) ∧ w6.cell? ⟨kk, 6, none⟩ = some (.slice oa2 on2 oc2) ∧ w6.cell? ⟨kk, 7, none⟩ = some (.slice ya2 yn2 yc2) := ⟨o6.cellS hH0.1, o6.cellS hH0.2.1, o6.cellS hH0.2.2.1, o6.cellS hH0.2.2.2.1, o6.cellS hH0.2.2.2.2.1, o6.cellS hH0.2.2.2.2.2.1, o6.cellS hH0.2.2.2.2.2.2.1, o6.cellS hH0.2.2.2.2.2.2.2⟩
  refine ⟨S6, ?_⟩
  try simp only [Act.put, List.setIfInBounds_toArray, List.set_cons_zero, List.set_cons_succ]
  refine takeH 9 26 (v := ?vse9) rfl rfl (by kernel_rfl) (by kernel_rfl) (by kernel_rfl) (fun _ _ _ h => h) (Or.inl ⟨by rfl, ?hse9⟩) S6 ?rse9
  case hse9 => (intro w hSw; clear hSw; go_simp; (try with_reducible rfl))
  case rse9 =>
  try simp only [Act.put, List.setIfInBounds_toArray, List.set_cons_zero, List.set_cons_succ]
  refine wpAnyH_done (by kernel_rfl) ?_ _
  have oD : Only (fun _ => False) wy w6 := (Only.refl _ wy).drew.trans o6 (fun _ _ e => e)
  have HF := hide oD
  clear hH0 S6 o6 oD
  have hX := unhide HXX
  have HAll := hide (show Has w6 G9 #[.int .i64 re, .int .i64 rz, .slice ma mn mc, .slice ua un uc] 52 ∧ Has w6 G5 #[.int .i64 re, .int .i64 rz, .slice na nn nc, .slice ea en ec] 52 ∧ RsN B1 w6 (.slice na nn nc) (.slice ea en ec) RR.2 ∧ RsN B2 w6 (.slice ma mn mc) (.slice ua un uc) RR.2 ∧ RsN B w6 (.slice oa on oc) (.slice ya yn yc) R ∧ Has w6 kk #[.int .i64 ke, .int .i64 kz, .slice oa on oc, .slice ya yn yc, .int .i64 ke, .int .i64 kz, .slice oa2 on2 oc2, .slice ya2 yn2 yc2] 54 ∧ (∀ b, B2 b → w.heap.size ≤ b) ∧ Only (fun b => RSb p x k K b ∨ (H b ∨ b = k2) ∨ (B b ∨ b = kk)) w w6 ∧ w.heap.size ≤ G9 from ⟨(unhide HAll).1.keep (unhide HF) (fun e => e), (unhide HAll).2.1.keep (unhide HF) (fun e => e), (unhide HAll).2.2.1.keep (unhide HF) (fun _ _ e => e), (unhide HAll).2.2.2.1.keep (unhide HF) (fun _ _ e => e), hX.1.keep (unhide HF) (fun _ _ e => e), hX.2.2.2.keep (unhide HF) (fun e => e), (unhide HAll).2.2.2.2.2.1, (unhide HAll).2.2.2.2.2.2.1.trans ((unhide HF).mono (fun _ _ e => e.elim)) (fun _ _ e => e), (unhide HAll).2.2.2.2.2.2.2⟩)
  have HWz := hide ((unhide HWy).quiet (unhide HF))
  have HBn := hide (And.intro hX.2.1 hX.2.2.1)
  clear HF C12 HWy HXX hX
  clear kc0
  clear kc1
  clear kc2
  clear kc3
  clear kc4
  clear kc5
  clear kc6
  clear kc7
  clear kl
  generalize w6 = wz at *
  have k2c : wz.cell? ⟨kk, 2, none⟩ = some (.slice oa on oc) := (unhide HAll).2.2.2.2.2.1.cell 2
  have k3c : wz.cell? ⟨kk, 3, none⟩ = some (.slice ya yn yc) := (unhide HAll).2.2.2.2.2.1.cell 3
  have kl := (unhide HAll).2.2.2.2.2.1.lt
  obtain ⟨Yo, ro, mo, bo, so⟩ := (unhide HAll).2.2.2.2.1.rl
  have C13 := hide (spoilAllL_any ro (by have h := (unhide HBn).1.r; rw [← mo, List.length_map] at h; exact h) (fun z hz => (unhide HBn).1.rr z.2 (by rw [← mo]; exact List.mem_map.mpr ⟨z, hz, rfl⟩)))
  have HBo := hide (show ∀ b, ((Value.slice ya yn yc).ownBlock = some b ∨ ∃ z ∈ Yo, z.1.ownBlock = some b) → B b from fun b hb => hb.elim (bo b) (fun ⟨z, hz, c⟩ => so z hz b c))
  have HRo := hide ro
  clear ro mo bo so
  go_wp2_with fail
  refine (unhide C13).mono ?_
  rintro e wA ⟨rfl, oA⟩
  have cn2 : OwnN wz (.slice oa on oc) R.cols := (unhide HAll).2.2.2.2.1.cn
  have cb2 := (unhide HAll).2.2.2.2.1.cb
  have hN : OwnN wA (.slice oa on oc) R.cols := ownsRow_keep cn2 oA (fun b hb c => by
    rcases c with c | ⟨z, hz, c⟩
    · obtain ⟨c0, hc0⟩ := ownsRow_has (unhide HRo).own c
      exact ownsRow_ne cn2 hc0 (by decide) b hb rfl
    · obtain ⟨c0, hc0⟩ := ownsRow_has ((unhide HRo).row z hz).1 c
      exact ownsRow_ne cn2 hc0 (by decide) b hb rfl)
  have oA := oA.mono (T := B) (fun b _ hb => unhide HBo b hb)
  have k2c : wA.cell? ⟨kk, 2, none⟩ = some (.slice oa on oc) := cell_keep k2c oA (unhide HBn).2
  have kl : kk < wA.heap.size := Nat.lt_of_lt_of_le kl oA.size
  have C14 := hide (spoilNames_any hN (unhide HBn).1.c)
  have HoA := hide oA
  have Hcb := hide cb2
  clear C13 oA hN cn2 cb2 HRo HBo k3c
  go_wp2_with fail
  refine (unhide C14).mono ?_
  rintro e wB ⟨rfl, oB⟩
  have oB : Only B wz wB := (unhide HoA).trans oB (fun b _ hb => unhide Hcb b hb)
  have hEB : ∀ b, B b → b < w.heap.size := fun b hb => ((unhide HW).ex b (unhide HBE b (.inl hb))).2.2.2.1
  have hEk : kk < w.heap.size := ((unhide HW).ex kk (unhide HBE kk (.inr rfl))).2.2.2.1
  have nw : ∀ b, w.heap.size ≤ b → ¬ B b := fun b hb c => by have := hEB b c; omega
  have hb1 := (unhide HInf).1
  have hb2 := (unhide HAll).2.2.2.2.2.2.1
  have hg5 := unhide HG5
  have hg9 := (unhide HAll).2.2.2.2.2.2.2.2
  have KB := (unhide HAll).2.2.2.2.2.1.keep oB (unhide HBn).2
  have GB := (unhide HAll).2.1.keep oB (nw _ hg5)
  have MB := (unhide HAll).1.keep oB (nw _ hg9)
  have XB1 := (unhide HAll).2.2.1.keep oB (fun b hb => nw b (hb1 b hb))
  have XB2 := (unhide HAll).2.2.2.1.keep oB (fun b hb => nw b (hb2 b hb))
  have WB_ := (unhide HWz).own oB (fun b hb => .inl (.inl (unhide HBE b (.inl hb))))
  have OB := (unhide HAll).2.2.2.2.2.2.2.1.trans (oB.mono (T := fun b => RSb p x k K b ∨ (H b ∨ b = k2) ∨ (B b ∨ b = kk)) (fun b _ h => .inr (.inr (.inl h)))) (fun _ _ e => e)
  have g0 : wB.cell? ⟨G5, 0, none⟩ = some (.int .i64 re) := GB.cell 0
  have g1 : wB.cell? ⟨G5, 1, none⟩ = some (.int .i64 rz) := GB.cell 1
  have g2 : wB.cell? ⟨G5, 2, none⟩ = some (.slice na nn nc) := GB.cell 2
  have g3 : wB.cell? ⟨G5, 3, none⟩ = some (.slice ea en ec) := GB.cell 3
  have gl := GB.lt
  have h0 : wB.cell? ⟨G9, 0, none⟩ = some (.int .i64 re) := MB.cell 0
  have h1 : wB.cell? ⟨G9, 1, none⟩ = some (.int .i64 rz) := MB.cell 1
  have h2 : wB.cell? ⟨G9, 2, none⟩ = some (.slice ma mn mc) := MB.cell 2
  have h3 : wB.cell? ⟨G9, 3, none⟩ = some (.slice ua un uc) := MB.cell 3
  have hl := MB.lt
  have j0 : wB.cell? ⟨kk, 0, none⟩ = some (.int .i64 ke) := KB.cell 0
  have j1 : wB.cell? ⟨kk, 1, none⟩ = some (.int .i64 kz) := KB.cell 1
  have j2 : wB.cell? ⟨kk, 2, none⟩ = some (.slice oa on oc) := KB.cell 2
  have j3 : wB.cell? ⟨kk, 3, none⟩ = some (.slice ya yn yc) := KB.cell 3
  have j4 : wB.cell? ⟨kk, 4, none⟩ = some (.int .i64 ke) := KB.cell 4
  have j5 : wB.cell? ⟨kk, 5, none⟩ = some (.int .i64 kz) := KB.cell 5
  have j6 : wB.cell? ⟨kk, 6, none⟩ = some (.slice oa2 on2 oc2) := KB.cell 6
  have j7 : wB.cell? ⟨kk, 7, none⟩ = some (.slice ya2 yn2 yc2) := KB.cell 7
  have f0 := KB.free 0
  have f1 := KB.free 1
  have f2 := KB.free 2
  have f3 := KB.free 3
  have f4 := KB.free 4
  have f5 := KB.free 5
  have f6 := KB.free 6
  have f7 := KB.free 7
  have jl := KB.lt
  have ne5 : G5 ≠ kk := by omega
  have ne9 : G9 ≠ kk := by omega
  have hset := has_setAll [.int .i64 re, .int .i64 rz, .slice na nn nc, .slice ea en ec, .int .i64 re, .int .i64 rz, .slice ma mn mc, .slice ua un uc] KB rfl
  have oset := only_setW kk [.int .i64 re, .int .i64 rz, .slice na nn nc, .slice ea en ec, .int .i64 re, .int .i64 rz, .slice ma mn mc, .slice ua un uc] 0 wB
  have nk1 : ∀ b, w.heap.size ≤ b → ¬ (b = kk) := fun b hb e => by omega
  have HE := hide (show WQ lo (setW kk [.int .i64 re, .int .i64 rz, .slice na nn nc, .slice ea en ec, .int .i64 re, .int .i64 rz, .slice ma mn mc, .slice ua un uc] 0 wB) p' k g x RR.1 K' pl k2 q2 RR.1 H' kb qb M Hb (fun b => (E b ∨ B1 b) ∨ B2 b) ∧ KpQ (setW kk [.int .i64 re, .int .i64 rz, .slice na nn nc, .slice ea en ec, .int .i64 re, .int .i64 rz, .slice ma mn mc, .slice ua un uc] 0 wB) kk RR.2 (fun b => B1 b ∨ B2 b) ∧ Only (fun b => RSb p x k K b ∨ (H b ∨ b = k2) ∨ (B b ∨ b = kk)) w (setW kk [.int .i64 re, .int .i64 rz, .slice na nn nc, .slice ea en ec, .int .i64 re, .int .i64 rz, .slice ma mn mc, .slice ua un uc] 0 wB) ∧ (setW kk [.int .i64 re, .int .i64 rz, .slice na nn nc, .slice ea en ec, .int .i64 re, .int .i64 rz, .slice ma mn mc, .slice ua un uc] 0 wB).cell? ⟨G5, 0, none⟩ = some (.int .i64 re) ∧ G5 < (setW kk [.int .i64 re, .int .i64 rz, .slice na nn nc, .slice ea en ec, .int .i64 re, .int .i64 rz, .slice ma mn mc, .slice ua un uc] 0 wB).heap.size from by
    refine ⟨WB_.own oset (fun b (e : b = kk) => .inl (.inl (unhide HBE b (.inr e)))), ⟨na, nn, nc, ea, en, ec, ma, mn, mc, ua, un, uc, by rw [(unhide HRE).1, (unhide HRE).2]; exact hset, ?_, ?_, unhide HRB, fun c => c.elim (fun c => nk1 kk (hb1 kk c) rfl) (fun c => nk1 kk (hb2 kk c) rfl)⟩, OB.trans (oset.mono (T := fun b => RSb p x k K b ∨ (H b ∨ b = k2) ∨ (B b ∨ b = kk)) (fun b _ (e : b = kk) => .inr (.inr (.inr e)))) (fun _ _ e => e), cell_keep g0 oset ne5, Nat.lt_of_lt_of_le gl oset.size⟩
    · exact (XB1.keep oset (fun b hb (e : b = kk) => nk1 b (hb1 b hb) e)).widen (fun _ h => .inl h)
    · exact (XB2.keep oset (fun b hb (e : b = kk) => nk1 b (hb2 b hb) e)).widen (fun _ h => .inr h))
  have HB12 := hide (And.intro hb1 hb2)
  simp only [setW, Nat.zero_add, Nat.reduceAdd] at HE
  clear C14 oB hEB hEk nw hb1 hb2 hg5 hg9 KB GB MB XB1 XB2 WB_ OB hset oset nk1 HAll HWz HoA Hcb HBn k2c kl
  go_upto_region 17 with fail
  generalize ((((((((wB.setCell ⟨kk, 0, none⟩ (.int .i64 re)).setCell ⟨kk, 1, none⟩ (.int .i64 rz)).setCell ⟨kk, 2, none⟩ (.slice na nn nc)).setCell ⟨kk, 3, none⟩ (.slice ea en ec)).setCell ⟨kk, 4, none⟩ (.int .i64 re)).setCell ⟨kk, 5, none⟩ (.int .i64 rz)).setCell ⟨kk, 6, none⟩ (.slice ma mn mc)).setCell ⟨kk, 7, none⟩ (.slice ua un uc)) = ws at *
  clear g0 g1 g2 g3 gl h0 h1 h2 h3 hl j0 f0 j1 f1 j2 f2 j3 f3 j4 f4 j5 f5 j6 f6 j7 f7 jl ne5 ne9
  have g0 : ws.cell? ⟨G5, 0, none⟩ = some (.int .i64 re) := (unhide HE).2.2.2.1
  have gl := (unhide HE).2.2.2.2
  have HFin := hide (show ∀ (loud : Bool), (re = 0 → LD → loud = true) → SeP lo w p k g x K k2 q2 H kb qb M Hb E kk B RR.1 RR.2 pl (.returned (.tuple #[.bool true, .bool loud, .int .i64 pl, .int .i64 rd])) ws from fun loud hl => ⟨loud, rd, p', K', H', fun b => B1 b ∨ B2 b, rfl, (unhide HE).1.sub (fun b hb => by rcases hb with c | c | c; exact .inl (.inl c); exact .inl (.inr c); exact .inr c), (unhide HE).2.1, fun b hb => .inr (hb.elim ((unhide HB12).1 b) ((unhide HB12).2 b)), (unhide HInf).2.1, (unhide HInf).2.2.imp id (fun h => ⟨hl h.1 h.2.1, h.2.2⟩), (unhide HE).2.2.1⟩)
  have CA := smactive_any (unhide HE).1.me s
  obtain ⟨ab, hab⟩ : ∃ b, (decide (gdS s) && RR.1.act s.toNat) = b := ⟨_, rfl⟩
  rw [hab] at CA HLD
  have CA := hide CA
  clear hab HE HInf HB12
  by_cases e0 : re = 0
  · have d0 : (re == 0) = true := by simpa using e0
    have hld := unhide HLD e0
    have HL2 := hide hld
    clear hld e0
    go_wp2_with fail
    refine (unhide CA).mono ?_
    rintro e wt ⟨rfl, rfl⟩
    clear CA
    cases ab with
    | true =>
      have FF := hide (unhide HFin false (fun _ h => by have := (unhide HL2 h).1; cases this))
      go_wp2_with fail
      refine bodyPost_ret (results_tmp4 rfl _ _ _) rfl ?_
      exact unhide FF
    | false =>
      by_cases e3 : kd = 3
      · have d3 : (kd != 3) = false := by simp [e3]
        have FF := hide (unhide HFin false (fun _ h => absurd e3 (unhide HL2 h).2))
        clear e3
        go_wp2_with fail
        refine bodyPost_ret (results_tmp4 rfl _ _ _) rfl ?_
        exact unhide FF
      · have d3 : (kd != 3) = true := by simpa using e3
        have FF := hide (unhide HFin true (fun _ _ => rfl))
        clear e3
        go_wp2_with fail
        refine bodyPost_ret (results_tmp4 rfl _ _ _) rfl ?_
        exact unhide FF
  · have d0 : (re == 0) = false := by simpa using e0
    have FF := hide (unhide HFin false (fun h => absurd h e0))
    clear e0 CA
    go_wp2_with fail
    refine bodyPost_ret (results_tmp4 rfl _ _ _) rfl ?_
    exact unhide FF
end
end Go.Proofs.Qxb6500412aGreat
