/-
  OWN WORK. THE TXN LAW: Follow: a Commit whose list is played (written by tools/gen_xg61.py).
-/
import Derived.Test.Qxb6500414aGreatXG5
namespace Go.Proofs.Qxb6500414aGreat
open Go.RowKit Go.PlainAid
set_option linter.unusedSimpArgs false
set_option linter.unusedVariables false

theorem rok_at : ∀ (L : List Rq) (j : Nat) (D : Db) {y : Rq}, rok L D → L[j]? = some y → (shP (rend (L.take j) D) y.kd y.bb y.cc y.s y.t).2 = y.an
  | [], j, D, y, h, e => by simp at e
  | x :: l, 0, D, y, h, e => by
    obtain rfl : x = y := by simpa using e
    exact h.1
  | x :: l, j + 1, D, y, h, e => rok_at l j _ h.2 (by simpa using e)
theorem rend_at : ∀ (L : List Rq) (j : Nat) (D : Db) {y : Rq}, L[j]? = some y → rend (L.take (j + 1)) D = (shP (rend (L.take j) D) y.kd y.bb y.cc y.s y.t).1
  | [], j, D, y, e => by simp at e
  | x :: l, 0, D, y, e => by
    obtain rfl : x = y := by simpa using e
    rfl
  | x :: l, j + 1, D, y, e => rend_at l j _ (by simpa using e)
/-- The list played up to j. -/
def PlI (w2 : World) (kG : Nat) (m : GhM) (L : List Rq) (sh : Db) (j : Nat) (wr : World) : Prop := ∃ v' l', GhAt wr kG (m.setS v' l') (rend (L.take j) sh) ∧ (∀ k, MLm v' l' k → MLm m.shv m.shl k ∨ w2.heap.size ≤ k) ∧ (∀ k, MLi l' k → MLi m.shl k ∨ w2.heap.size ≤ k) ∧ Only (fun k => k = kG ∨ MLm m.shv m.shl k) w2 wr
theorem PlI.next {w2 w4 w5 : World} {kG j kb : Nat} {m : GhM} {L : List Rq} {sh : Db} {v' : Value} {l' : List GE} {y : Rq} (hy : L[j]? = some y) (hm : ∀ k, MLm v' l' k → MLm m.shv m.shl k ∨ w2.heap.size ≤ k) (hi : ∀ k, MLi l' k → MLi m.shl k ∨ w2.heap.size ≤ k) (ho : Only (fun k => k = kG ∨ MLm m.shv m.shl k) w2 w4) (hF : PsF w4 kG (m.setS v' l') (shP (rend (L.take j) sh) y.kd y.bb y.cc y.s y.t).1 y.an kb w5) {w6 : World} (o6 : Only (fun _ => False) w5 w6) : PlI w2 kG m L sh (j + 1) w6 := by
  obtain ⟨m2, v2, l2, hkb, hB, hA2, hAn, hG2, hm2, hi2, o2⟩ := hF
  have s4 := ho.size
  rw [← rend_at L j sh hy] at hG2
  refine ⟨v2, l2, hG2.quiet o6, fun k h => ?_, fun k h => ?_, ?_⟩
  · rcases hm2 k h with h | h
    · exact hm k h
    · exact .inr (by omega)
  · rcases hi2 k h with h | h
    · exact hi k h
    · exact .inr (by omega)
  · refine (ho.trans o2 (fun k hl h => ?_)).trans (o6.mono (fun _ _ h => h.elim)) (fun _ _ h => h)
    rcases h with h | h
    · exact .inl h
    · rcases hm k h with h | h
      · exact .inr h
      · omega
section
variable {q : Gnd} {w : World} {g x kG n : Nat} {M M' : Mu} {K : Nat → Prop} {m : GhM} {sh : Db} {am : AnM} {an : An} {kd a bb cc : Int} {s t : ByteArray}
set_option maxRecDepth 100000 in
set_option maxHeartbeats 4000000 in
theorem fo_cmt (R : RX q w g x M' K) (G : GhAt w kG m sh) (A : AnAt w am an) (hGs : ∀ k, m.A kG k → ¬ q.A k ∧ k ≠ x ∧ ¬ K k) (hAs : ∀ k, AnB am k → ¬ q.A k ∧ k ≠ x ∧ ¬ K k ∧ ¬ m.T kG k) (Se : SerI M m sh) (ok : MuOk M) (hn : n < 4) (he : an.e = 0) (hov : m.ov n = false) (hrok : rok ((m.ls n).map (·.r)) sh) (hend : rend ((m.ls n).map (·.r)) sh = M'.com) (hsee : M'.see n = M'.com) (hs2 : ∀ v l, SerI M' ((m.setS v l).setL n (.slice none 0 0) []) M'.com) : Calls Tryz.prog 15 #[.pointer (some ⟨kG, 0, none⟩), .pointer (some ⟨g, 0, none⟩), opX 2 n bb cc s t, .agg (anC am an)] w (FoP q w g x M' K kG m am) := by
  obtain ⟨p1, p2, hp⟩ := A.row.shape
  obtain ⟨r1, r2, hr⟩ := ownsRow_shape A.own
  obtain ⟨t1, t2, ht⟩ := A.col.shape
  obtain ⟨v1, v2, hv⟩ := ownsRow_shape A.nms
  obtain ⟨ln, hln⟩ : ∃ k, an.row.length = k := ⟨_, rfl⟩
  obtain ⟨ls, hls⟩ : ∃ k, am.Z.length = k := ⟨_, rfl⟩
  obtain ⟨lc, hlc⟩ : ∃ k, an.cols.length = k := ⟨_, rfl⟩
  obtain ⟨lm, hlm⟩ : ∃ k, an.names.length = k := ⟨_, rfl⟩
  rw [hln] at hp
  rw [hls] at hr
  rw [hlc] at ht
  rw [hlm] at hv
  have o1 : Only (fun _ => False) w ((w.alloc (.cells #[.int .i64 2, .int .i64 n, .int .i64 bb, .int .i64 cc, .string s, .string t] 44)).alloc (.cells #[.int .i64 an.e, .int .i64 an.n, .slice p1 ln p2, .slice r1 ls r2, .string an.nm, .slice t1 lc t2, .int .i64 an.pk, .int .i64 an.ix, .slice v1 lm v2] 54)) := ((Only.refl _ w).alloc _).alloc _
  have N1 : Has ((w.alloc (.cells #[.int .i64 2, .int .i64 n, .int .i64 bb, .int .i64 cc, .string s, .string t] 44)).alloc (.cells #[.int .i64 an.e, .int .i64 an.n, .slice p1 ln p2, .slice r1 ls r2, .string an.nm, .slice t1 lc t2, .int .i64 an.pk, .int .i64 an.ix, .slice v1 lm v2] 54)) w.heap.size #[.int .i64 2, .int .i64 n, .int .i64 bb, .int .i64 cc, .string s, .string t] 44 := (Has.new w _ _).alloc _
  have N2 : Has ((w.alloc (.cells #[.int .i64 2, .int .i64 n, .int .i64 bb, .int .i64 cc, .string s, .string t] 44)).alloc (.cells #[.int .i64 an.e, .int .i64 an.n, .slice p1 ln p2, .slice r1 ls r2, .string an.nm, .slice t1 lc t2, .int .i64 an.pk, .int .i64 an.ix, .slice v1 lm v2] 54)) (w.heap.size + 1) #[.int .i64 an.e, .int .i64 an.n, .slice p1 ln p2, .slice r1 ls r2, .string an.nm, .slice t1 lc t2, .int .i64 an.pk, .int .i64 an.ix, .slice v1 lm v2] 54 := Has.new' _ _ _ _ (by simp)
  have HR := hide (R.quiet o1)
  have HG := hide (G.quiet o1)
  have HA := hide (A.quiet o1)
  have HGl := hide (show ∀ k, m.A kG k → k < w.heap.size from G.lt)
  have HAl := hide (show ∀ k, AnB am k → k < w.heap.size from A.lt)
  have HQl := hide (show ∀ k, q.A k ∨ k = x ∨ K k → k < w.heap.size from fun k h => by
    rcases h with h | h | h
    · exact R.Alt.1 k h
    · rw [h]; exact R.Alt.2
    · exact (R.kA k h).2.2)
  have HGs := hide hGs
  have HAs := hide hAs
  have HSe := hide (And.intro Se ok)
  have HO := hide o1
  have HN1 := hide N1
  have HN2 := hide N2
  have Hsh := hide (And.intro (And.intro hp hr) (And.intro ht hv))
  unfold anC opX
  rw [hp, hr, ht, hv]
  have HS2 := hide hs2
  have He := hide he
  have Hov := hide hov
  have Hsee := hide hsee
  have Hrok := hide (And.intro hrok hend)
  clear hs2 he hov hsee hrok hend
  clear R G A hGs hAs Se ok o1 N1 N2 hp hr ht hv hln hls hlc hlm
  go_enter Tryz.func15, Tryz.ntmps15
  go_upto_region 1 with fail
  generalize ((w.alloc (.cells #[.int .i64 2, .int .i64 n, .int .i64 bb, .int .i64 cc, .string s, .string t] 44)).alloc (.cells #[.int .i64 an.e, .int .i64 an.n, .slice p1 ln p2, .slice r1 ls r2, .string an.nm, .slice t1 lc t2, .int .i64 an.pk, .int .i64 an.ix, .slice v1 lm v2] 54)) = w1 at *
  have k1 := (unhide HN1).lt
  have k2 := (unhide HN2).lt
  have s1 := (unhide HO).size
  generalize hka : w.heap.size = ka at *
  have Hka := hide hka
  clear hka
  have a0 : w1.cell? ⟨ka, 0, none⟩ = some (.int .i64 2) := (unhide HN1).cell 0
  have a1 : w1.cell? ⟨ka, 1, none⟩ = some (.int .i64 n) := (unhide HN1).cell 1
  have b0 : w1.cell? ⟨ka + 1, 0, none⟩ = some (.int .i64 an.e) := (unhide HN2).cell 0
  have C1 := xgood_any (n : Int) w1
  rw [decide_eq_true (show gdS ((n : Nat) : Int) from ⟨by omega, by omega⟩)] at C1
  have C1 := hide C1
  have n4 : (n : Int) < 4 := by omega
  go_wp2_with fail
  refine (unhide C1).mono ?_
  rintro e w2 ⟨rfl, rfl⟩
  clear C1
  rw [unhide He] at b0
  have c1 := (unhide HG).cO hn
  rw [unhide Hov] at c1
  have kGl := (unhide HG).has.lt
  go_upto_region 10 with fail
  go_cut [49] (fun zv wx => zv = .bool false ∧ Only (fun _ => False) w1 wx)
  case first =>
    go_quiet (fail)
    go_wp2_with fail
    go_meet
    exact ⟨rfl, onlyQ _ _⟩
  case rest =>
  obtain ⟨rfl, oC⟩ := hcut
  generalize wc = w2 at *
  clear kGl c1
  have HG := hide ((unhide HG).quiet oC)
  have HR := hide ((unhide HR).quiet oC)
  have HA := hide ((unhide HA).quiet oC)
  have HO := hide ((unhide HO).trans oC (fun _ _ h => h))
  have HN1 := hide ((unhide HN1).keep oC (fun h => h))
  have HN2 := hide ((unhide HN2).keep oC (fun h => h))
  clear oC a0 a1 b0
  have k1 := (unhide HN1).lt
  have k2 := (unhide HN2).lt
  have s1 := (unhide HO).size
  have a0 : w2.cell? ⟨ka, 0, none⟩ = some (.int .i64 2) := (unhide HN1).cell 0
  have a1 : w2.cell? ⟨ka, 1, none⟩ = some (.int .i64 n) := (unhide HN1).cell 1
  have b0 : w2.cell? ⟨ka + 1, 0, none⟩ = some (.int .i64 an.e) := (unhide HN2).cell 0
  rw [unhide He] at b0
  obtain ⟨L, hL⟩ : ∃ L, (m.ls n).map (·.r) = L := ⟨_, rfl⟩
  have HLe := hide hL
  rw [hL] at Hrok
  clear hL
  obtain ⟨jn, hjn⟩ : ∃ k, (m.ls n).length = k := ⟨_, rfl⟩
  obtain ⟨ja, jc, hlv⟩ : ∃ ja jc, m.lv n = .slice ja jn jc := by
    obtain ⟨a, c, h⟩ := ownsRow_shape ((unhide HG).rl n hn).own
    exact ⟨a, c, by rw [← hjn]; exact h⟩
  have Hjn := hide hjn
  have Hlv := hide hlv
  have jl64 : jn ≤ 64 := by have := (unhide HG).len n hn; rw [hjn] at this; exact this
  clear hjn hlv
  have HI0 := hide (show PlI w2 kG m L sh 0 w2 from ⟨m.shv, m.shl, unhide HG, fun k h => .inl h, fun k h => .inl h, Only.refl _ _⟩)
  have kaN : ¬ (ka = kG ∨ MLm m.shv m.shl ka) := fun c => by have := unhide HGl ka (.inl (c.elim .inl (fun h => .inr (.inl h)))); omega
  have HkN := hide kaN
  clear kaN k1 k2
  go_upto_region 16 with fail
  go_loopw [9, 10] (fun jv _ wr => ∃ j : Nat, jv = .int .i64 j ∧ j ≤ jn ∧ PlI w2 kG m L sh j wr) (fun jv _ _ => jn + 1 - (intOf jv).toNat)
  case atStart => exact ⟨0, rfl, Nat.zero_le _, unhide HI0⟩
  case round =>
    clear HI0 a0 a1 b0
    obtain ⟨j, rfl, hj, v', l', hG, hm, hi, ho⟩ := hrel
    obtain ⟨m1, hm1⟩ : ∃ m1, m1 = m.setS v' l' := ⟨_, rfl⟩
    rw [← hm1] at hG
    have e1 : m1.lv n = .slice ja jn jc := by rw [hm1]; exact unhide Hlv
    have c1 := hG.cL hn
    rw [e1] at c1
    have kGl := hG.has.lt
    have N1 := (unhide HN1).keep ho (unhide HkN)
    have kal := N1.lt
    have a1 : wr.cell? ⟨ka, 1, none⟩ = some (.int .i64 n) := N1.cell 1
    have HG1 := hide hG
    have HN3 := hide N1
    have Ho := hide ho
    have Hmi := hide (And.intro hm hi)
    have Hm1 := hide hm1
    have He1 := hide e1
    clear hG hm hi ho N1 hm1 e1
    by_cases hjl : j < jn
    · have dj : decide ((j : Int) < (jn : Int)) = true := decide_eq_true (by omega)
      have djp : (j : Int) < (jn : Int) := by omega
      go_upto_region 16 with fail
      go_cut [75] (fun zv wx => zv = .bool true ∧ Only (fun _ => False) wr wx)
      case first =>
        go_quiet (fail)
        go_wp2_with fail
        go_meet
        exact ⟨rfl, onlyQ _ _⟩
      case rest =>
      obtain ⟨rfl, oC⟩ := hcut
      generalize wc = w4 at *
      have HG := hide ((unhide HG1).quiet oC)
      have HN4 := hide ((unhide HN3).keep oC (fun h => h))
      have Ho4 := hide ((unhide Ho).trans (oC.mono (T := fun k => k = kG ∨ MLm m.shv m.shl k) (fun _ _ h => h.elim)) (fun _ _ h => h))
      clear oC c1 kGl kal a1 dj HG1 HN3 Ho
      obtain ⟨y, hy⟩ := getE (l := m.ls n) (i := j) (by rw [unhide Hjn]; exact hjl)
      have hyL : L[j]? = some y.r := by rw [← unhide HLe, List.getElem?_map, hy]; rfl
      have hok := rok_at L j sh (unhide Hrok).1 hyL
      have e1s : m1.ls n = m.ls n := by rw [unhide Hm1]; rfl
      have rl4 := (unhide HG).rl n hn
      rw [unhide He1, e1s] at rl4
      obtain ⟨lb, hlb, hcl⟩ := rl4.at_ hy
      subst hlb
      have htz : y.r.t.size ≤ maxLen := (unhide HG).tl n hn y (by rw [e1s]; exact List.mem_of_getElem? hy)
      have Htz := hide htz
      have Ay := rl4.an y (List.mem_of_getElem? hy)
      have lbl : lb < w4.heap.size := rl4.lt lb (.inl rfl)
      have lbN : ¬ (lb = kG ∨ MLm m1.shv m1.shl lb) := fun c => by
        rcases c with c | c
        · exact (unhide HG).ne.2.1 n hn lb (by rw [unhide He1]; rfl) c
        · exact ((unhide HG).lne hn (by rw [unhide He1]; rfl)).1 c
      obtain ⟨ya1, ya2, hya⟩ := Ay.row.shape
      obtain ⟨yb1, yb2, hyb⟩ := ownsRow_shape Ay.own
      obtain ⟨yc1, yc2, hyc⟩ := Ay.col.shape
      obtain ⟨yd1, yd2, hyd⟩ := ownsRow_shape Ay.nms
      obtain ⟨yal, hyal⟩ : ∃ k, y.r.an.row.length = k := ⟨_, rfl⟩
      obtain ⟨ybl, hybl⟩ : ∃ k, y.m.Z.length = k := ⟨_, rfl⟩
      obtain ⟨ycl, hycl⟩ : ∃ k, y.r.an.cols.length = k := ⟨_, rfl⟩
      obtain ⟨ydl, hydl⟩ : ∃ k, y.r.an.names.length = k := ⟨_, rfl⟩
      rw [hyal] at hya
      rw [hybl] at hyb
      rw [hycl] at hyc
      rw [hydl] at hyd
      have c1 := (unhide HG).cL hn
      rw [unhide He1] at c1
      have kGl := (unhide HG).has.lt
      have kal := (unhide HN4).lt
      have a1 : w4.cell? ⟨ka, 1, none⟩ = some (.int .i64 n) := (unhide HN4).cell 1
      have q0 : w4.cell? ⟨lb, j * 15, none⟩ = some (.int .i64 y.r.kd) := hcl 0 _ rfl
      have q1 : w4.cell? ⟨lb, j * 15 + 1, none⟩ = some (.int .i64 y.r.a) := hcl 1 _ rfl
      have q2 : w4.cell? ⟨lb, j * 15 + 2, none⟩ = some (.int .i64 y.r.bb) := hcl 2 _ rfl
      have q3 : w4.cell? ⟨lb, j * 15 + 3, none⟩ = some (.int .i64 y.r.cc) := hcl 3 _ rfl
      have q4 : w4.cell? ⟨lb, j * 15 + 4, none⟩ = some (.string y.r.s) := hcl 4 _ rfl
      have q5 : w4.cell? ⟨lb, j * 15 + 5, none⟩ = some (.string y.r.t) := hcl 5 _ rfl
      obtain ⟨DJ, hDJ⟩ : ∃ D, rend (L.take j) sh = D := ⟨_, rfl⟩
      rw [hDJ] at hok HG
      have HDJ := hide hDJ
      have Hok := hide hok
      have Hy := hide (And.intro hy hyL)
      have Hys := hide (And.intro (And.intro hya hyb) (And.intro hyc hyd))
      have HlN := hide lbN
      clear hDJ hok hy hyL e1s rl4 hcl htz Ay lbN hya hyb hyc hyd hyal hybl hycl hydl
      have CA1 := hide (playShadow_any ((unhide HG).quiet ((Only.refl (fun _ => False) w4).drew)).md y.r.kd y.r.a y.r.bb y.r.cc y.r.s y.r.t (unhide Htz))
      have CA2 := hide (playShadow_any ((unhide HG).quiet (((Only.refl (fun _ => False) w4).alloc (.cells #[.int .i64 0, .int .i64 0, .slice none 0 0, .slice none 0 0, .string ⟨#[]⟩, .slice none 0 0, .int .i64 0, .int .i64 0, .slice none 0 0] 54)).drew)).md y.r.kd y.r.a y.r.bb y.r.cc y.r.s y.r.t (unhide Htz))
      obtain ⟨RE, HRE⟩ : ∃ z, Hid ((shP DJ y.r.kd y.r.bb y.r.cc y.r.s y.r.t).2.e = z) := ⟨_, hide rfl⟩
      obtain ⟨RN, HRN⟩ : ∃ z, Hid ((shP DJ y.r.kd y.r.bb y.r.cc y.r.s y.r.t).2.n = z) := ⟨_, hide rfl⟩
      obtain ⟨RM, HRM⟩ : ∃ z, Hid ((shP DJ y.r.kd y.r.bb y.r.cc y.r.s y.r.t).2.nm = z) := ⟨_, hide rfl⟩
      obtain ⟨RP, HRP⟩ : ∃ z, Hid ((shP DJ y.r.kd y.r.bb y.r.cc y.r.s y.r.t).2.pk = z) := ⟨_, hide rfl⟩
      obtain ⟨RI, HRI⟩ : ∃ z, Hid ((shP DJ y.r.kd y.r.bb y.r.cc y.r.s y.r.t).2.ix = z) := ⟨_, hide rfl⟩
      go_upto_region 18 with fail
      go_cut [10] from 78 to 92 (fun kv wx => ∃ kb, kv = .pointer (some ⟨kb, 0, none⟩) ∧ PsF w4 kG m1 (shP DJ y.r.kd y.r.bb y.r.cc y.r.s y.r.t).1 (shP DJ y.r.kd y.r.bb y.r.cc y.r.s y.r.t).2 kb wx)
      case first =>
        go_region_with (go_at_call 72; first | (refine (unhide CA1).mono ?_; intro e5 w5 hps; obtain ⟨m2, y1, yl, y2, z1, zl, z2, c1, cl, c2, n1, nl, n2, he5, ha5, h5⟩ := ps_shape hps; rw [unhide HRE, unhide HRN, unhide HRM, unhide HRP, unhide HRI] at he5 ha5; subst he5; have HF2 := hide (ps_first (e := .returned (.bool true)) (unhide HG) h5 ha5); clear h5 ha5 hps) | (refine (unhide CA2).mono ?_; intro e5 w5 hps; obtain ⟨m2, y1, yl, y2, z1, zl, z2, c1, cl, c2, n1, nl, n2, he5, ha5, h5⟩ := ps_shape hps; rw [unhide HRE, unhide HRN, unhide HRM, unhide HRP, unhide HRI] at he5 ha5; subst he5; obtain ⟨⟨b0, b1, b2, b3, b4, b5, b6, b7, b8, bf0, bf1, bf2, bf3, bf4, bf5, bf6, bf7, bf8⟩, hfin⟩ := ps_last (unhide HG) h5 (.int .i64 RE) (.int .i64 RN) (.slice y1 yl y2) (.slice z1 zl z2) (.string RM) (.slice c1 cl c2) (.int .i64 RP) (.int .i64 RI) (.slice n1 nl n2) ha5; have HF2 := hide hfin; clear h5 ha5 hps hfin))
        all_goals
          go_wp2_with fail
          go_meet
          exact ⟨_, rfl, unhide HF2⟩
      case rest =>
      clear CA1 CA2
      obtain ⟨kb, rfl, hF⟩ := hcut
      generalize wc = w5 at *
      rw [unhide Hok] at hF
      have HF := hide hF
      obtain ⟨m2, v2, l2, hkb, hB, hA2, hAn, hG2, hm2, hi2, o2⟩ := hF
      have By := (hG2.rl n hn).an y (by show y ∈ m1.ls n; rw [show m1.ls n = m.ls n by rw [unhide Hm1]; rfl]; exact List.mem_of_getElem? (unhide Hy).1)
      have CS := sameAns_any (hA2.quiet ((Only.refl (fun _ => False) w5).drew)) (By.quiet ((Only.refl (fun _ => False) w5).drew))
      obtain ⟨u1, u2, hu⟩ := hA2.row.shape
      obtain ⟨x1, x2, hx⟩ := ownsRow_shape hA2.own
      obtain ⟨c1', c2', hc⟩ := hA2.col.shape
      obtain ⟨n1', n2', hn'⟩ := ownsRow_shape hA2.nms
      obtain ⟨ul, hul⟩ : ∃ k, y.r.an.row.length = k := ⟨_, rfl⟩
      obtain ⟨xl, hxl⟩ : ∃ k, m2.Z.length = k := ⟨_, rfl⟩
      obtain ⟨cl', hcl'⟩ : ∃ k, y.r.an.cols.length = k := ⟨_, rfl⟩
      obtain ⟨nl', hnl'⟩ : ∃ k, y.r.an.names.length = k := ⟨_, rfl⟩
      rw [hul] at hu
      rw [hxl] at hx
      rw [hcl'] at hc
      rw [hnl'] at hn'
      unfold anC at CS hB
      rw [hu, hx, hc, hn', (unhide Hys).1.1, (unhide Hys).1.2, (unhide Hys).2.1, (unhide Hys).2.2] at CS
      rw [hu, hx, hc, hn'] at hB
      have CS := hide CS
      have kaN1 : ¬ (ka = kG ∨ MLm m1.shv m1.shl ka) := fun c => by
        rcases c with c | c
        · exact unhide HkN (.inl c)
        · have c' : MLm v' l' ka := by rw [unhide Hm1] at c; exact c
          have h1 := (unhide HN1).lt
          rcases (unhide Hmi).1 ka c' with h | h
          · exact unhide HkN (.inr h)
          · omega
      have a1' : w5.cell? ⟨ka, 1, none⟩ = some (.int .i64 n) := ((unhide HN4).keep o2 kaN1).cell 1
      have kal' := ((unhide HN4).keep o2 kaN1).lt
      have rl5 := hG2.rl n hn
      have e1s : (m1.setS v2 l2).ls n = m.ls n := by show m1.ls n = m.ls n; rw [unhide Hm1]; rfl
      have e1v : (m1.setS v2 l2).lv n = .slice (some ⟨lb, 0, none⟩) jn jc := unhide He1
      rw [e1v, e1s] at rl5
      obtain ⟨lb2, hlb2, hcl⟩ := rl5.at_ (unhide Hy).1
      obtain rfl : lb = lb2 := by simpa using hlb2
      have lbl' : lb < w5.heap.size := rl5.lt lb (.inl rfl)
      have cl1 : w5.cell? ⟨kG, 1 + n, none⟩ = some (.slice (some ⟨lb, 0, none⟩) jn jc) := by have := hG2.cL hn; rw [e1v] at this; exact this
      have kGl' := hG2.has.lt
      have kbl := hB.lt
      have r0 : w5.cell? ⟨lb, j * 15 + 6, none⟩ = some (.int .i64 y.r.an.e) := hcl 6 _ rfl
      have r1 : w5.cell? ⟨lb, j * 15 + 7, none⟩ = some (.int .i64 y.r.an.n) := hcl 7 _ rfl
      have r2 : w5.cell? ⟨lb, j * 15 + 8, none⟩ = some (.slice ya1 yal ya2) := by have := hcl 8 _ rfl; rw [(unhide Hys).1.1] at this; exact this
      have r3 : w5.cell? ⟨lb, j * 15 + 9, none⟩ = some (.slice yb1 ybl yb2) := by have := hcl 9 _ rfl; rw [(unhide Hys).1.2] at this; exact this
      have r4 : w5.cell? ⟨lb, j * 15 + 10, none⟩ = some (.string y.r.an.nm) := hcl 10 _ rfl
      have r5 : w5.cell? ⟨lb, j * 15 + 11, none⟩ = some (.slice yc1 ycl yc2) := by have := hcl 11 _ rfl; rw [(unhide Hys).2.1] at this; exact this
      have r6 : w5.cell? ⟨lb, j * 15 + 12, none⟩ = some (.int .i64 y.r.an.pk) := hcl 12 _ rfl
      have r7 : w5.cell? ⟨lb, j * 15 + 13, none⟩ = some (.int .i64 y.r.an.ix) := hcl 13 _ rfl
      have r8 : w5.cell? ⟨lb, j * 15 + 14, none⟩ = some (.slice yd1 ydl yd2) := by have := hcl 14 _ rfl; rw [(unhide Hys).2.2] at this; exact this
      have k0 : w5.cell? ⟨kb, 0, none⟩ = some (.int .i64 y.r.an.e) := hB.cell 0
      have k1 : w5.cell? ⟨kb, 1, none⟩ = some (.int .i64 y.r.an.n) := hB.cell 1
      have k2 : w5.cell? ⟨kb, 2, none⟩ = some (.slice u1 ul u2) := hB.cell 2
      have k3 : w5.cell? ⟨kb, 3, none⟩ = some (.slice x1 xl x2) := hB.cell 3
      have k4 : w5.cell? ⟨kb, 4, none⟩ = some (.string y.r.an.nm) := hB.cell 4
      have k5 : w5.cell? ⟨kb, 5, none⟩ = some (.slice c1' cl' c2') := hB.cell 5
      have k6 : w5.cell? ⟨kb, 6, none⟩ = some (.int .i64 y.r.an.pk) := hB.cell 6
      have k7 : w5.cell? ⟨kb, 7, none⟩ = some (.int .i64 y.r.an.ix) := hB.cell 7
      have k8 : w5.cell? ⟨kb, 8, none⟩ = some (.slice n1' nl' n2') := hB.cell 8
      clear hB hA2 hAn hG2 hm2 hi2 o2 By hu hx hc hn' hul hxl hcl' hnl' kaN1 rl5 hlb2 hcl e1s e1v c1 kGl kal a1 q0 q1 q2 q3 q4 q5 lbl
      go_upto_region 19 with fail
      refine wp_region_held_drew (S := (fun w' => w'.cell? ⟨ka, 1, none⟩ = some (.int .i64 n) ∧ w'.cell? ⟨kG, 1 + n, none⟩ = some (.slice (some ⟨lb, 0, none⟩) jn jc) ∧ w'.cell? ⟨lb, j * 15 + 6, none⟩ = some (.int .i64 y.r.an.e) ∧ w'.cell? ⟨lb, j * 15 + 7, none⟩ = some (.int .i64 y.r.an.n) ∧ w'.cell? ⟨lb, j * 15 + 8, none⟩ = some (.slice ya1 yal ya2) ∧ w'.cell? ⟨lb, j * 15 + 9, none⟩ = some (.slice yb1 ybl yb2) ∧ w'.cell? ⟨lb, j * 15 + 10, none⟩ = some (.string y.r.an.nm) ∧ w'.cell? ⟨lb, j * 15 + 11, none⟩ = some (.slice yc1 ycl yc2) ∧ w'.cell? ⟨lb, j * 15 + 12, none⟩ = some (.int .i64 y.r.an.pk) ∧ w'.cell? ⟨lb, j * 15 + 13, none⟩ = some (.int .i64 y.r.an.ix) ∧ w'.cell? ⟨lb, j * 15 + 14, none⟩ = some (.slice yd1 ydl yd2) ∧ w'.cell? ⟨kb, 0, none⟩ = some (.int .i64 y.r.an.e) ∧ w'.cell? ⟨kb, 1, none⟩ = some (.int .i64 y.r.an.n) ∧ w'.cell? ⟨kb, 2, none⟩ = some (.slice u1 ul u2) ∧ w'.cell? ⟨kb, 3, none⟩ = some (.slice x1 xl x2) ∧ w'.cell? ⟨kb, 4, none⟩ = some (.string y.r.an.nm) ∧ w'.cell? ⟨kb, 5, none⟩ = some (.slice c1' cl' c2') ∧ w'.cell? ⟨kb, 6, none⟩ = some (.int .i64 y.r.an.pk) ∧ w'.cell? ⟨kb, 7, none⟩ = some (.int .i64 y.r.an.ix) ∧ w'.cell? ⟨kb, 8, none⟩ = some (.slice n1' nl' n2'))) (by kernel_rfl) ⟨a1', cl1, r0, r1, r2, r3, r4, r5, r6, r7, r8, k0, k1, k2, k3, k4, k5, k6, k7, k8⟩ (fun hH0 => ?_)
      refine takeH 0 93 (v := ?vsa1) rfl rfl (by kernel_rfl) (by kernel_rfl) (by kernel_rfl) (fun _ _ _ h => h) (Or.inl ⟨by rfl, ?hsa1⟩) hH0 ?rsa1
      case hsa1 => (intro w hSw; obtain ⟨s0, s1, s2, s3, s4, s5, s6, s7, s8, s9, s10, s11, s12, s13, s14, s15, s16, s17, s18, s19⟩ := hSw; go_simp; (try with_reducible rfl))
      case rsa1 =>
      try simp only [Act.put, List.setIfInBounds_toArray, List.set_cons_zero, List.set_cons_succ]
      refine takeH 1 94 (v := ?vsa2) rfl rfl (by kernel_rfl) (by kernel_rfl) (by kernel_rfl) (fun _ _ _ h => h) (Or.inl ⟨by rfl, ?hsa2⟩) hH0 ?rsa2
      case hsa2 => (intro w hSw; clear hSw; go_simp; (try with_reducible rfl))
      case rsa2 =>
      try simp only [Act.put, List.setIfInBounds_toArray, List.set_cons_zero, List.set_cons_succ]
      refine takeH 2 95 (v := ?vsa3) rfl rfl (by kernel_rfl) (by kernel_rfl) (by kernel_rfl) (fun _ _ _ h => h) (Or.inl ⟨by rfl, ?hsa3⟩) hH0 ?rsa3
      case hsa3 => (intro w hSw; clear hSw; go_simp; (try with_reducible rfl))
      case rsa3 =>
      try simp only [Act.put, List.setIfInBounds_toArray, List.set_cons_zero, List.set_cons_succ]
      refine takeH 3 96 (v := ?vsa4) rfl rfl (by kernel_rfl) (by kernel_rfl) (by kernel_rfl) (fun _ _ _ h => h) (Or.inl ⟨by rfl, ?hsa4⟩) hH0 ?rsa4
      case hsa4 => (intro w hSw; obtain ⟨s0, s1, s2, s3, s4, s5, s6, s7, s8, s9, s10, s11, s12, s13, s14, s15, s16, s17, s18, s19⟩ := hSw; go_simp; (try with_reducible rfl))
      case rsa4 =>
      try simp only [Act.put, List.setIfInBounds_toArray, List.set_cons_zero, List.set_cons_succ]
      refine takeH 4 97 (v := ?vsa5) rfl rfl (by kernel_rfl) (by kernel_rfl) (by kernel_rfl) (fun _ _ _ h => h) (Or.inl ⟨by rfl, ?hsa5⟩) hH0 ?rsa5
      case hsa5 => (intro w hSw; clear hSw; go_simp; (try with_reducible rfl))
      case rsa5 =>
      try simp only [Act.put, List.setIfInBounds_toArray, List.set_cons_zero, List.set_cons_succ]
      refine takeH 5 98 (v := ?vsa6) rfl rfl (by kernel_rfl) (by kernel_rfl) (by kernel_rfl) (fun _ _ _ h => h) (Or.inl ⟨by rfl, ?hsa6⟩) hH0 ?rsa6
      case hsa6 => (intro w hSw; clear hSw; go_simp; (try with_reducible rfl))
      case rsa6 =>
      try simp only [Act.put, List.setIfInBounds_toArray, List.set_cons_zero, List.set_cons_succ]
      refine takeH 6 99 (v := ?vsa7) rfl rfl (by kernel_rfl) (by kernel_rfl) (by kernel_rfl) (fun _ _ _ h => h) (Or.inl ⟨by rfl, ?hsa7⟩) hH0 ?rsa7
      case hsa7 => (intro w hSw; clear hSw; go_simp; (try with_reducible rfl))
      case rsa7 =>
      try simp only [Act.put, List.setIfInBounds_toArray, List.set_cons_zero, List.set_cons_succ]
      refine takeH 7 100 (v := ?vsa8) rfl rfl (by kernel_rfl) (by kernel_rfl) (by kernel_rfl) (fun _ _ _ h => h) (Or.inl ⟨by rfl, ?hsa8⟩) hH0 ?rsa8
      case hsa8 => (intro w hSw; obtain ⟨s0, s1, s2, s3, s4, s5, s6, s7, s8, s9, s10, s11, s12, s13, s14, s15, s16, s17, s18, s19⟩ := hSw; go_simp; (try with_reducible rfl))
      case rsa8 =>
      try simp only [Act.put, List.setIfInBounds_toArray, List.set_cons_zero, List.set_cons_succ]
      refine takeH 8 101 (v := ?vsa9) rfl rfl (by kernel_rfl) (by kernel_rfl) (by kernel_rfl) (fun _ _ _ h => h) (Or.inl ⟨by rfl, ?hsa9⟩) hH0 ?rsa9
      case hsa9 => (intro w hSw; clear hSw; go_simp; (try with_reducible rfl))
      case rsa9 =>
      try simp only [Act.put, List.setIfInBounds_toArray, List.set_cons_zero, List.set_cons_succ]
      refine takeH 9 102 (v := ?vsa10) rfl rfl (by kernel_rfl) (by kernel_rfl) (by kernel_rfl) (fun _ _ _ h => h) (Or.inl ⟨by rfl, ?hsa10⟩) hH0 ?rsa10
      case hsa10 => (intro w hSw; clear hSw; go_simp; (try with_reducible rfl))
      case rsa10 =>
      try simp only [Act.put, List.setIfInBounds_toArray, List.set_cons_zero, List.set_cons_succ]
      refine takeH 10 103 (v := ?vsa11) rfl rfl (by kernel_rfl) (by kernel_rfl) (by kernel_rfl) (fun _ _ _ h => h) (Or.inl ⟨by rfl, ?hsa11⟩) hH0 ?rsa11
      case hsa11 => (intro w hSw; clear hSw; go_simp; (try with_reducible rfl))
      case rsa11 =>
      try simp only [Act.put, List.setIfInBounds_toArray, List.set_cons_zero, List.set_cons_succ]
      refine takeH 11 104 (v := ?vsa12) rfl rfl (by kernel_rfl) (by kernel_rfl) (by kernel_rfl) (fun _ _ _ h => h) (Or.inl ⟨by rfl, ?hsa12⟩) hH0 ?rsa12
      case hsa12 => (intro w hSw; obtain ⟨s0, s1, s2, s3, s4, s5, s6, s7, s8, s9, s10, s11, s12, s13, s14, s15, s16, s17, s18, s19⟩ := hSw; go_simp; (try with_reducible rfl))
      case rsa12 =>
      try simp only [Act.put, List.setIfInBounds_toArray, List.set_cons_zero, List.set_cons_succ]
      refine callH 12 (by kernel_rfl) rfl 105 rfl rfl 31 Tryz.func31 (by kernel_rfl) (by kernel_rfl) #[.tmp 93, .tmp 104] #[54, 54] rfl #[.agg #[.int .i64 y.r.an.e, .int .i64 y.r.an.n, .slice u1 ul u2, .slice x1 xl x2, .string y.r.an.nm, .slice c1' cl' c2', .int .i64 y.r.an.pk, .int .i64 y.r.an.ix, .slice n1' nl' n2'], .agg #[.int .i64 y.r.an.e, .int .i64 y.r.an.n, .slice ya1 yal ya2, .slice yb1 ybl yb2, .string y.r.an.nm, .slice yc1 ycl yc2, .int .i64 y.r.an.pk, .int .i64 y.r.an.ix, .slice yd1 ydl yd2]] (by simp [Act.eval]) (R := fun v w' => v = .bool true ∧ Only (fun _ => False) w5.drew w') ((unhide CS).mono (by rintro en w' ⟨rfl, h2⟩; exact ⟨_, rfl, rfl, h2⟩)) ?ksa
      case ksa =>
      rintro _ w6 ⟨rfl, o6⟩
      have S6 : w6.cell? ⟨ka, 1, none⟩ = some (.int .i64 n) ∧ w6.cell? ⟨kG, 1 + n, none⟩ = some (.slice (some ⟨lb, 0, none⟩) jn jc) ∧ w6.cell? ⟨lb, j * 15 + 6, none⟩ = some (.int .i64 y.r.an.e) ∧ w6.cell? ⟨lb, j * 15 + 7, none⟩ = some (.int .i64 y.r.an.n) ∧ w6.cell? ⟨lb, j * 15 + 8, none⟩ = some (.slice ya1 yal ya2) ∧ w6.cell? ⟨lb, j * 15 + 9, none⟩ = some (.slice yb1 ybl yb2) ∧ w6.cell? ⟨lb, j * 15 + 10, none⟩ = some (.string y.r.an.nm) ∧ w6.cell? ⟨lb, j * 15 + 11, none⟩ = some (.slice yc1 ycl yc2) ∧ w6.cell? ⟨lb, j * 15 + 12, none⟩ = some (.int .i64 y.r.an.pk) ∧ w6.cell? ⟨lb, j * 15 + 13, none⟩ = some (.int .i64 y.r.an.ix) ∧ w6.cell? ⟨lb, j * 15 + 14, none⟩ = some (.slice yd1 ydl yd2) ∧ w6.cell? ⟨kb, 0, none⟩ = some (.int .i64 y.r.an.e) ∧ w6.cell? ⟨kb, 1, none⟩ = some (.int .i64 y.r.an.n) ∧ w6.cell? ⟨kb, 2, none⟩ = some (.slice u1 ul u2) ∧ w6.cell? ⟨kb, 3, none⟩ = some (.slice x1 xl x2) ∧ w6.cell? ⟨kb, 4, none⟩ = some (.string y.r.an.nm) ∧ w6.cell? ⟨kb, 5, none⟩ = some (.slice c1' cl' c2') ∧ w6.cell? ⟨kb, 6, none⟩ = some (.int .i64 y.r.an.pk) ∧ w6.cell? ⟨kb, 7, none⟩ = some (.int .i64 y.r.an.ix) ∧ w6.cell? ⟨kb, 8, none⟩ = some (.slice n1' nl' n2') := ⟨o6.cellF hH0.1, o6.cellF hH0.2.1, o6.cellF hH0.2.2.1, o6.cellF hH0.2.2.2.1, o6.cellF hH0.2.2.2.2.1, o6.cellF hH0.2.2.2.2.2.1, o6.cellF hH0.2.2.2.2.2.2.1, o6.cellF hH0.2.2.2.2.2.2.2.1, o6.cellF hH0.2.2.2.2.2.2.2.2.1, o6.cellF hH0.2.2.2.2.2.2.2.2.2.1, o6.cellF hH0.2.2.2.2.2.2.2.2.2.2.1, o6.cellF hH0.2.2.2.2.2.2.2.2.2.2.2.1, o6.cellF hH0.2.2.2.2.2.2.2.2.2.2.2.2.1, o6.cellF hH0.2.2.2.2.2.2.2.2.2.2.2.2.2.1, o6.cellF hH0.2.2.2.2.2.2.2.2.2.2.2.2.2.2.1, o6.cellF hH0.2.2.2.2.2.2.2.2.2.2.2.2.2.2.2.1, o6.cellF hH0.2.2.2.2.2.2.2.2.2.2.2.2.2.2.2.2.1, o6.cellF hH0.2.2.2.2.2.2.2.2.2.2.2.2.2.2.2.2.2.1, o6.cellF hH0.2.2.2.2.2.2.2.2.2.2.2.2.2.2.2.2.2.2.1, o6.cellF hH0.2.2.2.2.2.2.2.2.2.2.2.2.2.2.2.2.2.2.2⟩
      refine ⟨S6, ?_⟩
      try simp only [Act.put, List.setIfInBounds_toArray, List.set_cons_zero, List.set_cons_succ]
      refine takeH 13 106 (v := ?vsa13) rfl rfl (by kernel_rfl) (by kernel_rfl) (by kernel_rfl) (fun _ _ _ h => h) (Or.inl ⟨by rfl, ?hsa13⟩) S6 ?rsa13
      case hsa13 => (intro w hSw; clear hSw; go_simp; (try with_reducible rfl))
      case rsa13 =>
      try simp only [Act.put, List.setIfInBounds_toArray, List.set_cons_zero, List.set_cons_succ]
      refine wpAnyH_done (by kernel_rfl) ?_ _
      have oD : Only (fun _ => False) w5 w6 := (Only.refl _ w5).drew.trans o6 (fun _ _ e => e)
      have HD6 := hide oD
      clear hH0 S6 o6 oD
      have FF := hide (show PlI w2 kG m L sh (j + 1) w6 from PlI.next (unhide Hy).2 (unhide Hmi).1 (unhide Hmi).2 (unhide Ho4) (by rw [unhide HDJ]; have := unhide HF; rw [unhide Hm1] at this; exact this) (unhide HD6))
      clear a1' cl1 kal' lbl' kGl' kbl r0 r1 r2 r3 r4 r5 r6 r7 r8 k0 k1 k2 k3 k4 k5 k6 k7 k8 CS
      go_wp2_with fail
      go_roundw
      case rel => exact ⟨j + 1, by go_num, by omega, unhide FF⟩
      case measure => simp [intOf]; omega
    · obtain rfl : j = jn := by omega
      have dj : decide ((j : Int) < (j : Int)) = false := decide_eq_false (by omega)
      go_upto_region 16 with fail
      go_cut [75] (fun zv wx => zv = .bool false ∧ Only (fun _ => False) wr wx)
      case first =>
        go_quiet (fail)
        go_wp2_with fail
        go_meet
        exact ⟨rfl, onlyQ _ _⟩
      case rest =>
      obtain ⟨rfl, oC⟩ := hcut
      generalize wc = w4 at *
      have HG := hide ((unhide HG1).quiet oC)
      have HN4 := hide ((unhide HN3).keep oC (fun h => h))
      have Ho4 := hide ((unhide Ho).trans (oC.mono (T := fun k => k = kG ∨ MLm m.shv m.shl k) (fun _ _ h => h.elim)) (fun _ _ h => h))
      clear oC c1 kGl kal a1 dj HG1 HN3 Ho
      have c1 := (unhide HG).cL hn
      rw [unhide He1] at c1
      have kGl := (unhide HG).has.lt
      have kal := (unhide HN4).lt
      have a1 : w4.cell? ⟨ka, 1, none⟩ = some (.int .i64 n) := (unhide HN4).cell 1
      have f1 := (unhide HG).has.free (1 + n)
      have eD : rend (L.take j) sh = M'.com := by
        rw [List.take_of_length_le (by rw [← unhide HLe, List.length_map, unhide Hjn]; exact Nat.le_refl _)]
        exact (unhide Hrok).2
      rw [eD] at HG
      have G3 := ((unhide HG).clear hn).quiet ((Only.refl (fun _ => False) _).drew)
      have oS : Only (fun k => k = kG) w4 (w4.setCell ⟨kG, 1 + n, none⟩ (.slice none 0 0)).drew := (only1 (w := w4) (p := kG) _ _).trans ((Only.refl (fun _ => False) _).drew.mono (T := fun k => k = kG) (fun _ _ h => h.elim)) (fun _ _ h => h)
      have N3 := (unhide HN4).keep oS (fun c => unhide HkN (.inl c))
      have HOS := hide ((unhide Ho4).trans (oS.mono (T := fun k => k = kG ∨ MLm m.shv m.shl k) (fun _ _ h => .inl h)) (fun _ _ h => h))
      have HG3 := hide G3
      have HN3 := hide N3
      clear G3 oS N3 eD
      go_upto_region 21 with fail
      go_region
      all_goals
        generalize (w4.setCell ⟨kG, 1 + n, none⟩ (.slice none 0 0)).drew = w5 at *
        have a1 : w5.cell? ⟨ka, 1, none⟩ = some (.int .i64 n) := (unhide HN3).cell 1
        have k3 := (unhide HN3).lt
        have kG5 := (unhide HG3).has.lt
        have kGs : ∀ k, k = kG ∨ MLm m.shv m.shl k → m.T kG k := fun k h => h.elim .inl (fun h => .inr (.inl h))
        have R3 := (unhide HR).keep (unhide HOS) (fun k hk c => by
          have h2 := unhide HGs k (.inl (kGs k c))
          rcases hk with hk | hk | hk
          · exact h2.1 hk
          · exact h2.2.1 hk
          · exact h2.2.2 hk)
        have sw := (unhide HO).size
        have inA : ∀ k, (m1.setL n (.slice none 0 0) []).A kG k → m.A kG k ∨ w.heap.size ≤ k := by
          intro k h
          have h := GhM.A_clear h
          rw [unhide Hm1] at h
          rcases h with (h | h | h) | h | h
          · exact .inl (.inl (.inl h))
          · rcases (unhide Hmi).1 k h with h | h
            · exact .inl (.inl (.inr (.inl h)))
            · exact .inr (by have := unhide Hka; omega)
          · exact .inl (.inl (.inr (.inr h)))
          · rcases (unhide Hmi).2 k h with h | h
            · exact .inl (.inr (.inl h))
            · exact .inr (by have := unhide Hka; omega)
          · exact .inl (.inr (.inr h))
        have inT : ∀ k, (m1.setL n (.slice none 0 0) []).T kG k → m.T kG k ∨ w.heap.size ≤ k := by
          intro k h
          have h := GhM.T_clear h
          rw [unhide Hm1] at h
          rcases h with h | h | h
          · exact .inl (.inl h)
          · rcases (unhide Hmi).1 k h with h | h
            · exact .inl (.inr (.inl h))
            · exact .inr (by have := unhide Hka; omega)
          · exact .inl (.inr (.inr h))
        have sepS : ∀ k, (m1.setL n (.slice none 0 0) []).A kG k → ¬ q.S k := fun k h c => by
          rcases inA k h with h | h
          · exact (unhide HGs k h).1 (Gnd.S_A c)
          · have := unhide HQl k (.inl (Gnd.S_A c))
            have := unhide Hka
            omega
        have C1 := hide (xshows_any (R3.quiet ((Only.refl (fun _ => False) w5).drew)) ((unhide HG3).quiet ((Only.refl (fun _ => False) w5).drew)).md (fun k h => sepS k (by
          rcases h with h | h | h
          · exact .inl (.inl h)
          · exact .inl (.inr (.inl h))
          · exact .inr (.inl h))) hn rfl (unhide Hsee))
        have HIn := hide (And.intro inA inT)
        have HSq := hide sepS
        have HT2 := hide ((unhide HOS).mono (T := fun k => m.T kG k) (fun k _ h => kGs k h))
        have kaS : ¬ q.S ka := fun c => by have := unhide HQl ka (.inl (Gnd.S_A c)); have := unhide Hka; omega
        clear R3 inA inT sepS kGs
        go_upto_region 22 with fail
        refine wp_region_held_drew (S := (fun w' => w'.cell? ⟨ka, 1, none⟩ = some (.int .i64 n))) (by kernel_rfl) a1 (fun hH0 => ?_)
        refine takeH 0 113 (v := ?vsh1) rfl rfl (by kernel_rfl) (by kernel_rfl) (by kernel_rfl) (fun _ _ _ h => h) (Or.inl ⟨by rfl, ?hsh1⟩) hH0 ?rsh1
        case hsh1 => (intro w hSw; clear hSw; go_simp; (try with_reducible rfl))
        case rsh1 =>
        try simp only [Act.put, List.setIfInBounds_toArray, List.set_cons_zero, List.set_cons_succ]
        refine takeH 1 114 (v := ?vsh2) rfl rfl (by kernel_rfl) (by kernel_rfl) (by kernel_rfl) (fun _ _ _ h => h) (Or.inl ⟨by rfl, ?hsh2⟩) hH0 ?rsh2
        case hsh2 => (intro w hSw; clear hSw; go_simp; (try with_reducible rfl))
        case rsh2 =>
        try simp only [Act.put, List.setIfInBounds_toArray, List.set_cons_zero, List.set_cons_succ]
        refine takeH 2 115 (v := ?vsh3) rfl rfl (by kernel_rfl) (by kernel_rfl) (by kernel_rfl) (fun _ _ _ h => h) (Or.inl ⟨by rfl, ?hsh3⟩) hH0 ?rsh3
        case hsh3 => (intro w hSw; have s0 := hSw; clear hSw; go_simp; (try with_reducible rfl))
        case rsh3 =>
        try simp only [Act.put, List.setIfInBounds_toArray, List.set_cons_zero, List.set_cons_succ]
        refine takeH 3 116 (v := ?vsh4) rfl rfl (by kernel_rfl) (by kernel_rfl) (by kernel_rfl) (fun _ _ _ h => h) (Or.inl ⟨by rfl, ?hsh4⟩) hH0 ?rsh4
        case hsh4 => (intro w hSw; clear hSw; go_simp; (try with_reducible rfl))
        case rsh4 =>
        try simp only [Act.put, List.setIfInBounds_toArray, List.set_cons_zero, List.set_cons_succ]
        refine takeH 4 117 (v := ?vsh5) rfl rfl (by kernel_rfl) (by kernel_rfl) (by kernel_rfl) (fun _ _ _ h => h) (Or.inl ⟨by rfl, ?hsh5⟩) hH0 ?rsh5
        case hsh5 => (intro w hSw; clear hSw; go_simp; (try with_reducible rfl))
        case rsh5 =>
        try simp only [Act.put, List.setIfInBounds_toArray, List.set_cons_zero, List.set_cons_succ]
        refine takeH 5 118 (v := ?vsh6) rfl rfl (by kernel_rfl) (by kernel_rfl) (by kernel_rfl) (fun _ _ _ h => h) (Or.inl ⟨by rfl, ?hsh6⟩) hH0 ?rsh6
        case hsh6 => (intro w hSw; clear hSw; go_simp; (try with_reducible rfl))
        case rsh6 =>
        try simp only [Act.put, List.setIfInBounds_toArray, List.set_cons_zero, List.set_cons_succ]
        refine callH 6 (by kernel_rfl) rfl 119 rfl rfl 73 Tryz.func73 (by kernel_rfl) (by kernel_rfl) #[.tmp 113, .tmp 115, .tmp 118] #[32, 3, 130] rfl #[.pointer (some ⟨g, 0, none⟩), .int .i64 (n : Int), .pointer (some ⟨kG, 0, none⟩)] (by simp [Act.eval]) (R := fun v w' => v = .bool true ∧ RX q w' g x M' K ∧ Only q.S w5.drew w') ((unhide C1).mono (by rintro en w' ⟨rfl, h1, h2⟩; exact ⟨_, rfl, rfl, h1, h2⟩)) ?ksh
        case ksh =>
        rintro _ w6 ⟨rfl, R6, o6⟩
        have S6 : w6.cell? ⟨ka, 1, none⟩ = some (.int .i64 n) := cell_keepX hH0 o6 kaS
        refine ⟨S6, ?_⟩
        try simp only [Act.put, List.setIfInBounds_toArray, List.set_cons_zero, List.set_cons_succ]
        refine takeH 7 8 (v := ?vsh7) rfl rfl (by kernel_rfl) (by kernel_rfl) (by kernel_rfl) (fun _ _ _ h => h) (Or.inl ⟨by rfl, ?hsh7⟩) S6 ?rsh7
        case hsh7 => (intro w hSw; clear hSw; go_simp; (try with_reducible rfl))
        case rsh7 =>
        try simp only [Act.put, List.setIfInBounds_toArray, List.set_cons_zero, List.set_cons_succ]
        refine wpAnyH_done (by kernel_rfl) ?_ _
        have oD : Only q.S w5 w6 := (((Only.refl (fun _ => False) w5).drew).mono (fun _ _ e => e.elim)).trans o6 (fun _ _ e => e)
        have FF := hide (show FoP q w g x M' K kG m am (.returned (.bool true)) w6 from ⟨rfl, _, _, (unhide HG3).keep oD (unhide HSq), by rw [unhide Hm1]; exact unhide HS2 _ _, R6, fun k h => ((unhide HIn).1 k h).imp id .inr, (unhide HIn).2, ((unhide HO).mono (T := fun k => q.S k ∨ m.T kG k) (fun _ _ h => h.elim)).trans (((unhide HT2).mono (T := fun k => q.S k ∨ m.T kG k) (fun _ _ h => .inr h)).trans (oD.mono (T := fun k => q.S k ∨ m.T kG k) (fun _ _ h => .inl h)) (fun _ _ h => h)) (fun _ _ h => h)⟩)
        clear hH0 S6 o6 oD R6
        go_wp2_with fail
        go_ret
        exact unhide FF
end
end Go.Proofs.Qxb6500414aGreat
