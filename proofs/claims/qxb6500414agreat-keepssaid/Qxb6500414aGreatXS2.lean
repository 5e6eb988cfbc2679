/-
  OWN WORK. THE TXN LAW: Shows (written by tools/gen_xs2.py).
-/
import Derived.Test.Qxb6500414aGreatXS1
import Derived.Test.Qxb6500414aGreatMM7
namespace Go.Proofs.Qxb6500414aGreat
open Go.RowKit Go.PlainAid
set_option linter.unusedSimpArgs false
set_option linter.unusedVariables false

section
variable {q : Gnd} {ty : TypeId} {w : World} {g x dk o : Nat} {M : Mu} {K : Nat → Prop} {cs : Array Value} {v : Value} {l : List GE} {D : Db}
set_option maxRecDepth 100000 in
set_option maxHeartbeats 4000000 in
theorem xshows_any (R : RX q w g x M K) (D0 : MDc ty w dk o cs v l D) (hsp : ∀ k, (k = dk ∨ MLm v l k ∨ MLi l k) → ¬ q.S k) {s : Nat} (hs4 : s < 4) (hcom : M.com = D) (hsee : M.see s = D) : Calls Tryz.prog 73 #[.pointer (some ⟨g, 0, none⟩), .int .i64 (s : Int), .pointer (some ⟨dk, o, none⟩)] w fun e w' => e = .returned (.bool true) ∧ RX q w' g x M K ∧ Only q.S w w' := by
  have C1 := hide (rtables_any R)
  have HD0 := hide D0
  have HSp := hide hsp
  have HR := hide R
  have Hc := hide (And.intro hcom hsee)
  have Hgd := hide (show gdS (s : Int) from ⟨by omega, by omega⟩)
  have HSn := hide (show ∀ k, w.heap.size ≤ k → ¬ q.S k from fun k h => R.Sb h)
  obtain ⟨va, cap, hv⟩ := D0.ml.shape
  have hl3 := D0.ml.len
  obtain ⟨n, hn⟩ : ∃ n, l.length = n := ⟨_, rfl⟩
  rw [hn] at hv hl3
  subst hv
  have Hn := hide hn
  clear R D0 hsp hcom hsee hn
  go_enter Tryz.func73, Tryz.ntmps73
  go_wp2_with fail
  refine (unhide C1).mono ?_
  rintro e w1 ⟨nv, rfl, hN1, hN1w, R1, o1⟩
  have D1 := (unhide HD0).keep o1 (unhide HSp)
  have C2 := hide (mdbNames_any D1.db)
  obtain ⟨na, nc, hna⟩ := ownsRow_shape hN1
  subst hna
  have HN1 := hide hN1
  have HR1 := hide R1
  have HD1 := hide D1
  have HO1 := hide o1
  have kd1 := D1.has.lt
  clear C1 R1 D1 o1 hN1 hN1w
  go_wp2_with fail
  refine (unhide C2).mono ?_
  rintro e w2 ⟨nv2, rfl, hG⟩
  obtain ⟨na2, nc2, hna2⟩ := ownsRow_shape hG.own
  subst hna2
  have C3 := sameNames_any (A := namesD M.com) (B := namesD D) (ownsRow_keep (unhide HN1) hG.ho (fun _ _ h => h)) hG.own (by
    unfold namesD
    rw [List.length_map]
    have := (unhide HR1).dg.1.len
    omega) true (by rw [(unhide Hc).1]; exact decide_eq_true rfl)
  have HR2 := hide ((unhide HR1).quiet hG.ho)
  have HO2 := hide ((unhide HO1).trans (hG.ho.mono (T := q.S) (fun _ _ h => h.elim)) (fun _ _ h => h))
  have C3 := hide C3
  clear C2 hG
  go_wp2_with fail
  refine (unhide C3).mono ?_
  rintro e w3 ⟨rfl, o3⟩
  have HR3 := hide ((unhide HR2).quiet o3)
  have HO3 := hide ((unhide HO2).trans (o3.mono (T := q.S) (fun _ _ h => h.elim)) (fun _ _ h => h))
  clear C3 o3 HR1 HR2 HO1 HO2 HD1 HN1
  go_upto_region 6 with fail
  go_loopw [9, 10, 11, 12, 13] (fun iv _ _ _ _ wr => ∃ i : Nat, iv = .int .i64 i ∧ i ≤ n ∧ RX q wr g x M K ∧ Only q.S w wr) (fun iv _ _ _ _ _ => n + 1 - (intOf iv).toNat)
  case atStart => exact ⟨0, rfl, Nat.zero_le _, unhide HR3, unhide HO3⟩
  case round =>
    clear HR3 HO3
    obtain ⟨i, rfl, hi, R4, o4⟩ := hrel
    have D4 := (unhide HD0).keep o4 (unhide HSp)
    have kd4 := D4.has.lt
    by_cases hin : i < n
    · have a1 : decide ((i : Int) < (n : Int)) = true := decide_eq_true (by omega)
      have a1p : (i : Int) < (n : Int) := by omega
      obtain ⟨e, he⟩ := getE (l := l) (i := i) (by rw [unhide Hn]; exact hin)
      obtain ⟨tg, htg, p0, p1, p2, p3, p4⟩ := D4.ml.at_ he
      subst htg
      have E4 := D4.ml.el e (List.mem_of_getElem? he)
      have heD : D[i]? = some e.t := by rw [← (unhide HD0).tt, List.getElem?_map, he]; rfl
      have hetD : e.t ∈ D := List.mem_of_getElem? heD
      have GD : DGd D := ⟨(unhide HD0).ok.tb, (unhide HD0).ok.srt, (unhide HD0).ok.len⟩
      have hfind : findD D e.t.nm = some e.t := GD.find hetD
      obtain ⟨ea, ec, hcv⟩ := E4.col.shape
      obtain ⟨ra, rc, hrv⟩ := ownsRow_shape E4.rs
      obtain ⟨cn, hcn⟩ : ∃ k, e.t.cols.length = k := ⟨_, rfl⟩
      rw [hcn] at hcv
      obtain ⟨un, hun⟩ : ∃ k, e.us.length = k := ⟨_, rfl⟩
      rw [hun] at hrv
      rw [hcv] at p1
      rw [hrv] at p4
      have tgl : tg < wr.heap.size := ownsRow_lt D4.ml.own tg rfl
      have d0 : wr.cell? ⟨dk, o, none⟩ = some (.slice (some ⟨tg, 0, none⟩) n cap) := by rw [D4.has.cell]; exact D4.at_
      have C5 := hide (rschemaOf_any R4 e.t.nm)
      have HF := hide (And.intro hfind (And.intro hetD GD))
      have He := hide he
      have Hcv := hide hcv
      have Hrv := hide hrv
      have Hcn := hide hcn
      have HO4 := hide o4
      have HSn4 := hide (show ∀ k, wr.heap.size ≤ k → ¬ q.S k from fun k h => R4.Sb h)
      clear R4 D4 o4 E4 heD hetD GD hfind hcv hrv hcn hun he
      go_wp2_with fail
      refine (unhide C5).mono ?_
      rintro y wq ⟨R5, o5, h5⟩
      obtain ⟨cv, rfl, hC5, hnc5⟩ : ∃ cv, y = .returned (.tuple #[.agg (scC e.t.nm cv (e.t.pk : Int) (ixI e.t.ix)), .int .i64 0]) ∧ OwnC wq cv e.t.cols ∧ Newer wr cv := by
        rw [(unhide Hc).1] at h5
        rcases h5 with ⟨hf, _⟩ | ⟨t', cv, hf, hy, h1, h2⟩
        · rw [(unhide HF).1] at hf; cases hf
        · rw [(unhide HF).1] at hf
          obtain rfl := Option.some.inj hf
          exact ⟨cv, hy, h1, h2⟩
      obtain ⟨ca, cc, hca⟩ := hC5.shape
      rw [unhide Hcn] at hca
      subst hca
      unfold scC
      have oS : Only (fun _ => False) wq (wq.alloc (.cells #[.string e.t.nm, .slice ca cn cc, .int .i64 (e.t.pk : Int), .int .i64 (ixI e.t.ix)] 51)) := (Only.refl _ _).alloc _
      have HSc := hide (Has.new wq #[.string e.t.nm, .slice ca cn cc, .int .i64 (e.t.pk : Int), .int .i64 (ixI e.t.ix)] 51)
      have HR5 := hide (R5.quiet oS)
      have HO5 := hide (((unhide HO4).trans o5 (fun _ _ h => h)).trans (oS.mono (T := q.S) (fun _ _ h => h.elim)) (fun _ _ h => h))
      have HC5 := hide (And.intro (hC5.keep oS (fun _ _ h => h)) (show ∀ k, (Value.slice ca cn cc).ownBlock = some k → ¬ q.S k from fun k h => unhide HSn4 k (hnc5 k h)))
      have HNks := hide (show ¬ q.S wq.heap.size from R5.Sb (Nat.le_refl _))
      clear C5 R5 o5 h5 hC5 hnc5 oS p0 p1 p2 p3 p4 d0 HO4
      go_upto_region 9 with fail
      generalize wq.alloc (.cells #[.string e.t.nm, .slice ca cn cc, .int .i64 (e.t.pk : Int), .int .i64 (ixI e.t.ix)] 51) = w5q at *
      generalize wq.heap.size = ks at *
      have D5 := (unhide HD0).keep (unhide HO5) (unhide HSp)
      have kd5 := D5.has.lt
      have d0 : w5q.cell? ⟨dk, o, none⟩ = some (.slice (some ⟨tg, 0, none⟩) n cap) := by rw [D5.has.cell]; exact D5.at_
      obtain ⟨tg2, htg2, p0, p1, p2, p3, p4⟩ := D5.ml.at_ (unhide He)
      obtain rfl : tg = tg2 := by simpa using htg2
      rw [unhide Hcv] at p1
      rw [unhide Hrv] at p4
      clear htg2
      have tgl5 : tg < w5q.heap.size := ownsRow_lt D5.ml.own tg rfl
      have C6 := hide (rview_any (unhide HR5) (s : Int) e.t.nm)
      clear D5
      go_wp2_with fail
      refine (unhide C6).mono ?_
      rintro y w5 ⟨R6, o6, h6⟩
      obtain ⟨rv, Z, rfl, hRL, hZ⟩ : ∃ rv Z, y = .returned (.tuple #[rv, .int .i64 0]) ∧ RL w5q.heap.size rv Z w5 ∧ Z.map (·.2) = e.t.rows := by
        rw [(unhide Hc).1, show M.see ((s : Nat) : Int).toNat = D from (unhide Hc).2] at h6
        rcases h6 with ⟨hs, _⟩ | ⟨_, hf, _⟩ | ⟨t', rv, Z, _, hf, _, hy, h1, h2⟩
        · exact absurd (unhide Hgd) hs
        · rw [(unhide HF).1] at hf; cases hf
        · rw [(unhide HF).1] at hf
          obtain rfl := Option.some.inj hf
          exact ⟨rv, Z, hy, h1, h2⟩
      obtain ⟨rva, rvc, hrva⟩ := ownsRow_shape hRL.own
      obtain ⟨zn, hzn⟩ : ∃ k, Z.length = k := ⟨_, rfl⟩
      rw [hzn] at hrva
      subst hrva
      have HO6 := hide ((unhide HO5).trans o6 (fun _ _ h => h))
      have D6 := (unhide HD0).keep (unhide HO6) (unhide HSp)
      have kd6 := D6.has.lt
      have S6a := (unhide HSc).keep o6 (unhide HNks)
      have HC6 := hide ((unhide HC5).1.keep o6 (unhide HC5).2)
      have HR6 := hide R6
      have HZ := hide (And.intro hRL hZ)
      have HD6 := hide D6
      clear C6 R6 o6 h6 hRL hZ hzn d0 p0 p1 p2 p3 p4 HR5 HO5 HC5
      have d0 : w5.cell? ⟨dk, o, none⟩ = some (.slice (some ⟨tg, 0, none⟩) n cap) := by rw [D6.has.cell]; exact D6.at_
      obtain ⟨tg2, htg2, p0, p1, p2, p3, p4⟩ := D6.ml.at_ (unhide He)
      obtain rfl : tg = tg2 := by simpa using htg2
      rw [unhide Hcv] at p1
      rw [unhide Hrv] at p4
      clear htg2
      have tgl6 : tg < w5.heap.size := ownsRow_lt D6.ml.own tg rfl
      have c0 : w5.cell? ⟨ks, 0, none⟩ = some (.string e.t.nm) := S6a.cell 0
      have c1 : w5.cell? ⟨ks, 1, none⟩ = some (.slice ca cn cc) := S6a.cell 1
      have c2 : w5.cell? ⟨ks, 2, none⟩ = some (.int .i64 (e.t.pk : Int)) := S6a.cell 2
      have c3 : w5.cell? ⟨ks, 3, none⟩ = some (.int .i64 (ixI e.t.ix)) := S6a.cell 3
      have ksl := S6a.lt
      have E6 := D6.ml.el e (List.mem_of_getElem? (unhide He))
      have CS := jsameSchema_any (n1 := e.t.nm) (n2 := e.t.nm) (p1 := (e.t.pk : Int)) (p2 := (e.t.pk : Int)) (i1 := ixI e.t.ix) (i2 := ixI e.t.ix) ((unhide HC6).keep ((Only.refl (fun _ => False) w5).drew) (fun _ _ h => h)) (E6.col.keep ((Only.refl (fun _ => False) w5).drew) (fun _ _ h => h)) (by have := ((unhide HF).2.2.tb e.t (unhide HF).2.1).n3; omega) true (decide_eq_true ⟨rfl, rfl, rfl, rfl⟩)
      unfold schA at CS
      rw [unhide Hcv] at CS
      have CS := hide CS
      have HE6 := hide E6
      clear D6 S6a E6
      go_upto_region 12 with fail
      refine wp_region_held_drew (S := (fun w' => w'.cell? ⟨ks, 0, none⟩ = some (.string e.t.nm) ∧ w'.cell? ⟨ks, 1, none⟩ = some (.slice ca cn cc) ∧ w'.cell? ⟨ks, 2, none⟩ = some (.int .i64 (e.t.pk : Int)) ∧ w'.cell? ⟨ks, 3, none⟩ = some (.int .i64 (ixI e.t.ix)) ∧ w'.cell? ⟨dk, o, none⟩ = some (.slice (some ⟨tg, 0, none⟩) n cap) ∧ w'.cell? ⟨tg, i * 5, none⟩ = some (.string e.t.nm) ∧ w'.cell? ⟨tg, i * 5 + 1, none⟩ = some (.slice ea cn ec) ∧ w'.cell? ⟨tg, i * 5 + 2, none⟩ = some (.int .i64 (e.t.pk : Int)) ∧ w'.cell? ⟨tg, i * 5 + 3, none⟩ = some (.int .i64 (ixI e.t.ix)))) (by kernel_rfl) ⟨c0, c1, c2, c3, d0, p0, p1, p2, p3⟩ (fun hH0 => ?_)
      refine takeH 0 66 (v := ?vs1) rfl rfl (by kernel_rfl) (by kernel_rfl) (by kernel_rfl) (fun _ _ _ h => h) (Or.inl ⟨by rfl, ?hs1⟩) hH0 ?rs1
      case hs1 => (intro w hSw; obtain ⟨s0, s1, s2, s3, s4, s5, s6, s7, s8⟩ := hSw; go_simp; (try with_reducible rfl))
      case rs1 =>
      try simp only [Act.put, List.setIfInBounds_toArray, List.set_cons_zero, List.set_cons_succ]
      refine takeH 1 67 (v := ?vs2) rfl rfl (by kernel_rfl) (by kernel_rfl) (by kernel_rfl) (fun _ _ _ h => h) (Or.inl ⟨by rfl, ?hs2⟩) hH0 ?rs2
      case hs2 => (intro w hSw; clear hSw; go_simp; (try with_reducible rfl))
      case rs2 =>
      try simp only [Act.put, List.setIfInBounds_toArray, List.set_cons_zero, List.set_cons_succ]
      refine takeH 2 68 (v := ?vs3) rfl rfl (by kernel_rfl) (by kernel_rfl) (by kernel_rfl) (fun _ _ _ h => h) (Or.inl ⟨by rfl, ?hs3⟩) hH0 ?rs3
      case hs3 => (intro w hSw; clear hSw; go_simp; (try with_reducible rfl))
      case rs3 =>
      try simp only [Act.put, List.setIfInBounds_toArray, List.set_cons_zero, List.set_cons_succ]
      refine takeH 3 69 (v := ?vs4) rfl rfl (by kernel_rfl) (by kernel_rfl) (by kernel_rfl) (fun _ _ _ h => h) (Or.inl ⟨by rfl, ?hs4⟩) hH0 ?rs4
      case hs4 => (intro w hSw; clear hSw; go_simp; (try with_reducible rfl))
      case rs4 =>
      try simp only [Act.put, List.setIfInBounds_toArray, List.set_cons_zero, List.set_cons_succ]
      refine takeH 4 70 (v := ?vs5) rfl rfl (by kernel_rfl) (by kernel_rfl) (by kernel_rfl) (fun _ _ _ h => h) (Or.inl ⟨by rfl, ?hs5⟩) hH0 ?rs5
      case hs5 => (intro w hSw; obtain ⟨s0, s1, s2, s3, s4, s5, s6, s7, s8⟩ := hSw; go_simp; (try with_reducible rfl))
      case rs5 =>
      try simp only [Act.put, List.setIfInBounds_toArray, List.set_cons_zero, List.set_cons_succ]
      refine takeH 5 71 (v := ?vs6) rfl rfl (by kernel_rfl) (by kernel_rfl) (by kernel_rfl) (fun _ _ _ h => h) (Or.inl ⟨by rfl, ?hs6⟩) hH0 ?rs6
      case hs6 => (intro w hSw; clear hSw; go_simp; (try with_reducible rfl))
      case rs6 =>
      try simp only [Act.put, List.setIfInBounds_toArray, List.set_cons_zero, List.set_cons_succ]
      refine takeH 6 72 (v := ?vs7) rfl rfl (by kernel_rfl) (by kernel_rfl) (by kernel_rfl) (fun _ _ _ h => h) (Or.inl ⟨by rfl, ?hs7⟩) hH0 ?rs7
      case hs7 => (intro w hSw; clear hSw; go_simp; (try with_reducible rfl))
      case rs7 =>
      try simp only [Act.put, List.setIfInBounds_toArray, List.set_cons_zero, List.set_cons_succ]
      refine takeH 7 73 (v := ?vs8) rfl rfl (by kernel_rfl) (by kernel_rfl) (by kernel_rfl) (fun _ _ _ h => h) (Or.inl ⟨by rfl, ?hs8⟩) hH0 ?rs8
      case hs8 => (intro w hSw; clear hSw; go_simp; (try with_reducible rfl))
      case rs8 =>
      try simp only [Act.put, List.setIfInBounds_toArray, List.set_cons_zero, List.set_cons_succ]
      refine takeH 8 74 (v := ?vs9) rfl rfl (by kernel_rfl) (by kernel_rfl) (by kernel_rfl) (fun _ _ _ h => h) (Or.inl ⟨by rfl, ?hs9⟩) hH0 ?rs9
      case hs9 => (intro w hSw; obtain ⟨s0, s1, s2, s3, s4, s5, s6, s7, s8⟩ := hSw; go_simp; (try with_reducible rfl))
      case rs9 =>
      try simp only [Act.put, List.setIfInBounds_toArray, List.set_cons_zero, List.set_cons_succ]
      refine callH 9 (by kernel_rfl) rfl 75 rfl rfl 110 Tryz.func110 (by kernel_rfl) (by kernel_rfl) #[.tmp 66, .tmp 74] #[51, 51] rfl #[.agg #[.string e.t.nm, .slice ca cn cc, .int .i64 (e.t.pk : Int), .int .i64 (ixI e.t.ix)], .agg #[.string e.t.nm, .slice ea cn ec, .int .i64 (e.t.pk : Int), .int .i64 (ixI e.t.ix)]] (by simp [Act.eval]) (R := fun v w' => v = .bool true ∧ Only (fun _ => False) w5.drew w') ((unhide CS).mono (by rintro en w' ⟨rfl, o⟩; exact ⟨_, rfl, rfl, o⟩)) ?ks
      case ks =>
      rintro _ w6 ⟨rfl, o6⟩
      have S6 : w6.cell? ⟨ks, 0, none⟩ = some (.string e.t.nm) ∧ w6.cell? ⟨ks, 1, none⟩ = some (.slice ca cn cc) ∧ w6.cell? ⟨ks, 2, none⟩ = some (.int .i64 (e.t.pk : Int)) ∧ w6.cell? ⟨ks, 3, none⟩ = some (.int .i64 (ixI e.t.ix)) ∧ w6.cell? ⟨dk, o, none⟩ = some (.slice (some ⟨tg, 0, none⟩) n cap) ∧ w6.cell? ⟨tg, i * 5, none⟩ = some (.string e.t.nm) ∧ w6.cell? ⟨tg, i * 5 + 1, none⟩ = some (.slice ea cn ec) ∧ w6.cell? ⟨tg, i * 5 + 2, none⟩ = some (.int .i64 (e.t.pk : Int)) ∧ w6.cell? ⟨tg, i * 5 + 3, none⟩ = some (.int .i64 (ixI e.t.ix)) := ⟨o6.cellF hH0.1, o6.cellF hH0.2.1, o6.cellF hH0.2.2.1, o6.cellF hH0.2.2.2.1, o6.cellF hH0.2.2.2.2.1, o6.cellF hH0.2.2.2.2.2.1, o6.cellF hH0.2.2.2.2.2.2.1, o6.cellF hH0.2.2.2.2.2.2.2.1, o6.cellF hH0.2.2.2.2.2.2.2.2⟩
      refine ⟨S6, ?_⟩
      try simp only [Act.put, List.setIfInBounds_toArray, List.set_cons_zero, List.set_cons_succ]
      refine takeH 10 76 (v := ?vs10) rfl rfl (by kernel_rfl) (by kernel_rfl) (by kernel_rfl) (fun _ _ _ h => h) (Or.inl ⟨by rfl, ?hs10⟩) S6 ?rs10
      case hs10 => (intro w hSw; clear hSw; go_simp; (try with_reducible rfl))
      case rs10 =>
      try simp only [Act.put, List.setIfInBounds_toArray, List.set_cons_zero, List.set_cons_succ]
      refine wpAnyH_done (by kernel_rfl) ?_ _
      have oD : Only (fun _ => False) w5 w6 := (Only.refl _ w5).drew.trans o6 (fun _ _ e => e)
      have HF2 := hide oD
      clear hH0 S6 o6 oD
      have HR7 := hide ((unhide HR6).quiet (unhide HF2))
      have HO7 := hide ((unhide HO6).trans ((unhide HF2).mono (T := q.S) (fun _ _ h => h.elim)) (fun _ _ h => h))
      have D7 := (unhide HD6).quiet (unhide HF2)
      have kd7 := D7.has.lt
      clear d0 p0 p1 p2 p3 p4 c0 c1 c2 c3 CS
      have d0 : w6.cell? ⟨dk, o, none⟩ = some (.slice (some ⟨tg, 0, none⟩) n cap) := by rw [D7.has.cell]; exact D7.at_
      obtain ⟨tg2, htg2, p0, p1, p2, p3, p4⟩ := D7.ml.at_ (unhide He)
      obtain rfl : tg = tg2 := by simpa using htg2
      rw [unhide Hcv] at p1
      rw [unhide Hrv] at p4
      clear htg2
      have tgl7 : tg < w6.heap.size := ownsRow_lt D7.ml.own tg rfl
      have E7 := D7.ml.el e (List.mem_of_getElem? (unhide He))
      have RL7 := (unhide HZ).1.quiet (unhide HF2)
      have CR := sameRows_any (rd_of RL7.own (fun z hz => (RL7.row z hz).1)) (B := e.t.rows) (by
        have hlz : (e.us.zip e.t.rows).length = e.us.length := by rw [List.length_zip, ← E7.n]; omega
        have h1 : (e.us.zip e.t.rows).map (·.1) = e.us := List.map_fst_zip (by rw [E7.n]; omega)
        have h2 : (e.us.zip e.t.rows).map (·.2) = e.t.rows := List.map_snd_zip (by rw [E7.n]; omega)
        have := rd_of (Z := e.us.zip e.t.rows) (v := e.rv) (w := w6) (by rw [hlz, h1]; exact E7.rs) (fun z hz => by
          obtain ⟨j, hj⟩ := List.getElem?_of_mem hz
          rw [List.getElem?_zip_eq_some] at hj
          exact E7.row j z.1 z.2 hj.1 hj.2)
        rw [h2] at this
        exact this) (by rw [(unhide HZ).2]; have := ((unhide HF).2.2.tb e.t (unhide HF).2.1).len; omega) (fun r hr => by rw [(unhide HZ).2] at hr; rw [(((unhide HF).2.2.tb e.t (unhide HF).2.1).row r hr).len]; have := ((unhide HF).2.2.tb e.t (unhide HF).2.1).n3; omega) true (by rw [(unhide HZ).2]; exact decide_eq_true rfl)
      rw [unhide Hrv] at CR
      have CR := hide CR
      clear D7 E7 RL7
      go_wp2_with fail
      refine (unhide CR).mono ?_
      rintro y w8 ⟨rfl, o8⟩
      have FF := hide (And.intro ((unhide HR7).quiet o8) ((unhide HO7).trans (o8.mono (T := q.S) (fun _ _ h => h.elim)) (fun _ _ h => h)))
      clear CR o8 d0 p0 p1 p2 p3 p4
      go_wp2_with fail
      go_roundw
      case rel => exact ⟨i + 1, by go_num, by omega, (unhide FF).1, (unhide FF).2⟩
      case measure => simp [intOf]; omega
    · obtain rfl : i = n := by omega
      have a1 : decide ((i : Int) < (i : Int)) = false := decide_eq_false (by omega)
      have d0 : wr.cell? ⟨dk, o, none⟩ = some (.slice va i cap) := by rw [D4.has.cell]; exact D4.at_
      have FF := hide (And.intro R4 o4)
      clear R4 D4 o4
      go_wp2_with fail
      go_ret
      exact ⟨rfl, unhide FF⟩
end
end Go.Proofs.Qxb6500414aGreat
