/-
  OWN WORK. TXN, Keeps: Look.
-/
import Derived.Test.Qxb6500414aGreatXKO0
import Derived.Deep.AppendLies
import Derived.Deep.RegionLaw
import Derived.Deep.RegionWith
import Derived.Deep.DeepCutAuto
namespace Go.Proofs.Qxb6500414aGreat
open Go.RowKit Go.PlainAid
set_option linter.unusedSimpArgs false
set_option linter.unusedVariables false

section
variable {q : Gnd} {w : World} {g x : Nat} {M : Mu} {K : Nat → Prop}
set_option maxRecDepth 100000 in
set_option maxHeartbeats 8000000 in
theorem xllook_any (R : RX q w g x M K) : Calls Tryz.prog 20 #[.pointer (some ⟨g, 0, none⟩)] w (LoP q w g x M K) := by
  obtain ⟨i0, hi0, hz0, hy0, hb0⟩ := info_parts Tryz.infoERows
  obtain ⟨i1, hi1, hz1, hy1, hb1⟩ := info_parts Tryz.infoInt
  have ok := R.mu
  obtain ⟨n, hn⟩ : ∃ n, M.com.length = n := ⟨_, rfl⟩
  have hl := ok.mub.len
  rw [hn] at hl
  have o1 : Only (fun _ => False) w (w.alloc (.cells #[.slice none 0 0, .slice none 0 0, .slice none 0 0, .slice none 0 0, .slice none 0 0, .slice none 0 0, .slice none 0 0, .slice none 0 0, .slice none 0 0, .slice none 0 0, .bool false, .bool false, .bool false, .bool false] 67)) := (Only.refl _ w).alloc _
  have S1 : SHM w.heap.size (w.alloc (.cells #[.slice none 0 0, .slice none 0 0, .slice none 0 0, .slice none 0 0, .slice none 0 0, .slice none 0 0, .slice none 0 0, .slice none 0 0, .slice none 0 0, .slice none 0 0, .bool false, .bool false, .bool false, .bool false] 67)) w.heap.size Sx0 := SHM.zero (by rw [sx0_cells]; exact Has.new w _ _) (Nat.le_refl _)
  have C1 := hide (rtables_any (R.quiet o1))
  have HFar := hide (show ∀ b, w.heap.size ≤ b → ¬ q.S b ∧ ¬ q.A b ∧ b ≠ x ∧ ¬ K b from fun b h => ⟨R.Sb h, fun c => by have := R.Alt.1 b c; omega, fun c => by have := R.Alt.2; omega, fun c => by have := (R.kA b c).2.2; omega⟩)
  have HS1 := hide S1
  have HO1 := hide o1
  have Hn := hide hn
  have Hok := hide ok
  clear R o1 S1 ok hn
  go_enter Tryz.func20, Tryz.ntmps20
  go_upto_region 2 with fail
  generalize w.alloc (.cells #[.slice none 0 0, .slice none 0 0, .slice none 0 0, .slice none 0 0, .slice none 0 0, .slice none 0 0, .slice none 0 0, .slice none 0 0, .slice none 0 0, .slice none 0 0, .bool false, .bool false, .bool false, .bool false] 67) = w1 at *
  generalize hk : w.heap.size = k at *
  have Hk := hide hk
  clear hk
  go_wp2_with fail
  refine (unhide C1).mono ?_
  rintro e w2 ⟨nv, rfl, hN2, hNw, R2, o2⟩
  have hnl : (namesD M.com).length = n := by unfold namesD; rw [List.length_map]; exact unhide Hn
  have S2 := (unhide HS1).keep o2 (fun b hb => (unhide HFar b hb).1)
  have kl2 := S2.lt
  have C3 := cloneNames_any hN2 (by rw [hnl]; omega)
  rw [hnl] at C3
  have C3 := hide C3
  obtain ⟨na, nc, hna⟩ := ownsRow_shape hN2
  rw [hnl] at hna
  subst hna
  have HX2 := hide (And.intro S2 (And.intro R2 (And.intro o2 hnl)))
  clear C1 hN2 hNw R2 o2 S2 HS1 hnl
  go_wp2_with fail
  refine (unhide C3).mono ?_
  rintro e w3 ⟨z, rfl, hN3, hz, o3⟩
  have S3 := (unhide HX2).1.quiet o3
  have kl3 := S3.lt
  have c0 : w3.cell? ⟨k, 0, none⟩ = some (.slice none 0 0) := S3.slc (j := 0) (by omega)
  have f0 := S3.fr 0
  have L4 : LkW q w g x k M K 0 0 (fun _ => 0) (fun _ => 0) (w3.setCell ⟨k, 0, none⟩ (.slice (some ⟨z, 0, none⟩) n n)) := by
    have o1 : Only (fun b => b = k) w3 (w3.setCell ⟨k, 0, none⟩ (.slice (some ⟨z, 0, none⟩) n n)) := only1 _ _
    have S4 := (unhide HX2).1.names (by omega) o3 hN3 hz
    have Hk' := unhide Hk
    refine ⟨⟨_, by rw [Hk']; exact S4, ⟨rfl, rfl, fun u hu => rfl, fun u hu => (by show (if 6 + u = 0 then _ else _) = _; rw [if_neg (by omega)]; rfl), fun u hu => by omega⟩⟩, ((unhide HX2).2.1.quiet o3).keep o1 (fun b hb c => ?_), ?_, by rw [Hk']; exact unhide HFar⟩
    · have c' : b = k := c
      have f := unhide HFar b (by omega)
      rcases hb with d | d | d
      · exact f.2.1 d
      · exact f.2.2.1 d
      · exact f.2.2.2 d
    · rw [Hk']
      exact ((((unhide HO1).mono (T := fun b => q.S b ∨ k ≤ b) (fun _ _ e => e.elim)).trans ((unhide HX2).2.2.1.mono (T := fun b => q.S b ∨ k ≤ b) (fun _ _ e => .inl e)) (fun _ _ e => e)).trans (o3.mono (T := fun b => q.S b ∨ k ≤ b) (fun _ _ e => e.elim)) (fun _ _ e => e)).trans (o1.mono (T := fun b => q.S b ∨ k ≤ b) (fun b _ e => .inr (by have e' : b = k := e; omega))) (fun _ _ e => e)
  have HL := hide L4
  clear C3 HX2 hN3 hz o3 S3 L4 HO1
  go_upto_region 5 with fail
  generalize w3.setCell ⟨k, 0, none⟩ (.slice (some ⟨z, 0, none⟩) n n) = w4 at *
  clear c0 f0 kl2 kl3
  go_loopw [5, 6, 7] (fun tv _ _ wr => ∃ t : Nat, tv = .int .i64 t ∧ t ≤ n ∧ LkW q w g x k M K t 0 (fun _ => 0) (fun _ => 0) wr) (fun tv _ _ _ => n + 1 - (intOf tv).toNat)
  case atStart => exact ⟨0, rfl, by omega, unhide HL⟩
  case round =>
    clear HL
    obtain ⟨t, rfl, htn, L⟩ := hrel
    by_cases ht : t < n
    · have a1 : decide ((t : Int) < (n : Int)) = true := decide_eq_true (by omega)
      have a1p : (t : Int) < (n : Int) := by omega
      obtain ⟨T, hT⟩ := getE (l := M.com) (i := t) (by rw [unhide Hn]; exact ht)
      obtain ⟨gn, cap, c0, c1, gl⟩ := L.nmAt hT
      rw [unhide Hn] at c0
      have kl := L.kl
      have C := hide (rschemaOf_any L.rx T.nm)
      have HT := hide (And.intro hT ((unhide Hok).g.find (List.mem_of_getElem? hT)))
      have HL := hide L
      clear L hT
      go_wp2_with fail
      refine (unhide C).mono ?_
      rintro y wq ⟨R4, o4, h4⟩
      obtain ⟨cv, rfl, hC4⟩ : ∃ cv, y = .returned (.tuple #[.agg (scC T.nm cv (T.pk : Int) (ixI T.ix)), .int .i64 0]) ∧ OwnC wq cv T.cols := by
        rcases h4 with ⟨hf, _⟩ | ⟨t', cv, hf, hy, h1, h2⟩
        · rw [(unhide HT).2] at hf; cases hf
        · rw [(unhide HT).2] at hf
          obtain rfl := Option.some.inj hf
          exact ⟨cv, hy, h1⟩
      obtain ⟨ca, cc, hca⟩ := hC4.shape
      obtain ⟨cn, hcn⟩ : ∃ k, T.cols.length = k := ⟨_, rfl⟩
      rw [hcn] at hca
      subst hca
      obtain ⟨pk, hpk⟩ : ∃ p, T.pk = p := ⟨_, rfl⟩
      unfold scC
      rw [hpk]
      have oS : Only (fun _ => False) wq (wq.alloc (.cells #[.string T.nm, .slice ca cn cc, .int .i64 (pk : Int), .int .i64 (ixI T.ix)] 51)) := (Only.refl _ _).alloc _
      have HSc := hide (Has.new wq #[.string T.nm, .slice ca cn cc, .int .i64 (pk : Int), .int .i64 (ixI T.ix)] 51)
      have L5 := ((unhide HL).obs R4 o4).quiet oS
      have AK := L5.apPk (unhide HT).1
      rw [hpk] at AK
      have HAK := hide AK
      have HL5 := hide L5
      clear C R4 o4 h4 hC4 hcn hpk oS L5 AK c0 c1 HL
      go_upto_region 8 with fail
      generalize wq.alloc (.cells #[.string T.nm, .slice ca cn cc, .int .i64 (pk : Int), .int .i64 (ixI T.ix)] 51) = w5 at *
      generalize wq.heap.size = ks at *
      obtain ⟨a, cap2, xs, z0, zf, zown, zne, zp⟩ := unhide HAK
      have s2 : w5.cell? ⟨ks, 2, none⟩ = some (.int .i64 (pk : Int)) := (unhide HSc).cell 2
      have ksl := (unhide HSc).lt
      have kl5 := (unhide HL5).kl
      have oA : Only (fun _ => False) w5 ((w5.alloc (.cells #[.int .i64 (pk : Int)] 3)).drew) := ((Only.refl _ w5).alloc _).drew
      have z1 := oA.cellF z0
      have z1f : ((w5.alloc (.cells #[.int .i64 (pk : Int)] 3)).drew).frozen? ⟨k, 1, none⟩ = false := oA.frX zf (fun e => e) kl5
      have l5 : t + 1 ≤ maxLen := by unfold maxLen; omega
      have HPP : Hid (∀ (gg cap3 : Nat) (w3 : World), w3.ownsRow 0 3 1 (.slice (some ⟨gg, 0, none⟩) (t + 1) cap3) (t + 1) (xs ++ [.int .i64 (pk : Int)]) → ((w5.alloc (.cells #[.int .i64 (pk : Int)] 3)).drew).grownBy w3 (Value.slice a t cap2).ownBlock → ((Value.slice a t cap2).ownBlock = some gg ∨ gg = w5.heap.size + 1) → LkW q w g x k M K (t + 1) 0 (fun _ => 0) (fun _ => 0) (w3.setCell ⟨k, 1, none⟩ (.slice (some ⟨gg, 0, none⟩) (t + 1) cap3))) := hide (fun gg cap3 w3 h1 h2 h3 => zp _ w3 _ oA h1 h2 (fun b hb => by
        simp [Value.ownBlock] at hb
        subst hb
        exact h3.imp id (fun c => by omega)))
      clear HAK zp HL5 HSc
      go_region_law
        ((refine step_append_lies _ (by rfl) _ _ _ (by rfl) 0 3 i1 _ 1 8 Tryz.underlying62 hi1 hz1 hy1 hb1 rfl (by omega) (.slice a t cap2) t xs (by rfl) ((zown.alloc _).drew) ⟨w5.heap.size, 0, none⟩ 1 1 [.int .i64 (pk : Int)] (by rfl) (by rfl) (World.news_of_block (cs := #[.int .i64 (pk : Int)]) (t := 3) (fr := (0, 0)) (heap_alloc_new w5 _)) (by simp [Value.oneCell']) (by omega) l5 (by omega) (by simp) (w5.heap.size + 1) (by simp) ?_; intro gg cap3 w3 hown1 hgrow hat hlt3; have y3 := (hgrow.cell_far ⟨k, 1, none⟩ (by simp; omega) (Ne.symm zne)).trans z1; have yz := (hgrow.frozen_far ⟨k, 1, none⟩ (by simp; omega) (Ne.symm zne)).trans z1f))
      all_goals
        have HL6 := hide (unhide HPP gg cap3 w3 hown1 hgrow hat)
        clear hown1 hgrow hat hlt3 HPP z0 zf zown zne z1 z1f s2 oA
        go_wp2_with fail
        clear y3 yz
        go_roundw
        case rel => exact ⟨t + 1, by go_num, by omega, unhide HL6⟩
        case measure => simp [intOf]; omega
    · obtain rfl : t = n := by omega
      have a1 : decide ((t : Int) < (t : Int)) = false := decide_eq_false (by omega)
      obtain ⟨na, nc, c0⟩ := L.names
      rw [unhide Hn] at c0
      have kl := L.kl
      have HL := hide (L.re (cr' := cN t 0 0) (cl' := cN t 0 0) (fun u hu => by unfold cN; simp) (fun u hu => by unfold cN; simp))
      clear L
      go_upto_region 10 with fail
      clear c0 kl
      go_loopw [8, 9, 10, 11, 12, 13, 14] (fun sv _ _ _ _ _ _ wr => ∃ s : Nat, sv = .int .i64 s ∧ s ≤ 4 ∧ LkW q w g x k M K t s (cN t s 0) (cN t s 0) wr) (fun sv _ _ _ _ _ _ _ => 5 - (intOf sv).toNat)
      case atStart => exact ⟨0, rfl, by omega, unhide HL⟩
      case round =>
        clear HL
        obtain ⟨s, rfl, hs4, L⟩ := hrel
        by_cases hs : s < 4
        · have a2 : decide ((s : Int) < 4) = true := decide_eq_true (by omega)
          have s4 : (s : Int) < 4 := by omega
          have gd : gdS (s : Int) := ⟨by omega, by omega⟩
          have kl := L.kl
          have oD : Only (fun _ => False) wr wr.drew := (Only.refl _ wr).drew
          have CA := ractive_any (L.rx.quiet oD) (s : Int)
          rw [decide_eq_true gd, show ((s : Nat) : Int).toNat = s by omega, Bool.true_and] at CA
          have CA := hide CA
          obtain ⟨⟨b0, z0⟩, zf⟩ := L.actc hs
          have z1 := oD.cellF z0
          have z1f : wr.drew.frozen? ⟨k, 10 + s, none⟩ = false := oD.frX zf (fun e => e) kl
          have P1 := hide ((L.quiet oD).setA hs)
          have P2 := hide ((L.setA hs).quiet ((Only.refl (fun _ => False) _).drew))
          have Hgd := hide gd
          clear L oD gd
          go_upto_region 12 with fail
          generalize M.act s = ab at *
          go_cut [] from 60 to 67 (fun wx => LkW q w g x k M K t (s + 1) (cN t s 0) (cN t s 0) wx)
          case first =>
            go_region_with (go_at_call 62; refine (unhide CA).mono ?_; rintro e w5 ⟨rfl, rfl⟩)
            all_goals
              go_wp2_with fail
              go_meet
              first | exact unhide P1 | exact unhide P2
          case rest =>
          generalize wc = w5 at *
          have HL5 := hide hcut
          clear hcut P1 P2 CA z0 zf z1 z1f kl
          go_upto_region 14 with fail
          go_loopw [9, 10, 11, 12, 13, 14] (fun tv _ _ _ _ _ wr => ∃ j : Nat, tv = .int .i64 j ∧ j ≤ t ∧ LkW q w g x k M K t (s + 1) (cN t s j) (cN t s j) wr) (fun tv _ _ _ _ _ _ => t + 1 - (intOf tv).toNat)
          case atStart => exact ⟨0, rfl, by omega, unhide HL5⟩
          case round =>
            clear HL5
            obtain ⟨j, rfl, hjn, L⟩ := hrel
            by_cases hj : j < t
            · have a3 : decide ((j : Int) < (t : Int)) = true := decide_eq_true (by omega)
              have a3p : (j : Int) < (t : Int) := by omega
              obtain ⟨T, hT⟩ := getE (l := M.com) (i := j) (by rw [unhide Hn]; exact hj)
              obtain ⟨gn, cap, c0, c1, gl⟩ := L.nmAt hT
              rw [unhide Hn] at c0
              have kl := L.kl
              have C := hide (rview_any L.rx (s : Int) T.nm)
              have HT := hide (And.intro hT ((unhide Hok).g.find (List.mem_of_getElem? hT)))
              have HL := hide L
              clear L hT
              go_wp2_with fail
              refine (unhide C).mono ?_
              rintro y w6 ⟨R6, o6, h6⟩
              obtain ⟨u, rv, Z, rfl, hu, hRL, hZ⟩ : ∃ u rv Z, y = .returned (.tuple #[rv, .int .i64 0]) ∧ findD (M.see s) T.nm = some u ∧ RL wr.heap.size rv Z w6 ∧ Z.map (·.2) = u.rows := by
                rcases h6 with ⟨hs, _⟩ | ⟨_, hf, _⟩ | ⟨t', rv, Z, _, hf, _, hy, h1, h2⟩
                · exact absurd (unhide Hgd) hs
                · rw [(unhide HT).2] at hf; cases hf
                · exact ⟨t', rv, Z, hy, hf, h1, h2⟩
              have hrows : M.rows s T.nm = u.rows := Mu.rows_some hu
              have bnd := (unhide Hok).mub.rl s hs T.nm
              rw [hrows] at bnd
              obtain ⟨rva, rvc, hrva⟩ := ownsRow_shape hRL.own
              have hZl : Z.length = u.rows.length := by rw [← hZ, List.length_map]
              have C7 := cloneRowsL_any hRL (by rw [hZl]; exact bnd.1) (fun z hz => by
                have : z.2 ∈ u.rows := by rw [← hZ]; exact List.mem_map.mpr ⟨z, hz, rfl⟩
                have := bnd.2 _ this
                omega)
              rw [hZ, ← hrows] at C7
              have C7 := hide C7
              have HL6 := hide ((unhide HL).obs R6 o6)
              rw [hZl] at hrva
              obtain ⟨zn, hzn⟩ : ∃ k, u.rows.length = k := ⟨_, rfl⟩
              rw [hzn] at hrva
              subst hrva
              have Hzn := hide (show (M.rows s T.nm).length = zn by rw [hrows]; exact hzn)
              have s6 := o6.size
              clear C R6 o6 h6 hu hRL hZ hrows bnd hZl hzn HL c0 c1 gl kl
              go_wp2_with fail
              refine (unhide C7).mono ?_
              rintro y w7 ⟨zb, us, rfl, hul, O7, hur, hzb, hus, o7⟩
              rw [unhide Hzn] at O7 ⊢
              have L7 := (unhide HL6).quiet o7
              have hlo := (unhide HL6).sz
              have rk : RK w.heap.size w7 (.slice (some ⟨zb, 0, none⟩) zn zn) (M.rows s T.nm) us := ⟨O7, hul, hur, fun b hb => by
                rcases hb with c | ⟨v, hv, c⟩
                · simp [Value.ownBlock] at c
                  omega
                · have := hus v hv b c
                  omega⟩
              have AK := L7.apRow hs (show cN t s j s = j by unfold cN; rw [if_neg (by omega), if_pos rfl]) (unhide HT).1 rk
              have HAK := hide AK
              have HL7 := hide L7
              clear C7 HL6 hul O7 hur hzb hus o7 L7 rk AK s6 hlo
              go_upto_region 18 with fail
              obtain ⟨a, cap2, xs, z0, zf, zown, zne, zp⟩ := unhide HAK
              have kl7 := (unhide HL7).kl
              clear HAK
              have HZ := hide (And.intro zp (And.intro zne (And.intro z0 zf)))
              clear zp
              go_wp2_with (at_builtin; refine wpList_append2 _ rfl _ _ 63 rfl 48 i0 _ 1 24 Tryz.underlying63 hi0 hz0 hy0 hb0 rfl (by decide) _ _ _ rfl (zown.alloc _) ⟨w7.heap.size, 0, none⟩ 1 1 [.slice (some ⟨zb, 0, none⟩) zn zn] rfl rfl ?c1 ?c2 ?c3 ?c4 ?_)
              case c1 => exact news_ok _ [.slice (some ⟨zb, 0, none⟩) zn zn] 48 _ rfl
              case c2 => intro v hv; simp at hv; subst hv; rfl
              case c3 => unfold maxLen; omega
              case c4 => omega
              intro v' w9 hown hgrow hwhere
              obtain ⟨va2, vc2, rfl⟩ := ownsRow_shape hown
              have oa : Only (fun _ => False) w7 (w7.alloc (.cells #[.slice (some ⟨zb, 0, none⟩) zn zn] 48)) := (Only.refl _ w7).alloc _
              have og : Only (fun b => (Value.slice a j cap2).ownBlock = some b) w7 w9 := (oa.mono (fun _ _ e => e.elim)).grown hgrow (fun b hb _ => hb)
              have L9 := (unhide HZ).1 _ w9 (.slice va2 (j + 1) vc2) oa hown hgrow (fun b hb => by
                rcases hwhere b hb with c | c
                · exact .inl c
                · refine .inr ?_
                  have : (w7.alloc (.cells #[.slice (some ⟨zb, 0, none⟩) zn zn] 48)).heap.size = w7.heap.size + 1 := by simp
                  omega)
              have d0 := cell_keepX (unhide HZ).2.2.1 og (unhide HZ).2.1
              have df := og.frX (unhide HZ).2.2.2 (unhide HZ).2.1 kl7
              have kl9 : k < w9.heap.size := Nat.lt_of_lt_of_le kl7 og.size
              have HL9 := hide L9
              clear hown hgrow hwhere oa og L9 zown z0 zf zne HZ HL7
              go_upto_region 20 with fail
              generalize w9.setCell ⟨k, 2 + s, none⟩ (.slice va2 (j + 1) vc2) = w10 at *
              clear d0 df kl9 kl7
              have L10 := unhide HL9
              obtain ⟨gn, cap, c0, c1, gl⟩ := L10.nmAt (unhide HT).1
              rw [unhide Hn] at c0
              have kl := L10.kl
              have CL := rlockOf_any L10.rx (s : Int) T.nm
              rw [if_pos (unhide Hgd), show ((s : Nat) : Int).toNat = s by omega] at CL
              have CL := hide CL
              have AK := L10.apLk hs (show cN t s j s = j by unfold cN; rw [if_neg (by omega), if_pos rfl]) (unhide HT).1
              generalize M.lk s T.nm = lv at *
              have HAK := hide AK
              clear L10 AK
              go_wp2_with fail
              refine (unhide CL).mono ?_
              rintro y w11 ⟨rfl, rfl⟩
              clear CL c0 c1 gl
              go_upto_region 21 with fail
              obtain ⟨a, cap2, xs, z0, zf, zown, zne, zp⟩ := unhide HAK
              have oA : Only (fun _ => False) w10 ((w10.alloc (.cells #[.int .i64 lv] 3)).drew) := ((Only.refl _ w10).alloc _).drew
              have z1 := oA.cellF z0
              have z1f : ((w10.alloc (.cells #[.int .i64 lv] 3)).drew).frozen? ⟨k, 6 + s, none⟩ = false := oA.frX zf (fun e => e) kl
              have l5 : j + 1 ≤ maxLen := by unfold maxLen; omega
              have HPP : Hid (∀ (gg cap3 : Nat) (w3 : World), w3.ownsRow 0 3 1 (.slice (some ⟨gg, 0, none⟩) (j + 1) cap3) (j + 1) (xs ++ [.int .i64 lv]) → ((w10.alloc (.cells #[.int .i64 lv] 3)).drew).grownBy w3 (Value.slice a j cap2).ownBlock → ((Value.slice a j cap2).ownBlock = some gg ∨ gg = w10.heap.size + 1) → LkW q w g x k M K t (s + 1) (cN t s (j + 1)) (cN t s (j + 1)) (w3.setCell ⟨k, 6 + s, none⟩ (.slice (some ⟨gg, 0, none⟩) (j + 1) cap3))) := hide (fun gg cap3 w3 h1 h2 h3 => (zp _ w3 _ oA h1 h2 (fun b hb => by
                simp [Value.ownBlock] at hb
                subst hb
                exact h3.imp id (fun c => by omega))).re (fun u hu => by
                by_cases c : u = s
                · rw [if_pos c, c]; unfold cN; rw [if_neg (by omega), if_pos rfl]
                · rw [if_neg c]; unfold cN; rw [if_neg c, if_neg c]) (fun u hu => by
                by_cases c : u = s
                · rw [if_pos c, c]; unfold cN; rw [if_neg (by omega), if_pos rfl]
                · rw [if_neg c]; unfold cN; rw [if_neg c, if_neg c]))
              clear HAK zp HL9
              go_region_law
                ((refine step_append_lies _ (by rfl) _ _ _ (by rfl) 0 3 i1 _ 1 8 Tryz.underlying62 hi1 hz1 hy1 hb1 rfl (by omega) (.slice a j cap2) j xs (by rfl) ((zown.alloc _).drew) ⟨w10.heap.size, 0, none⟩ 1 1 [.int .i64 lv] (by rfl) (by rfl) (World.news_of_block (cs := #[.int .i64 lv]) (t := 3) (fr := (0, 0)) (heap_alloc_new w10 _)) (by simp [Value.oneCell']) (by omega) l5 (by omega) (by simp) (w10.heap.size + 1) (by simp) ?_; intro gg cap3 w3 hown1 hgrow hat hlt3; have y3 := (hgrow.cell_far ⟨k, 6 + s, none⟩ (by simp; omega) (Ne.symm zne)).trans z1; have yz := (hgrow.frozen_far ⟨k, 6 + s, none⟩ (by simp; omega) (Ne.symm zne)).trans z1f))
              all_goals
                have HL12 := hide (unhide HPP gg cap3 w3 hown1 hgrow hat)
                clear hown1 hgrow hat hlt3 HPP z0 zf zown zne z1 z1f oA
                go_wp2_with fail
                clear y3 yz
                go_roundw
                case rel => exact ⟨j + 1, by go_num, by omega, unhide HL12⟩
                case measure => simp [intOf]; omega
            · obtain rfl : j = t := by omega
              have a3 : decide ((j : Int) < (j : Int)) = false := decide_eq_false (by omega)
              obtain ⟨na, nc, c0⟩ := L.names
              rw [unhide Hn] at c0
              have kl := L.kl
              have HL := hide (L.re (cr' := cN j (s + 1) 0) (cl' := cN j (s + 1) 0) (fun u hu => by unfold cN; by_cases c : u < s; rw [if_pos c, if_pos (by omega)]; by_cases d : u = s; rw [if_pos (by omega), if_neg c, if_pos d]; rw [if_neg (by omega), if_neg c, if_neg d]; split <;> rfl) (fun u hu => by unfold cN; by_cases c : u < s; rw [if_pos c, if_pos (by omega)]; by_cases d : u = s; rw [if_pos (by omega), if_neg c, if_pos d]; rw [if_neg (by omega), if_neg c, if_neg d]; split <;> rfl))
              clear L
              go_wp2_with fail
              go_roundw
              case rel => exact ⟨s + 1, by go_num, by omega, unhide HL⟩
              case measure => simp [intOf]; omega
        · obtain rfl : s = 4 := by omega
          have FF := hide (show LoP q w g x M K (.returned (.pointer (some ⟨k, 0, none⟩))) wr from LkW.done (by
            have e := unhide Hn
            have := L.re (cr' := fun _ => M.com.length) (cl' := fun _ => M.com.length) (fun u hu => by unfold cN; rw [if_pos hu, e]) (fun u hu => by unfold cN; rw [if_pos hu, e])
            rw [← e] at this
            exact this))
          clear L
          go_wp2_with fail
          go_ret
          exact unhide FF
end
end Go.Proofs.Qxb6500414aGreat
