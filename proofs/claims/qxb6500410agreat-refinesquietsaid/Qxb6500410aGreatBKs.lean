/-
  OWN WORK. THE B-TREE LAW: Sought.
-/
import Derived.Test.Qxb6500410aGreatBKg
namespace Go.Proofs.Qxb6500410aGreat
open Go.RowKit Go.PlainAid
set_option linter.unusedSimpArgs false
set_option linter.unusedVariables false

section
variable {lo : Nat} {w w' : World} {kb : Nat} {q : Gnd} {op : Bool} {S C P : Vu} {n b v : Gho} {N : Int}
theorem yieldsIf_load_kv {ops : Array Oper} {o : Oper} {a : Act} {S : World → Prop} (hw : Region.wanted o (yielded ops a.tmps) = true) (x : Operand) (ho : o.op = .load 110 x) (g : Nat) (hx : a.eval x = .pointer (some ⟨g, 0, none⟩)) (e : KV) (hS : ∀ w, S w → KvAt w g e) : YieldsIf Tryz.prog ops S o (kvA e) a :=
  .inl ⟨hw, fun w hw' => by
    unfold execOp
    simp only [ho, hx, Instr.loadAt, Instr.sureAddr, Sem.run_bind, Sem.run_pure, Result.andThen_ok, run_loadKv (hS w hw')]⟩
set_option maxRecDepth 100000 in
set_option maxHeartbeats 4000000 in
theorem sought_seek (J : KJ lo w kb q op S C P n b v N) (h : Int) (k : ByteArray) : Calls Tryz.prog 49 #[.pointer (some ⟨kb, 0, none⟩), .int .i64 h, .string k, .bool false] w fun e w' => e = .returned (.bool true) ∧ KP lo w kb q P v N w' := by
  have plo := J.low
  have hklt := J.k.kp.lt
  have hnF : ∀ k, n.F k → k < w.heap.size := GhAt.lt J.k.gn
  have hbF : ∀ k, b.F k → k < w.heap.size := GhAt.lt J.k.gb
  have hvF : ∀ k, v.F k → k < w.heap.size := GhAt.lt J.k.gv
  have hA := J.fv.Alt
  go_enter Tryz.func49, Tryz.ntmps49
  go_upto_region 3 with (first | (refine wpList_alloc_kvd 9 rfl rfl rfl ?_; intro u w1 hU gU oU; have hU := hide hU; have oU := hide oU) | (refine wpList_store_kv rfl _ _ rfl u kvD rfl rfl (unhide hU) ?_; intro w2 n2 o2))
  have JL : ∀ {w3 w4 : World} {S : Vu}, KJ lo w3 kb q op S C P n b v N → Only (fun k => k = u) w3 w4 → KJ lo w4 kb q op S C P n b v N := fun J o => ⟨J.k.keep o (fun e => by omega) (fun k hk e => by have := hnF k hk; omega) (fun k hk e => by have := hbF k hk; omega) (fun k hk e => by have := hvF k hk; omega), J.k.fvK J.fv o (fun k hk e => by have := hA k hk; omega), J.rn, J.sc, J.cf⟩
  have J2 := JL (J.quiet (unhide oU)) o2
  have O2 := hide ((((Only.refl (fun k => lo ≤ k) w).q0 (unhide oU))).qn o2 gU)
  have U2 := hide n2
  have c2 := J2.k.c2
  have uS : ¬ q.S u := J.fv.nS gU
  have C1 := vseek_any J2.fv h k
  rw [seekS_eq] at C1
  have C1 := hide C1
  clear n2 o2 hU oU
  go_wp2_with fail
  refine (unhide C1).mono ?_
  rintro e w3 ⟨rfl, A3, o3⟩
  have J3 := J2.forest o3 A3
  have O3 := hide (J2.k.oS (unhide O2) o3)
  have U3 := hide ((unhide U2).keep o3 uS)
  clear A3 o3 C1 c2
  go_upto_region 6 with (first | (refine wpList_store_kv rfl _ _ rfl u _ rfl rfl (unhide U3) ?_; intro w4 n4 o4))
  have U4 := hide n4
  have J4 := JL J3 o4
  have O4 := hide ((unhide O3).qn o4 gU)
  have c3 := J4.k.c3
  have c3d : w4.drew.cell? ⟨kb, 3, none⟩ = some (.pointer (some ⟨n.g, 0, none⟩)) := J4.k.c3
  have CH := ghas_any J4.k.gn h
  rw [J4.rn.hasT] at CH
  have CH := hide CH
  clear n4 o4 U3 O3
  go_wp2_with fail
  refine (unhide CH).mono ?_
  rintro e w5 ⟨rfl, rfl⟩
  clear CH
  cases hv : (Vz S h).isSome with
  | false =>
    obtain ⟨e1, e2⟩ := OW.bad (S := S) (h := h) (k := k) (past := false) hv
    have b1 : (sC S h k false == 7) = true := by rw [e2]; rfl
    have b2 := iE_t (show (sA S h k false).1 = bE by rw [e1]; rfl)
    have b3 := iE_t (show (sA S h k false).2 = bE by rw [e1]; rfl)
    have d0 := (unhide U4).k.1
    have d1 := (unhide U4).v.1
    have HP := hide (J4.same (unhide O4))
    clear e1 e2 hv c3d
    go_wp2_with fail
    go_ret
    exact ⟨by rfl, unhide HP⟩
  | true =>
    have CL := hide (gleast_any J4.k.gn h k false)
    go_wp2_with fail
    refine (unhide CL).mono ?_
    rintro e w5 ⟨r, rfl, R, o5⟩
    have J5 := J4.quiet o5
    have U5 := hide ((unhide U4).keep o5 (fun h => h))
    have O5 := hide ((unhide O4).q0 o5)
    clear o5 CL U4 O4 J4 c3 c3d
    have c3d : w5.drew.cell? ⟨kb, 3, none⟩ = some (.pointer (some ⟨n.g, 0, none⟩)) := J5.k.c3
    have lz : ∃ l, Vz S h = some l ∧ Lz S h = l := by
      cases hz : Vz S h with
      | none => rw [hz] at hv; cases hv
      | some l => exact ⟨l, rfl, by unfold Lz; rw [hz]; rfl⟩
    obtain ⟨l, hz, hL⟩ := lz
    have U4 := U5
    have J4 := J5
    have O4 := O5
    rcases J5.rn.least R with ⟨rfl, e⟩ | ⟨i, y, hy, rfl, e⟩
    · have HK := hide (show skN (sA S h k false) (sC S h k false) = true by unfold sA sC; rw [hz]; simp only [Option.bind_some]; rw [← hL, e]; rfl)
      have CS := hide (samekv_neg (J5.quiet (Only.refl _ w5).drew).k.gn (sA S h k false) (sC S h k false))
      clear R e
      go_upto_region 9 with fail
      refine wp_region_held_drew (S := (fun w' => KvAt w' u (sA S h k false) ∧ w'.cell? ⟨kb, 3, none⟩ = some (.pointer (some ⟨n.g, 0, none⟩)))) (by kernel_rfl) ⟨(unhide U4).drew, c3d⟩ (fun hH0 => ?_)
      refine takeH 0 61 (v := ?vd1) rfl rfl (by kernel_rfl) (by kernel_rfl) (by kernel_rfl) (fun _ _ _ h => h) (Or.inl ⟨by rfl, ?hd1⟩) hH0 ?rd1
      case hd1 => (intro w hSw; (try dsimp only at hSw); go_simp; (try with_reducible rfl))
      case rd1 =>
      try simp only [Act.put, List.setIfInBounds_toArray, List.set_cons_zero, List.set_cons_succ]
      refine takeH 1 62 (v := ?vd2) rfl rfl (by kernel_rfl) (by kernel_rfl) (by kernel_rfl) (fun _ _ _ h => h) (Or.inl ⟨by rfl, ?hd2⟩) hH0 ?rd2
      case hd2 => (intro w hSw; (try dsimp only at hSw); go_simp; (try with_reducible rfl))
      case rd2 =>
      try simp only [Act.put, List.setIfInBounds_toArray, List.set_cons_zero, List.set_cons_succ]
      refine takeH 2 63 (v := ?vd3) rfl rfl (by kernel_rfl) (by kernel_rfl) (by kernel_rfl) (fun _ _ _ h => h) (Or.inl ⟨by rfl, ?hd3⟩) hH0 ?rd3
      case hd3 => (intro w hSw; (try dsimp only at hSw); go_simp; (try with_reducible rfl))
      case rd3 =>
      try simp only [Act.put, List.setIfInBounds_toArray, List.set_cons_zero, List.set_cons_succ]
      refine takeH 3 64 (v := ?vd4) rfl rfl (by kernel_rfl) (by kernel_rfl) (by kernel_rfl) (fun _ _ _ h => h) (Or.inl ⟨by rfl, ?hd4⟩) hH0 ?rd4
      case hd4 => (intro w hSw; have q1 := hSw.2; clear hSw; go_simp; (try with_reducible rfl))
      case rd4 =>
      try simp only [Act.put, List.setIfInBounds_toArray, List.set_cons_zero, List.set_cons_succ]
      refine takeH 4 65 (v := ?vd5) rfl rfl (by kernel_rfl) (by kernel_rfl) (by kernel_rfl) (fun _ _ _ h => h) (Or.inl ⟨by rfl, ?hd5⟩) hH0 ?rd5
      case hd5 => (intro w hSw; (try dsimp only at hSw); go_simp; (try with_reducible rfl))
      case rd5 =>
      try simp only [Act.put, List.setIfInBounds_toArray, List.set_cons_zero, List.set_cons_succ]
      refine takeH 5 66 rfl rfl (by kernel_rfl) (by kernel_rfl) (by kernel_rfl) (fun _ _ _ h => h) (yieldsIf_load_kv (by rfl) _ rfl u rfl (sA S h k false) (fun _ h => h.1)) hH0 ?rd6
      case rd6 =>
      try simp only [Act.put, List.setIfInBounds_toArray, List.set_cons_zero, List.set_cons_succ]
      refine takeH 6 67 (v := ?vd7) rfl rfl (by kernel_rfl) (by kernel_rfl) (by kernel_rfl) (fun _ _ _ h => h) (Or.inl ⟨by rfl, ?hd7⟩) hH0 ?rd7
      case hd7 => (intro w hSw; (try dsimp only at hSw); go_simp; (try with_reducible rfl))
      case rd7 =>
      try simp only [Act.put, List.setIfInBounds_toArray, List.set_cons_zero, List.set_cons_succ]
      refine callH 7 (by kernel_rfl) rfl 68 rfl rfl 86 Tryz.func86 (by kernel_rfl) (by kernel_rfl) #[.tmp 64, .tmp 65, .tmp 66, .tmp 67] #[33, 3, 110, 68] rfl #[.pointer (some ⟨n.g, 0, none⟩), .int .i64 (-1), kvA (sA S h k false), .int .i64 (sC S h k false)] (by simp [Act.eval]) (R := fun v w' => v = .bool true ∧ Only (fun _ => False) w5.drew w') ((unhide CS).mono (by rintro en w' ⟨rfl, h2⟩; exact ⟨_, rfl, by rw [unhide HK], h2⟩)) ?kcs
      case kcs =>
      rintro _ w6 ⟨rfl, o6⟩
      have S6 : KvAt w6 u (sA S h k false) ∧ w6.cell? ⟨kb, 3, none⟩ = some (.pointer (some ⟨n.g, 0, none⟩)) := ⟨KvAt.keep hH0.1 o6 (fun h => h), (J4.quiet ((Only.refl _ w5).drew.q0 o6)).k.c3⟩
      have HP := hide ((J4.quiet ((Only.refl _ w5).drew.q0 o6)).same ((unhide O4).drew.q0 o6))
      refine ⟨S6, ?_⟩
      clear o6
      try simp only [Act.put, List.setIfInBounds_toArray, List.set_cons_zero, List.set_cons_succ]
      refine takeH 8 8 (v := ?vd8) rfl rfl (by kernel_rfl) (by kernel_rfl) (by kernel_rfl) (fun _ _ _ h => h) (Or.inl ⟨by rfl, ?hd8⟩) S6 ?rd8
      case hd8 => (intro w hSw; (try dsimp only at hSw); go_simp; (try with_reducible rfl))
      case rd8 =>
      try simp only [Act.put, List.setIfInBounds_toArray, List.set_cons_zero, List.set_cons_succ]
      refine wpAnyH_done (by kernel_rfl) ?_ _
      clear S6 hH0 CS
      go_wp2_with fail
      go_ret
      exact ⟨by rfl, unhide HP⟩
    · have HK := hide (show skP y (sA S h k false) (sC S h k false) = true by unfold sA sC; rw [hz]; simp only [Option.bind_some]; rw [← hL, e]; simp [skP, seC])
      have CS := hide (samekv_pos (J5.quiet (Only.refl _ w5).drew).k.gn i y hy (sA S h k false) (sC S h k false))
      clear R e hy
      go_upto_region 9 with fail
      refine wp_region_held_drew (S := (fun w' => KvAt w' u (sA S h k false) ∧ w'.cell? ⟨kb, 3, none⟩ = some (.pointer (some ⟨n.g, 0, none⟩)))) (by kernel_rfl) ⟨(unhide U4).drew, c3d⟩ (fun hH0 => ?_)
      refine takeH 0 61 (v := ?vd9) rfl rfl (by kernel_rfl) (by kernel_rfl) (by kernel_rfl) (fun _ _ _ h => h) (Or.inl ⟨by rfl, ?hd9⟩) hH0 ?rd9
      case hd9 => (intro w hSw; (try dsimp only at hSw); go_simp; (try with_reducible rfl))
      case rd9 =>
      try simp only [Act.put, List.setIfInBounds_toArray, List.set_cons_zero, List.set_cons_succ]
      refine takeH 1 62 (v := ?vd10) rfl rfl (by kernel_rfl) (by kernel_rfl) (by kernel_rfl) (fun _ _ _ h => h) (Or.inl ⟨by rfl, ?hd10⟩) hH0 ?rd10
      case hd10 => (intro w hSw; (try dsimp only at hSw); go_simp; (try with_reducible rfl))
      case rd10 =>
      try simp only [Act.put, List.setIfInBounds_toArray, List.set_cons_zero, List.set_cons_succ]
      refine takeH 2 63 (v := ?vd11) rfl rfl (by kernel_rfl) (by kernel_rfl) (by kernel_rfl) (fun _ _ _ h => h) (Or.inl ⟨by rfl, ?hd11⟩) hH0 ?rd11
      case hd11 => (intro w hSw; (try dsimp only at hSw); go_simp; (try with_reducible rfl))
      case rd11 =>
      try simp only [Act.put, List.setIfInBounds_toArray, List.set_cons_zero, List.set_cons_succ]
      refine takeH 3 64 (v := ?vd12) rfl rfl (by kernel_rfl) (by kernel_rfl) (by kernel_rfl) (fun _ _ _ h => h) (Or.inl ⟨by rfl, ?hd12⟩) hH0 ?rd12
      case hd12 => (intro w hSw; have q1 := hSw.2; clear hSw; go_simp; (try with_reducible rfl))
      case rd12 =>
      try simp only [Act.put, List.setIfInBounds_toArray, List.set_cons_zero, List.set_cons_succ]
      refine takeH 4 65 (v := ?vd13) rfl rfl (by kernel_rfl) (by kernel_rfl) (by kernel_rfl) (fun _ _ _ h => h) (Or.inl ⟨by rfl, ?hd13⟩) hH0 ?rd13
      case hd13 => (intro w hSw; (try dsimp only at hSw); go_simp; (try with_reducible rfl))
      case rd13 =>
      try simp only [Act.put, List.setIfInBounds_toArray, List.set_cons_zero, List.set_cons_succ]
      refine takeH 5 66 rfl rfl (by kernel_rfl) (by kernel_rfl) (by kernel_rfl) (fun _ _ _ h => h) (yieldsIf_load_kv (by rfl) _ rfl u rfl (sA S h k false) (fun _ h => h.1)) hH0 ?rd14
      case rd14 =>
      try simp only [Act.put, List.setIfInBounds_toArray, List.set_cons_zero, List.set_cons_succ]
      refine takeH 6 67 (v := ?vd15) rfl rfl (by kernel_rfl) (by kernel_rfl) (by kernel_rfl) (fun _ _ _ h => h) (Or.inl ⟨by rfl, ?hd15⟩) hH0 ?rd15
      case hd15 => (intro w hSw; (try dsimp only at hSw); go_simp; (try with_reducible rfl))
      case rd15 =>
      try simp only [Act.put, List.setIfInBounds_toArray, List.set_cons_zero, List.set_cons_succ]
      refine callH 7 (by kernel_rfl) rfl 68 rfl rfl 86 Tryz.func86 (by kernel_rfl) (by kernel_rfl) #[.tmp 64, .tmp 65, .tmp 66, .tmp 67] #[33, 3, 110, 68] rfl #[.pointer (some ⟨n.g, 0, none⟩), .int .i64 i, kvA (sA S h k false), .int .i64 (sC S h k false)] (by simp [Act.eval]) (R := fun v w' => v = .bool true ∧ Only (fun _ => False) w5.drew w') ((unhide CS).mono (by rintro en w' ⟨rfl, h2⟩; exact ⟨_, rfl, by rw [unhide HK], h2⟩)) ?kcs
      case kcs =>
      rintro _ w6 ⟨rfl, o6⟩
      have S6 : KvAt w6 u (sA S h k false) ∧ w6.cell? ⟨kb, 3, none⟩ = some (.pointer (some ⟨n.g, 0, none⟩)) := ⟨KvAt.keep hH0.1 o6 (fun h => h), (J4.quiet ((Only.refl _ w5).drew.q0 o6)).k.c3⟩
      have HP := hide ((J4.quiet ((Only.refl _ w5).drew.q0 o6)).same ((unhide O4).drew.q0 o6))
      refine ⟨S6, ?_⟩
      clear o6
      try simp only [Act.put, List.setIfInBounds_toArray, List.set_cons_zero, List.set_cons_succ]
      refine takeH 8 8 (v := ?vd16) rfl rfl (by kernel_rfl) (by kernel_rfl) (by kernel_rfl) (fun _ _ _ h => h) (Or.inl ⟨by rfl, ?hd16⟩) S6 ?rd16
      case hd16 => (intro w hSw; (try dsimp only at hSw); go_simp; (try with_reducible rfl))
      case rd16 =>
      try simp only [Act.put, List.setIfInBounds_toArray, List.set_cons_zero, List.set_cons_succ]
      refine wpAnyH_done (by kernel_rfl) ?_ _
      clear S6 hH0 CS
      go_wp2_with fail
      go_ret
      exact ⟨by rfl, unhide HP⟩
set_option maxRecDepth 100000 in
set_option maxHeartbeats 4000000 in
theorem sought_next (J : KJ lo w kb q op S C P n b v N) (h : Int) (k : ByteArray) : Calls Tryz.prog 49 #[.pointer (some ⟨kb, 0, none⟩), .int .i64 h, .string k, .bool true] w fun e w' => e = .returned (.bool true) ∧ KP lo w kb q P v N w' := by
  have plo := J.low
  have hklt := J.k.kp.lt
  have hnF : ∀ k, n.F k → k < w.heap.size := GhAt.lt J.k.gn
  have hbF : ∀ k, b.F k → k < w.heap.size := GhAt.lt J.k.gb
  have hvF : ∀ k, v.F k → k < w.heap.size := GhAt.lt J.k.gv
  have hA := J.fv.Alt
  go_enter Tryz.func49, Tryz.ntmps49
  go_upto_region 3 with (first | (refine wpList_alloc_kvd 9 rfl rfl rfl ?_; intro u w1 hU gU oU; have hU := hide hU; have oU := hide oU) | (refine wpList_store_kv rfl _ _ rfl u kvD rfl rfl (unhide hU) ?_; intro w2 n2 o2))
  have JL : ∀ {w3 w4 : World} {S : Vu}, KJ lo w3 kb q op S C P n b v N → Only (fun k => k = u) w3 w4 → KJ lo w4 kb q op S C P n b v N := fun J o => ⟨J.k.keep o (fun e => by omega) (fun k hk e => by have := hnF k hk; omega) (fun k hk e => by have := hbF k hk; omega) (fun k hk e => by have := hvF k hk; omega), J.k.fvK J.fv o (fun k hk e => by have := hA k hk; omega), J.rn, J.sc, J.cf⟩
  have J2 := JL (J.quiet (unhide oU)) o2
  have O2 := hide ((((Only.refl (fun k => lo ≤ k) w).q0 (unhide oU))).qn o2 gU)
  have U2 := hide n2
  have c2 := J2.k.c2
  have uS : ¬ q.S u := J.fv.nS gU
  have C1 := vnext_any J2.fv h k
  rw [seekS_eq] at C1
  have C1 := hide C1
  clear n2 o2 hU oU
  go_wp2_with fail
  refine (unhide C1).mono ?_
  rintro e w3 ⟨rfl, A3, o3⟩
  have J3 := J2.forest o3 A3
  have O3 := hide (J2.k.oS (unhide O2) o3)
  have U3 := hide ((unhide U2).keep o3 uS)
  clear A3 o3 C1 c2
  go_upto_region 6 with (first | (refine wpList_store_kv rfl _ _ rfl u _ rfl rfl (unhide U3) ?_; intro w4 n4 o4))
  have U4 := hide n4
  have J4 := JL J3 o4
  have O4 := hide ((unhide O3).qn o4 gU)
  have c3 := J4.k.c3
  have c3d : w4.drew.cell? ⟨kb, 3, none⟩ = some (.pointer (some ⟨n.g, 0, none⟩)) := J4.k.c3
  have CH := ghas_any J4.k.gn h
  rw [J4.rn.hasT] at CH
  have CH := hide CH
  clear n4 o4 U3 O3
  go_wp2_with fail
  refine (unhide CH).mono ?_
  rintro e w5 ⟨rfl, rfl⟩
  clear CH
  cases hv : (Vz S h).isSome with
  | false =>
    obtain ⟨e1, e2⟩ := OW.bad (S := S) (h := h) (k := k) (past := true) hv
    have b1 : (sC S h k true == 7) = true := by rw [e2]; rfl
    have b2 := iE_t (show (sA S h k true).1 = bE by rw [e1]; rfl)
    have b3 := iE_t (show (sA S h k true).2 = bE by rw [e1]; rfl)
    have d0 := (unhide U4).k.1
    have d1 := (unhide U4).v.1
    have HP := hide (J4.same (unhide O4))
    clear e1 e2 hv c3d
    go_wp2_with fail
    go_ret
    exact ⟨by rfl, unhide HP⟩
  | true =>
    have CL := hide (gleast_any J4.k.gn h k true)
    go_wp2_with fail
    refine (unhide CL).mono ?_
    rintro e w5 ⟨r, rfl, R, o5⟩
    have J5 := J4.quiet o5
    have U5 := hide ((unhide U4).keep o5 (fun h => h))
    have O5 := hide ((unhide O4).q0 o5)
    clear o5 CL U4 O4 J4 c3 c3d
    have c3d : w5.drew.cell? ⟨kb, 3, none⟩ = some (.pointer (some ⟨n.g, 0, none⟩)) := J5.k.c3
    have lz : ∃ l, Vz S h = some l ∧ Lz S h = l := by
      cases hz : Vz S h with
      | none => rw [hz] at hv; cases hv
      | some l => exact ⟨l, rfl, by unfold Lz; rw [hz]; rfl⟩
    obtain ⟨l, hz, hL⟩ := lz
    have U4 := U5
    have J4 := J5
    have O4 := O5
    rcases J5.rn.least R with ⟨rfl, e⟩ | ⟨i, y, hy, rfl, e⟩
    · have HK := hide (show skN (sA S h k true) (sC S h k true) = true by unfold sA sC; rw [hz]; simp only [Option.bind_some]; rw [← hL, e]; rfl)
      have CS := hide (samekv_neg (J5.quiet (Only.refl _ w5).drew).k.gn (sA S h k true) (sC S h k true))
      clear R e
      go_upto_region 9 with fail
      refine wp_region_held_drew (S := (fun w' => KvAt w' u (sA S h k true) ∧ w'.cell? ⟨kb, 3, none⟩ = some (.pointer (some ⟨n.g, 0, none⟩)))) (by kernel_rfl) ⟨(unhide U4).drew, c3d⟩ (fun hH0 => ?_)
      refine takeH 0 61 (v := ?vd1) rfl rfl (by kernel_rfl) (by kernel_rfl) (by kernel_rfl) (fun _ _ _ h => h) (Or.inl ⟨by rfl, ?hd1⟩) hH0 ?rd1
      case hd1 => (intro w hSw; (try dsimp only at hSw); go_simp; (try with_reducible rfl))
      case rd1 =>
      try simp only [Act.put, List.setIfInBounds_toArray, List.set_cons_zero, List.set_cons_succ]
      refine takeH 1 62 (v := ?vd2) rfl rfl (by kernel_rfl) (by kernel_rfl) (by kernel_rfl) (fun _ _ _ h => h) (Or.inl ⟨by rfl, ?hd2⟩) hH0 ?rd2
      case hd2 => (intro w hSw; (try dsimp only at hSw); go_simp; (try with_reducible rfl))
      case rd2 =>
      try simp only [Act.put, List.setIfInBounds_toArray, List.set_cons_zero, List.set_cons_succ]
      refine takeH 2 63 (v := ?vd3) rfl rfl (by kernel_rfl) (by kernel_rfl) (by kernel_rfl) (fun _ _ _ h => h) (Or.inl ⟨by rfl, ?hd3⟩) hH0 ?rd3
      case hd3 => (intro w hSw; (try dsimp only at hSw); go_simp; (try with_reducible rfl))
      case rd3 =>
      try simp only [Act.put, List.setIfInBounds_toArray, List.set_cons_zero, List.set_cons_succ]
      refine takeH 3 64 (v := ?vd4) rfl rfl (by kernel_rfl) (by kernel_rfl) (by kernel_rfl) (fun _ _ _ h => h) (Or.inl ⟨by rfl, ?hd4⟩) hH0 ?rd4
      case hd4 => (intro w hSw; have q1 := hSw.2; clear hSw; go_simp; (try with_reducible rfl))
      case rd4 =>
      try simp only [Act.put, List.setIfInBounds_toArray, List.set_cons_zero, List.set_cons_succ]
      refine takeH 4 65 (v := ?vd5) rfl rfl (by kernel_rfl) (by kernel_rfl) (by kernel_rfl) (fun _ _ _ h => h) (Or.inl ⟨by rfl, ?hd5⟩) hH0 ?rd5
      case hd5 => (intro w hSw; (try dsimp only at hSw); go_simp; (try with_reducible rfl))
      case rd5 =>
      try simp only [Act.put, List.setIfInBounds_toArray, List.set_cons_zero, List.set_cons_succ]
      refine takeH 5 66 rfl rfl (by kernel_rfl) (by kernel_rfl) (by kernel_rfl) (fun _ _ _ h => h) (yieldsIf_load_kv (by rfl) _ rfl u rfl (sA S h k true) (fun _ h => h.1)) hH0 ?rd6
      case rd6 =>
      try simp only [Act.put, List.setIfInBounds_toArray, List.set_cons_zero, List.set_cons_succ]
      refine takeH 6 67 (v := ?vd7) rfl rfl (by kernel_rfl) (by kernel_rfl) (by kernel_rfl) (fun _ _ _ h => h) (Or.inl ⟨by rfl, ?hd7⟩) hH0 ?rd7
      case hd7 => (intro w hSw; (try dsimp only at hSw); go_simp; (try with_reducible rfl))
      case rd7 =>
      try simp only [Act.put, List.setIfInBounds_toArray, List.set_cons_zero, List.set_cons_succ]
      refine callH 7 (by kernel_rfl) rfl 68 rfl rfl 86 Tryz.func86 (by kernel_rfl) (by kernel_rfl) #[.tmp 64, .tmp 65, .tmp 66, .tmp 67] #[33, 3, 110, 68] rfl #[.pointer (some ⟨n.g, 0, none⟩), .int .i64 (-1), kvA (sA S h k true), .int .i64 (sC S h k true)] (by simp [Act.eval]) (R := fun v w' => v = .bool true ∧ Only (fun _ => False) w5.drew w') ((unhide CS).mono (by rintro en w' ⟨rfl, h2⟩; exact ⟨_, rfl, by rw [unhide HK], h2⟩)) ?kcs
      case kcs =>
      rintro _ w6 ⟨rfl, o6⟩
      have S6 : KvAt w6 u (sA S h k true) ∧ w6.cell? ⟨kb, 3, none⟩ = some (.pointer (some ⟨n.g, 0, none⟩)) := ⟨KvAt.keep hH0.1 o6 (fun h => h), (J4.quiet ((Only.refl _ w5).drew.q0 o6)).k.c3⟩
      have HP := hide ((J4.quiet ((Only.refl _ w5).drew.q0 o6)).same ((unhide O4).drew.q0 o6))
      refine ⟨S6, ?_⟩
      clear o6
      try simp only [Act.put, List.setIfInBounds_toArray, List.set_cons_zero, List.set_cons_succ]
      refine takeH 8 8 (v := ?vd8) rfl rfl (by kernel_rfl) (by kernel_rfl) (by kernel_rfl) (fun _ _ _ h => h) (Or.inl ⟨by rfl, ?hd8⟩) S6 ?rd8
      case hd8 => (intro w hSw; (try dsimp only at hSw); go_simp; (try with_reducible rfl))
      case rd8 =>
      try simp only [Act.put, List.setIfInBounds_toArray, List.set_cons_zero, List.set_cons_succ]
      refine wpAnyH_done (by kernel_rfl) ?_ _
      clear S6 hH0 CS
      go_wp2_with fail
      go_ret
      exact ⟨by rfl, unhide HP⟩
    · have HK := hide (show skP y (sA S h k true) (sC S h k true) = true by unfold sA sC; rw [hz]; simp only [Option.bind_some]; rw [← hL, e]; simp [skP, seC])
      have CS := hide (samekv_pos (J5.quiet (Only.refl _ w5).drew).k.gn i y hy (sA S h k true) (sC S h k true))
      clear R e hy
      go_upto_region 9 with fail
      refine wp_region_held_drew (S := (fun w' => KvAt w' u (sA S h k true) ∧ w'.cell? ⟨kb, 3, none⟩ = some (.pointer (some ⟨n.g, 0, none⟩)))) (by kernel_rfl) ⟨(unhide U4).drew, c3d⟩ (fun hH0 => ?_)
      refine takeH 0 61 (v := ?vd9) rfl rfl (by kernel_rfl) (by kernel_rfl) (by kernel_rfl) (fun _ _ _ h => h) (Or.inl ⟨by rfl, ?hd9⟩) hH0 ?rd9
      case hd9 => (intro w hSw; (try dsimp only at hSw); go_simp; (try with_reducible rfl))
      case rd9 =>
      try simp only [Act.put, List.setIfInBounds_toArray, List.set_cons_zero, List.set_cons_succ]
      refine takeH 1 62 (v := ?vd10) rfl rfl (by kernel_rfl) (by kernel_rfl) (by kernel_rfl) (fun _ _ _ h => h) (Or.inl ⟨by rfl, ?hd10⟩) hH0 ?rd10
      case hd10 => (intro w hSw; (try dsimp only at hSw); go_simp; (try with_reducible rfl))
      case rd10 =>
      try simp only [Act.put, List.setIfInBounds_toArray, List.set_cons_zero, List.set_cons_succ]
      refine takeH 2 63 (v := ?vd11) rfl rfl (by kernel_rfl) (by kernel_rfl) (by kernel_rfl) (fun _ _ _ h => h) (Or.inl ⟨by rfl, ?hd11⟩) hH0 ?rd11
      case hd11 => (intro w hSw; (try dsimp only at hSw); go_simp; (try with_reducible rfl))
      case rd11 =>
      try simp only [Act.put, List.setIfInBounds_toArray, List.set_cons_zero, List.set_cons_succ]
      refine takeH 3 64 (v := ?vd12) rfl rfl (by kernel_rfl) (by kernel_rfl) (by kernel_rfl) (fun _ _ _ h => h) (Or.inl ⟨by rfl, ?hd12⟩) hH0 ?rd12
      case hd12 => (intro w hSw; have q1 := hSw.2; clear hSw; go_simp; (try with_reducible rfl))
      case rd12 =>
      try simp only [Act.put, List.setIfInBounds_toArray, List.set_cons_zero, List.set_cons_succ]
      refine takeH 4 65 (v := ?vd13) rfl rfl (by kernel_rfl) (by kernel_rfl) (by kernel_rfl) (fun _ _ _ h => h) (Or.inl ⟨by rfl, ?hd13⟩) hH0 ?rd13
      case hd13 => (intro w hSw; (try dsimp only at hSw); go_simp; (try with_reducible rfl))
      case rd13 =>
      try simp only [Act.put, List.setIfInBounds_toArray, List.set_cons_zero, List.set_cons_succ]
      refine takeH 5 66 rfl rfl (by kernel_rfl) (by kernel_rfl) (by kernel_rfl) (fun _ _ _ h => h) (yieldsIf_load_kv (by rfl) _ rfl u rfl (sA S h k true) (fun _ h => h.1)) hH0 ?rd14
      case rd14 =>
      try simp only [Act.put, List.setIfInBounds_toArray, List.set_cons_zero, List.set_cons_succ]
      refine takeH 6 67 (v := ?vd15) rfl rfl (by kernel_rfl) (by kernel_rfl) (by kernel_rfl) (fun _ _ _ h => h) (Or.inl ⟨by rfl, ?hd15⟩) hH0 ?rd15
      case hd15 => (intro w hSw; (try dsimp only at hSw); go_simp; (try with_reducible rfl))
      case rd15 =>
      try simp only [Act.put, List.setIfInBounds_toArray, List.set_cons_zero, List.set_cons_succ]
      refine callH 7 (by kernel_rfl) rfl 68 rfl rfl 86 Tryz.func86 (by kernel_rfl) (by kernel_rfl) #[.tmp 64, .tmp 65, .tmp 66, .tmp 67] #[33, 3, 110, 68] rfl #[.pointer (some ⟨n.g, 0, none⟩), .int .i64 i, kvA (sA S h k true), .int .i64 (sC S h k true)] (by simp [Act.eval]) (R := fun v w' => v = .bool true ∧ Only (fun _ => False) w5.drew w') ((unhide CS).mono (by rintro en w' ⟨rfl, h2⟩; exact ⟨_, rfl, by rw [unhide HK], h2⟩)) ?kcs
      case kcs =>
      rintro _ w6 ⟨rfl, o6⟩
      have S6 : KvAt w6 u (sA S h k true) ∧ w6.cell? ⟨kb, 3, none⟩ = some (.pointer (some ⟨n.g, 0, none⟩)) := ⟨KvAt.keep hH0.1 o6 (fun h => h), (J4.quiet ((Only.refl _ w5).drew.q0 o6)).k.c3⟩
      have HP := hide ((J4.quiet ((Only.refl _ w5).drew.q0 o6)).same ((unhide O4).drew.q0 o6))
      refine ⟨S6, ?_⟩
      clear o6
      try simp only [Act.put, List.setIfInBounds_toArray, List.set_cons_zero, List.set_cons_succ]
      refine takeH 8 8 (v := ?vd16) rfl rfl (by kernel_rfl) (by kernel_rfl) (by kernel_rfl) (fun _ _ _ h => h) (Or.inl ⟨by rfl, ?hd16⟩) S6 ?rd16
      case hd16 => (intro w hSw; (try dsimp only at hSw); go_simp; (try with_reducible rfl))
      case rd16 =>
      try simp only [Act.put, List.setIfInBounds_toArray, List.set_cons_zero, List.set_cons_succ]
      refine wpAnyH_done (by kernel_rfl) ?_ _
      clear S6 hH0 CS
      go_wp2_with fail
      go_ret
      exact ⟨by rfl, unhide HP⟩
end
end Go.Proofs.Qxb6500410aGreat
