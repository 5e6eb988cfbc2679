/-
  OWN WORK. TXN: apply (written by tools/gen_x20.py).
-/
import Derived.Test.Qxb6500412aGreatX19
namespace Go.Proofs.Qxb6500412aGreat
open Go.RowKit Go.PlainAid
set_option linter.unusedSimpArgs false
set_option linter.unusedVariables false

section
variable {q : Gnd} {w w' : World} {g x : Nat} {X : Xs} {op : Bool} {S : Vu} {T : List (Tb × Hd)} {D : Db}
/-- The store under the manager shows the database D. -/
def ApI (q : Gnd) (w : World) (g x : Nat) (X : Xs) (D : Db) (w' : World) : Prop := ∃ S T, XR q w' g x X true S ∧ Lay S T ∧ dbOf T = D ∧ Only q.S w w'
set_option maxRecDepth 100000 in
set_option maxHeartbeats 8000000 in
theorem xapply_any (H : XR q w g x X true S) (L : Lay S T) (hT : dbOf T = D) (G : DGd D) {s : Nat} (hs4 : s < 4) (hW : WsG (X.ws s) D) : Calls Tryz.prog 163 #[.pointer (some ⟨g, 0, none⟩), .int .i64 (s : Int)] w fun e w' => e = .returned (.int .i64 0) ∧ ApI q w g x X (seeD (X.ws s) D) w' := by
  obtain ⟨n, hn⟩ : ∃ n, (X.ws s).length = n := ⟨_, rfl⟩
  have hn48 : n ≤ 48 := by rw [← hn]; exact hW.short G
  obtain ⟨wa, wcap, hwv⟩ := (H.xm.ws s hs4).shape
  rw [hn] at hwv
  have Hn := hide hn
  have Hwv := hide hwv
  have s4 : (s : Int) < 4 := by omega
  have HNG := hide (show ¬ q.S g from fun h => (H.off g (.inl rfl)).1 (Gnd.S_A h))
  have HA := hide (show ApI q w g x X (seeD (gnW ((X.ws s).take 0)) D) w from ⟨S, T, H, L, by rw [List.take_zero]; show _ = seeD [] D; rw [seeD_nil]; exact hT, Only.refl _ w⟩)
  have HG := hide (And.intro G hW)
  clear H L hT G hn hwv
  go_enter Tryz.func163, Tryz.ntmps163
  go_upto_region 2 with fail
  go_loopw [5, 6] (fun pv _ wr => ∃ p : Nat, pv = .int .i64 p ∧ p ≤ n ∧ ApI q w g x X (seeD (gnW ((X.ws s).take p)) D) wr) (fun pv _ _ => n + 1 - (intOf pv).toNat)
  case atStart => exact ⟨0, rfl, Nat.zero_le _, unhide HA⟩
  case round =>
    clear HA
    obtain ⟨p, rfl, hp, A⟩ := hrel
    by_cases hpn : p < n
    · have a2 : decide ((p : Int) < (n : Int)) = true := decide_eq_true (by omega)
      have a2p : (p : Int) < (n : Int) := by omega
      obtain ⟨S1, T1, hx, la, hd, ho⟩ := A
      obtain ⟨c, hc⟩ := getE (l := X.ws s) (i := p) (by rw [unhide Hn]; exact hpn)
      have W1 := hx.xm.ws s hs4
      rw [unhide Hwv] at W1
      obtain ⟨b, rfl, e0, e1, e2, e3, e4, e5⟩ := W1.at_ hc
      have OX := W1.row c (List.mem_of_getElem? hc)
      have hcI : ∀ k, c.u.ownBlock = some k → ¬ q.S k := fun k hk h => (hx.off k (.inr (.inr ⟨s, hs4, c, List.mem_of_getElem? hc, hk⟩))).1 (Gnd.S_A h)
      obtain ⟨xa, xc, hxu⟩ := OX.shape
      obtain ⟨xn, hxn⟩ : ∃ k, c.d.row.length = k := ⟨_, rfl⟩
      rw [hxn] at hxu
      rw [hxu] at e5 OX hcI
      have bl : b < wr.heap.size := ownsRow_lt W1.own b rfl
      have cw0 := hx.xm.has.wset hs4
      rw [unhide Hwv] at cw0
      have gl := hx.xm.has.lt
      have NC : ¬ q.S wr.heap.size := hx.st.new (Nat.le_refl _)
      obtain ⟨gn, hgn⟩ : ∃ B : Bool, c.d.gone = B := ⟨_, rfl⟩
      rw [hgn] at e4
      have o2 : Only (fun _ => False) wr (wr.alloc (.cells #[.string c.d.tab, .bool c.d.key.str, .int .i64 c.d.key.i, .string c.d.key.s, .bool gn, .slice xa xn xc] 285)) := (Only.refl _ wr).alloc _
      have N2 := Has.new wr #[.string c.d.tab, .bool c.d.key.str, .int .i64 c.d.key.i, .string c.d.key.s, .bool gn, .slice xa xn xc] 285
      have HX2 := hide (hx.quiet o2)
      have HOX := hide (OX.keep o2 (fun _ _ h => h))
      have HcI := hide hcI
      have HNC := hide NC
      have HN2 := hide N2
      have HO2 := hide (ho.trans (o2.mono (T := q.S) (fun _ _ h => h.elim)) (fun _ _ h => h))
      have HC := hide (And.intro hc hgn)
      have HL := hide (And.intro la hd)
      clear W1 OX hcI hxu hxn NC N2 hx la hd hc hgn ho
      go_upto_region 5 with fail
      generalize wr.alloc (.cells #[.string c.d.tab, .bool c.d.key.str, .int .i64 c.d.key.i, .string c.d.key.s, .bool gn, .slice xa xn xc] 285) = w2 at *
      have s2 := o2.size
      generalize hkc : wr.heap.size = kc at *
      clear hkc o2 e0 e1 e2 e3 e4 e5 cw0
      have c0 := (unhide HX2).xm.has.c0
      have gl2 := (unhide HX2).xm.has.lt
      have kl2 := (unhide HN2).lt
      have t0 : w2.cell? ⟨kc, 0, none⟩ = some (.string c.d.tab) := (unhide HN2).cell 0
      have t1 : w2.cell? ⟨kc, 1, none⟩ = some (.bool c.d.key.str) := (unhide HN2).cell 1
      have t2 : w2.cell? ⟨kc, 2, none⟩ = some (.int .i64 c.d.key.i) := (unhide HN2).cell 2
      have t3 : w2.cell? ⟨kc, 3, none⟩ = some (.string c.d.key.s) := (unhide HN2).cell 3
      have t4 : w2.cell? ⟨kc, 4, none⟩ = some (.bool gn) := (unhide HN2).cell 4
      have t5 : w2.cell? ⟨kc, 5, none⟩ = some (.slice xa xn xc) := (unhide HN2).cell 5
      cases gn with
      | false =>
        have HA := hide (show ApI q w g x X (seeD (gnW ((X.ws s).take (p + 1))) D) w2.drew from ⟨S1, T1, (unhide HX2).quiet ((Only.refl (fun _ => False) w2).drew), (unhide HL).1, by rw [gnW_snoc (unhide HC).1, (unhide HC).2]; exact (unhide HL).2, (unhide HO2).drew⟩)
        clear c0 t0 t1 t2 t3 t5
        go_region
        go_wp2_with fail
        go_roundw
        case rel => exact ⟨p + 1, by go_num, by omega, unhide HA⟩
        case measure => simp [intOf]; omega
      | true =>
        have e3 := ap1 (unhide HG).2 (unhide HG).1 (unhide HC).1 (unhide HC).2
        obtain ⟨tt, _, _, kk⟩ := (unhide HG).2.o.ok c (List.mem_of_getElem? (unhide HC).1)
        have C3 := edelete_open ((unhide HX2).st.quiet ((Only.refl (fun _ => False) w2).drew)) (unhide HL).1 c.d.tab c.d.key kk.wf
        rw [(unhide HL).2, e3] at C3
        clear e3 kk
        obtain ⟨D2, hD2⟩ : ∃ D2, seeD (gnW ((X.ws s).take (p + 1))) D = D2 := ⟨_, rfl⟩
        rw [hD2] at C3
        have HD2 := hide hD2
        clear hD2
        unfold vlA DbQ at C3
        have C3 := hide C3
        · clear t5
          refine wp_region_held_drew (S := (fun w' => w'.cell? ⟨g, 0, none⟩ = some (.pointer (some ⟨x, 0, none⟩)) ∧ w'.cell? ⟨kc, 0, none⟩ = some (.string c.d.tab) ∧ w'.cell? ⟨kc, 1, none⟩ = some (.bool c.d.key.str) ∧ w'.cell? ⟨kc, 2, none⟩ = some (.int .i64 c.d.key.i) ∧ w'.cell? ⟨kc, 3, none⟩ = some (.string c.d.key.s) ∧ w'.cell? ⟨kc, 4, none⟩ = some (.bool true))) (by kernel_rfl) ⟨c0, t0, t1, t2, t3, t4⟩ (fun hH0 => ?_)
          refine takeH 0 30 (v := ?va1) rfl rfl (by kernel_rfl) (by kernel_rfl) (by kernel_rfl) (fun _ _ _ h => h) (Or.inl ⟨by rfl, ?ha1⟩) hH0 ?ra1
          case ha1 => (intro w hSw; clear hSw; go_simp; (try with_reducible rfl))
          case ra1 =>
          try simp only [Act.put, List.setIfInBounds_toArray, List.set_cons_zero, List.set_cons_succ]
          refine takeH 1 31 (v := ?va2) rfl rfl (by kernel_rfl) (by kernel_rfl) (by kernel_rfl) (fun _ _ _ h => h) (Or.inl ⟨by rfl, ?ha2⟩) hH0 ?ra2
          case ha2 => (intro w hSw; obtain ⟨s0, s1, s2, s3, s4, s5⟩ := hSw; go_simp; (try with_reducible rfl))
          case ra2 =>
          try simp only [Act.put, List.setIfInBounds_toArray, List.set_cons_zero, List.set_cons_succ]
          refine takeH 2 32 (v := ?va3) rfl rfl (by kernel_rfl) (by kernel_rfl) (by kernel_rfl) (fun _ _ _ h => h) (Or.inl ⟨by rfl, ?ha3⟩) hH0 ?ra3
          case ha3 => (intro w hSw; clear hSw; go_simp; (try with_reducible rfl))
          case ra3 =>
          try simp only [Act.put, List.setIfInBounds_toArray, List.set_cons_zero, List.set_cons_succ]
          refine takeH 3 33 (v := ?va4) rfl rfl (by kernel_rfl) (by kernel_rfl) (by kernel_rfl) (fun _ _ _ h => h) (Or.inl ⟨by rfl, ?ha4⟩) hH0 ?ra4
          case ha4 => (intro w hSw; clear hSw; go_simp; (try with_reducible rfl))
          case ra4 =>
          try simp only [Act.put, List.setIfInBounds_toArray, List.set_cons_zero, List.set_cons_succ]
          refine takeH 4 34 (v := ?va5) rfl rfl (by kernel_rfl) (by kernel_rfl) (by kernel_rfl) (fun _ _ _ h => h) (Or.inl ⟨by rfl, ?ha5⟩) hH0 ?ra5
          case ha5 => (intro w hSw; clear hSw; go_simp; (try with_reducible rfl))
          case ra5 =>
          try simp only [Act.put, List.setIfInBounds_toArray, List.set_cons_zero, List.set_cons_succ]
          refine takeH 5 35 (v := ?va6) rfl rfl (by kernel_rfl) (by kernel_rfl) (by kernel_rfl) (fun _ _ _ h => h) (Or.inl ⟨by rfl, ?ha6⟩) hH0 ?ra6
          case ha6 => (intro w hSw; clear hSw; go_simp; (try with_reducible rfl))
          case ra6 =>
          try simp only [Act.put, List.setIfInBounds_toArray, List.set_cons_zero, List.set_cons_succ]
          refine takeH 6 36 (v := ?va7) rfl rfl (by kernel_rfl) (by kernel_rfl) (by kernel_rfl) (fun _ _ _ h => h) (Or.inl ⟨by rfl, ?ha7⟩) hH0 ?ra7
          case ha7 => (intro w hSw; obtain ⟨s0, s1, s2, s3, s4, s5⟩ := hSw; go_simp; (try with_reducible rfl))
          case ra7 =>
          try simp only [Act.put, List.setIfInBounds_toArray, List.set_cons_zero, List.set_cons_succ]
          refine takeH 7 37 (v := ?va8) rfl rfl (by kernel_rfl) (by kernel_rfl) (by kernel_rfl) (fun _ _ _ h => h) (Or.inl ⟨by rfl, ?ha8⟩) hH0 ?ra8
          case ha8 => (intro w hSw; clear hSw; go_simp; (try with_reducible rfl))
          case ra8 =>
          try simp only [Act.put, List.setIfInBounds_toArray, List.set_cons_zero, List.set_cons_succ]
          refine takeH 8 38 (v := ?va9) rfl rfl (by kernel_rfl) (by kernel_rfl) (by kernel_rfl) (fun _ _ _ h => h) (Or.inl ⟨by rfl, ?ha9⟩) hH0 ?ra9
          case ha9 => (intro w hSw; obtain ⟨s0, s1, s2, s3, s4, s5⟩ := hSw; go_simp; (try with_reducible rfl))
          case ra9 =>
          try simp only [Act.put, List.setIfInBounds_toArray, List.set_cons_zero, List.set_cons_succ]
          refine takeH 9 39 (v := ?va10) rfl rfl (by kernel_rfl) (by kernel_rfl) (by kernel_rfl) (fun _ _ _ h => h) (Or.inl ⟨by rfl, ?ha10⟩) hH0 ?ra10
          case ha10 => (intro w hSw; clear hSw; go_simp; (try with_reducible rfl))
          case ra10 =>
          try simp only [Act.put, List.setIfInBounds_toArray, List.set_cons_zero, List.set_cons_succ]
          refine takeH 10 40 (v := ?va11) rfl rfl (by kernel_rfl) (by kernel_rfl) (by kernel_rfl) (fun _ _ _ h => h) (Or.inl ⟨by rfl, ?ha11⟩) hH0 ?ra11
          case ha11 => (intro w hSw; obtain ⟨s0, s1, s2, s3, s4, s5⟩ := hSw; go_simp; (try with_reducible rfl))
          case ra11 =>
          try simp only [Act.put, List.setIfInBounds_toArray, List.set_cons_zero, List.set_cons_succ]
          refine callHg 11 (by kernel_rfl) rfl 41 rfl (by rfl) 225 Tryz.func225 (by kernel_rfl) (by kernel_rfl) #[.tmp 36, .tmp 38, .tmp 40] #[67, 9, 152] rfl #[.pointer (some ⟨x, 0, none⟩), .string c.d.tab, .agg #[.bool c.d.key.str, .int .i64 c.d.key.i, .string c.d.key.s]] (by simp [Act.eval]) (R := fun v w' => v = .int .i64 0 ∧ (∃ S2 T2, ST q w' x true S2 ∧ Lay S2 T2 ∧ dbOf T2 = D2) ∧ Only q.S w2.drew w') ((unhide C3).mono (by rintro en w' ⟨rfl, ⟨S2, T2, hs1, hs2, hs3⟩, o⟩; exact ⟨_, rfl, rfl, ⟨S2, T2, hs1, hs2, hs3⟩, o⟩)) ?ka
          case ka =>
          rintro _ w6 ⟨rfl, hs, oq⟩
          have S6 : w6.cell? ⟨g, 0, none⟩ = some (.pointer (some ⟨x, 0, none⟩)) ∧ w6.cell? ⟨kc, 0, none⟩ = some (.string c.d.tab) ∧ w6.cell? ⟨kc, 1, none⟩ = some (.bool c.d.key.str) ∧ w6.cell? ⟨kc, 2, none⟩ = some (.int .i64 c.d.key.i) ∧ w6.cell? ⟨kc, 3, none⟩ = some (.string c.d.key.s) ∧ w6.cell? ⟨kc, 4, none⟩ = some (.bool true) := ⟨cell_keepX (hH0.1) oq (unhide HNG), cell_keepX (hH0.2.1) oq (unhide HNC), cell_keepX (hH0.2.2.1) oq (unhide HNC), cell_keepX (hH0.2.2.2.1) oq (unhide HNC), cell_keepX (hH0.2.2.2.2.1) oq (unhide HNC), cell_keepX (hH0.2.2.2.2.2) oq (unhide HNC)⟩
          refine ⟨S6, ?_⟩
          try simp only [Act.put, List.setIfInBounds_toArray, List.set_cons_zero, List.set_cons_succ]
          refine takeH 12 42 (v := ?va12) rfl rfl (by kernel_rfl) (by kernel_rfl) (by kernel_rfl) (fun _ _ _ h => h) (Or.inl ⟨by rfl, ?ha12⟩) S6 ?ra12
          case ha12 => (intro w hSw; clear hSw; go_simp; (try with_reducible rfl))
          case ra12 =>
          try simp only [Act.put, List.setIfInBounds_toArray, List.set_cons_zero, List.set_cons_succ]
          refine takeH 13 43 (v := ?va13) rfl rfl (by kernel_rfl) (by kernel_rfl) (by kernel_rfl) (fun _ _ _ h => h) (Or.inl ⟨by rfl, ?ha13⟩) S6 ?ra13
          case ha13 => (intro w hSw; clear hSw; go_simp; (try with_reducible rfl))
          case ra13 =>
          try simp only [Act.put, List.setIfInBounds_toArray, List.set_cons_zero, List.set_cons_succ]
          refine wpAnyH_done (by kernel_rfl) ?_ _
          have HF := hide (And.intro hs ((((Only.refl (fun _ => False) w2).drew).mono (fun _ _ e => e.elim)).trans oq (fun _ _ e => e) : Only q.S w2 w6))
          clear hH0 S6 oq
          have HA := hide (show ApI q w g x X (seeD (gnW ((X.ws s).take (p + 1))) D) w6 from by
            obtain ⟨⟨S2, T2, k1, k2, k3⟩, o6⟩ := unhide HF
            exact ⟨S2, T2, (unhide HX2).turn k1 o6, k2, by rw [k3, unhide HD2], (unhide HO2).trans o6 (fun _ _ h => h)⟩)
          clear hs
          go_wp2_with fail
          go_roundw
          case rel => exact ⟨p + 1, by go_num, by omega, unhide HA⟩
          case measure => simp [intOf]; omega
    · obtain rfl : p = n := by omega
      have a2 : decide ((p : Int) < (p : Int)) = false := decide_eq_false (by omega)
      have cw0 := (show ∃ S T, XR q wr g x X true S ∧ _ from A)
      obtain ⟨S1, T1, hx, la, hd, ho⟩ := A
      have cw0 := hx.xm.has.wset hs4
      rw [unhide Hwv] at cw0
      have gl := hx.xm.has.lt
      have HA := hide (show ApI q w g x X (seeD (gnW (X.ws s) ++ rwW ((X.ws s).take 0)) D) wr from ⟨S1, T1, hx, la, by
        rw [List.take_zero]
        show _ = seeD (gnW (X.ws s) ++ []) D
        rw [List.append_nil, hd, ← unhide Hn, List.take_length], ho⟩)
      clear hx la hd ho
      go_upto_region 8 with fail
      clear cw0 a2
      generalize hwr : wr = w1 at *
      clear hwr
      go_loopw [7, 8, 9] (fun pv _ _ wr => ∃ i : Nat, pv = .int .i64 i ∧ i ≤ p ∧ ApI q w g x X (seeD (gnW (X.ws s) ++ rwW ((X.ws s).take i)) D) wr) (fun pv _ _ _ => p + 1 - (intOf pv).toNat)
      case atStart => exact ⟨0, rfl, Nat.zero_le _, unhide HA⟩
      case round =>
        clear HA
        obtain ⟨i, rfl, hi, A⟩ := hrel
        by_cases hin : i < p
        · have a2 : decide ((i : Int) < (p : Int)) = true := decide_eq_true (by omega)
          have a2p : (i : Int) < (p : Int) := by omega
          obtain ⟨S1, T1, hx, la, hd, ho⟩ := A
          obtain ⟨c, hc⟩ := getE (l := X.ws s) (i := i) (by rw [unhide Hn]; exact hin)
          have W1 := hx.xm.ws s hs4
          rw [unhide Hwv] at W1
          obtain ⟨b, rfl, e0, e1, e2, e3, e4, e5⟩ := W1.at_ hc
          have OX := W1.row c (List.mem_of_getElem? hc)
          have hcI : ∀ k, c.u.ownBlock = some k → ¬ q.S k := fun k hk h => (hx.off k (.inr (.inr ⟨s, hs4, c, List.mem_of_getElem? hc, hk⟩))).1 (Gnd.S_A h)
          obtain ⟨xa, xc, hxu⟩ := OX.shape
          obtain ⟨xn, hxn⟩ : ∃ k, c.d.row.length = k := ⟨_, rfl⟩
          rw [hxn] at hxu
          rw [hxu] at e5 OX hcI
          have bl : b < wr.heap.size := ownsRow_lt W1.own b rfl
          have cw0 := hx.xm.has.wset hs4
          rw [unhide Hwv] at cw0
          have gl := hx.xm.has.lt
          have NC : ¬ q.S wr.heap.size := hx.st.new (Nat.le_refl _)
          obtain ⟨gn, hgn⟩ : ∃ B : Bool, c.d.gone = B := ⟨_, rfl⟩
          rw [hgn] at e4
          have o2 : Only (fun _ => False) wr (wr.alloc (.cells #[.string c.d.tab, .bool c.d.key.str, .int .i64 c.d.key.i, .string c.d.key.s, .bool gn, .slice xa xn xc] 285)) := (Only.refl _ wr).alloc _
          have N2 := Has.new wr #[.string c.d.tab, .bool c.d.key.str, .int .i64 c.d.key.i, .string c.d.key.s, .bool gn, .slice xa xn xc] 285
          have HX2 := hide (hx.quiet o2)
          have HOX := hide (OX.keep o2 (fun _ _ h => h))
          have HcI := hide hcI
          have HNC := hide NC
          have HN2 := hide N2
          have HO2 := hide (ho.trans (o2.mono (T := q.S) (fun _ _ h => h.elim)) (fun _ _ h => h))
          have HC := hide (And.intro hc hgn)
          have HL := hide (And.intro la hd)
          clear W1 OX hcI hxu hxn NC N2 hx la hd hc hgn ho
          go_upto_region 11 with fail
          generalize wr.alloc (.cells #[.string c.d.tab, .bool c.d.key.str, .int .i64 c.d.key.i, .string c.d.key.s, .bool gn, .slice xa xn xc] 285) = w2 at *
          have s2 := o2.size
          generalize hkc : wr.heap.size = kc at *
          clear hkc o2 e0 e1 e2 e3 e4 e5 cw0
          have c0 := (unhide HX2).xm.has.c0
          have gl2 := (unhide HX2).xm.has.lt
          have kl2 := (unhide HN2).lt
          have t0 : w2.cell? ⟨kc, 0, none⟩ = some (.string c.d.tab) := (unhide HN2).cell 0
          have t1 : w2.cell? ⟨kc, 1, none⟩ = some (.bool c.d.key.str) := (unhide HN2).cell 1
          have t2 : w2.cell? ⟨kc, 2, none⟩ = some (.int .i64 c.d.key.i) := (unhide HN2).cell 2
          have t3 : w2.cell? ⟨kc, 3, none⟩ = some (.string c.d.key.s) := (unhide HN2).cell 3
          have t4 : w2.cell? ⟨kc, 4, none⟩ = some (.bool gn) := (unhide HN2).cell 4
          have t5 : w2.cell? ⟨kc, 5, none⟩ = some (.slice xa xn xc) := (unhide HN2).cell 5
          cases gn with
          | true =>
            have HA := hide (show ApI q w g x X (seeD (gnW (X.ws s) ++ rwW ((X.ws s).take (i + 1))) D) w2 from ⟨S1, T1, unhide HX2, (unhide HL).1, by rw [rwW_snoc (unhide HC).1, (unhide HC).2]; exact (unhide HL).2, unhide HO2⟩)
            clear c0 t0 t1 t2 t3 t5
            go_wp2_with fail
            go_roundw
            case rel => exact ⟨i + 1, by go_num, by omega, unhide HA⟩
            case measure => simp [intOf]; omega
          | false =>
            have e3 := ap2 (unhide HG).2 (unhide HG).1 (unhide HC).1 (unhide HC).2
            obtain ⟨tt, htt, _, kk⟩ := (unhide HG).2.o.ok c (List.mem_of_getElem? (unhide HC).1)
            have C3 := xbelow_any (unhide HX2) (unhide HL).1 c.d.tab c.d.key kk.wf
            rw [(unhide HL).2] at C3
            have hrw : (∀ v ∈ c.d.row, v.wf) ∧ c.d.row.length ≤ 4 := by
              have hk := (kk.row (unhide HC).2).1
              refine ⟨fun v hv => (hk.2 v hv).1, ?_⟩
              rw [hk.len]
              have := ((unhide HG).1.tb tt htt).n3
              omega
            obtain ⟨bw, hbw⟩ : ∃ B : Bool, blwP (seeD (gnW (X.ws s) ++ rwW ((X.ws s).take i)) D) c.d.tab c.d.key = B := ⟨_, rfl⟩
            rw [hbw] at C3 e3
            unfold vlA at C3
            have C3 := hide C3
            have HE := hide e3
            have HR := hide hrw
            clear e3 hrw kk hbw
            go_wp2_with fail
            refine (unhide C3).mono ?_
            rintro e w4 ⟨rfl, hx4, o4⟩
            have N4 := (unhide HN2).keep o4 (unhide HNC)
            have HOX4 := hide ((unhide HOX).keep o4 (unhide HcI))
            have HO4 := hide ((unhide HO2).trans o4 (fun _ _ h => h))
            have c0 := hx4.xm.has.c0
            have gl4 := hx4.xm.has.lt
            have kl4 := N4.lt
            have t0 : w4.cell? ⟨kc, 0, none⟩ = some (.string c.d.tab) := N4.cell 0
            have t4 : w4.cell? ⟨kc, 4, none⟩ = some (.bool false) := N4.cell 4
            have t5 : w4.cell? ⟨kc, 5, none⟩ = some (.slice xa xn xc) := N4.cell 5
            have HX4 := hide hx4
            obtain ⟨D2, hD2⟩ : ∃ D2, seeD (gnW (X.ws s) ++ rwW ((X.ws s).take (i + 1))) D = D2 := ⟨_, rfl⟩
            have HD2 := hide hD2
            have E2 := unhide HE
            rw [hD2] at E2
            unfold wrD at E2
            have st4 := hx4.st.quiet ((Only.refl (fun _ => False) w4).drew)
            have OX4 := (unhide HOX4).keep ((Only.refl (fun _ => False) w4).drew) (fun _ _ h => h)
            clear C3 hx4 o4 N4 hD2 HX2 HO2 HOX HN2
            cases bw with
            | true =>
              rw [if_neg (by simp)] at E2
              have C5 := eupdate_open st4 (unhide HL).1 c.d.tab OX4 (unhide HcI) (unhide HR).1 (unhide HR).2
              rw [(unhide HL).2, E2] at C5
              unfold DbQ at C5
              have C5 := hide C5
              clear E2 st4 OX4
              go_upto_region 13 with fail
              refine wp_region_held_drew (S := (fun w' => w'.cell? ⟨g, 0, none⟩ = some (.pointer (some ⟨x, 0, none⟩)) ∧ w'.cell? ⟨kc, 0, none⟩ = some (.string c.d.tab) ∧ w'.cell? ⟨kc, 5, none⟩ = some (.slice xa xn xc))) (by kernel_rfl) ⟨c0, t0, t5⟩ (fun hH0 => ?_)
              refine takeH 0 75 (v := ?vu1) rfl rfl (by kernel_rfl) (by kernel_rfl) (by kernel_rfl) (fun _ _ _ h => h) (Or.inl ⟨by rfl, ?hu1⟩) hH0 ?ru1
              case hu1 => (intro w hSw; clear hSw; go_simp; (try with_reducible rfl))
              case ru1 =>
              try simp only [Act.put, List.setIfInBounds_toArray, List.set_cons_zero, List.set_cons_succ]
              refine takeH 1 76 (v := ?vu2) rfl rfl (by kernel_rfl) (by kernel_rfl) (by kernel_rfl) (fun _ _ _ h => h) (Or.inl ⟨by rfl, ?hu2⟩) hH0 ?ru2
              case hu2 => (intro w hSw; clear hSw; go_simp; (try with_reducible rfl))
              case ru2 =>
              try simp only [Act.put, List.setIfInBounds_toArray, List.set_cons_zero, List.set_cons_succ]
              refine takeH 2 77 (v := ?vu3) rfl rfl (by kernel_rfl) (by kernel_rfl) (by kernel_rfl) (fun _ _ _ h => h) (Or.inl ⟨by rfl, ?hu3⟩) hH0 ?ru3
              case hu3 => (intro w hSw; clear hSw; go_simp; (try with_reducible rfl))
              case ru3 =>
              try simp only [Act.put, List.setIfInBounds_toArray, List.set_cons_zero, List.set_cons_succ]
              refine takeH 3 78 (v := ?vu4) rfl rfl (by kernel_rfl) (by kernel_rfl) (by kernel_rfl) (fun _ _ _ h => h) (Or.inl ⟨by rfl, ?hu4⟩) hH0 ?ru4
              case hu4 => (intro w hSw; obtain ⟨s0, s1, s2⟩ := hSw; go_simp; (try with_reducible rfl))
              case ru4 =>
              try simp only [Act.put, List.setIfInBounds_toArray, List.set_cons_zero, List.set_cons_succ]
              refine takeH 4 79 (v := ?vu5) rfl rfl (by kernel_rfl) (by kernel_rfl) (by kernel_rfl) (fun _ _ _ h => h) (Or.inl ⟨by rfl, ?hu5⟩) hH0 ?ru5
              case hu5 => (intro w hSw; clear hSw; go_simp; (try with_reducible rfl))
              case ru5 =>
              try simp only [Act.put, List.setIfInBounds_toArray, List.set_cons_zero, List.set_cons_succ]
              refine takeH 5 80 (v := ?vu6) rfl rfl (by kernel_rfl) (by kernel_rfl) (by kernel_rfl) (fun _ _ _ h => h) (Or.inl ⟨by rfl, ?hu6⟩) hH0 ?ru6
              case hu6 => (intro w hSw; obtain ⟨s0, s1, s2⟩ := hSw; go_simp; (try with_reducible rfl))
              case ru6 =>
              try simp only [Act.put, List.setIfInBounds_toArray, List.set_cons_zero, List.set_cons_succ]
              refine takeH 6 81 (v := ?vu7) rfl rfl (by kernel_rfl) (by kernel_rfl) (by kernel_rfl) (fun _ _ _ h => h) (Or.inl ⟨by rfl, ?hu7⟩) hH0 ?ru7
              case hu7 => (intro w hSw; clear hSw; go_simp; (try with_reducible rfl))
              case ru7 =>
              try simp only [Act.put, List.setIfInBounds_toArray, List.set_cons_zero, List.set_cons_succ]
              refine takeH 7 82 (v := ?vu8) rfl rfl (by kernel_rfl) (by kernel_rfl) (by kernel_rfl) (fun _ _ _ h => h) (Or.inl ⟨by rfl, ?hu8⟩) hH0 ?ru8
              case hu8 => (intro w hSw; obtain ⟨s0, s1, s2⟩ := hSw; go_simp; (try with_reducible rfl))
              case ru8 =>
              try simp only [Act.put, List.setIfInBounds_toArray, List.set_cons_zero, List.set_cons_succ]
              refine callH 8 (by kernel_rfl) rfl 83 rfl rfl 227 Tryz.func227 (by kernel_rfl) (by kernel_rfl) #[.tmp 78, .tmp 80, .tmp 82] #[67, 9, 95] rfl #[.pointer (some ⟨x, 0, none⟩), .string c.d.tab, .slice xa xn xc] (by simp [Act.eval]) (R := fun v w' => v = .int .i64 0 ∧ (∃ S2 T2, ST q w' x true S2 ∧ Lay S2 T2 ∧ dbOf T2 = D2) ∧ Only q.S w4.drew w') ((unhide C5).mono (by rintro en w' ⟨rfl, ⟨S2, T2, hs1, hs2, hs3⟩, o⟩; exact ⟨_, rfl, rfl, ⟨S2, T2, hs1, hs2, hs3⟩, o⟩)) ?ku
              case ku =>
              rintro _ w6 ⟨rfl, hs, oq⟩
              have S6 : w6.cell? ⟨g, 0, none⟩ = some (.pointer (some ⟨x, 0, none⟩)) ∧ w6.cell? ⟨kc, 0, none⟩ = some (.string c.d.tab) ∧ w6.cell? ⟨kc, 5, none⟩ = some (.slice xa xn xc) := ⟨cell_keepX (hH0.1) oq (unhide HNG), cell_keepX (hH0.2.1) oq (unhide HNC), cell_keepX (hH0.2.2) oq (unhide HNC)⟩
              refine ⟨S6, ?_⟩
              try simp only [Act.put, List.setIfInBounds_toArray, List.set_cons_zero, List.set_cons_succ]
              refine takeH 9 9 (v := ?vu9) rfl rfl (by kernel_rfl) (by kernel_rfl) (by kernel_rfl) (fun _ _ _ h => h) (Or.inl ⟨by rfl, ?hu9⟩) S6 ?ru9
              case hu9 => (intro w hSw; clear hSw; go_simp; (try with_reducible rfl))
              case ru9 =>
              try simp only [Act.put, List.setIfInBounds_toArray, List.set_cons_zero, List.set_cons_succ]
              refine wpAnyH_done (by kernel_rfl) ?_ _
              have HF := hide (And.intro hs ((((Only.refl (fun _ => False) w4).drew).mono (fun _ _ e => e.elim)).trans oq (fun _ _ e => e) : Only q.S w4 w6))
              clear hH0 S6 oq
              have HA := hide (show ApI q w g x X (seeD (gnW (X.ws s) ++ rwW ((X.ws s).take (i + 1))) D) w6 from by
                obtain ⟨⟨S2, T2, k1, k2, k3⟩, o6⟩ := unhide HF
                exact ⟨S2, T2, (unhide HX4).turn k1 o6, k2, by rw [k3, unhide HD2], (unhide HO4).trans o6 (fun _ _ h => h)⟩)
              clear hs
              go_wp2_with fail
              go_roundw
              case rel => exact ⟨i + 1, by go_num, by omega, unhide HA⟩
              case measure => simp [intOf]; omega
            | false =>
              rw [if_pos (by simp)] at E2
              have C5 := einsert_open st4 (unhide HL).1 c.d.tab OX4 (unhide HcI) (unhide HR).1 (unhide HR).2
              rw [(unhide HL).2, E2] at C5
              unfold DbQ at C5
              have C5 := hide C5
              clear E2 st4 OX4
              go_upto_region 15 with fail
              refine wp_region_held_drew (S := (fun w' => w'.cell? ⟨g, 0, none⟩ = some (.pointer (some ⟨x, 0, none⟩)) ∧ w'.cell? ⟨kc, 0, none⟩ = some (.string c.d.tab) ∧ w'.cell? ⟨kc, 5, none⟩ = some (.slice xa xn xc))) (by kernel_rfl) ⟨c0, t0, t5⟩ (fun hH0 => ?_)
              refine takeH 0 87 (v := ?vi1) rfl rfl (by kernel_rfl) (by kernel_rfl) (by kernel_rfl) (fun _ _ _ h => h) (Or.inl ⟨by rfl, ?hi1⟩) hH0 ?ri1
              case hi1 => (intro w hSw; clear hSw; go_simp; (try with_reducible rfl))
              case ri1 =>
              try simp only [Act.put, List.setIfInBounds_toArray, List.set_cons_zero, List.set_cons_succ]
              refine takeH 1 88 (v := ?vi2) rfl rfl (by kernel_rfl) (by kernel_rfl) (by kernel_rfl) (fun _ _ _ h => h) (Or.inl ⟨by rfl, ?hi2⟩) hH0 ?ri2
              case hi2 => (intro w hSw; clear hSw; go_simp; (try with_reducible rfl))
              case ri2 =>
              try simp only [Act.put, List.setIfInBounds_toArray, List.set_cons_zero, List.set_cons_succ]
              refine takeH 2 89 (v := ?vi3) rfl rfl (by kernel_rfl) (by kernel_rfl) (by kernel_rfl) (fun _ _ _ h => h) (Or.inl ⟨by rfl, ?hi3⟩) hH0 ?ri3
              case hi3 => (intro w hSw; clear hSw; go_simp; (try with_reducible rfl))
              case ri3 =>
              try simp only [Act.put, List.setIfInBounds_toArray, List.set_cons_zero, List.set_cons_succ]
              refine takeH 3 90 (v := ?vi4) rfl rfl (by kernel_rfl) (by kernel_rfl) (by kernel_rfl) (fun _ _ _ h => h) (Or.inl ⟨by rfl, ?hi4⟩) hH0 ?ri4
              case hi4 => (intro w hSw; obtain ⟨s0, s1, s2⟩ := hSw; go_simp; (try with_reducible rfl))
              case ri4 =>
              try simp only [Act.put, List.setIfInBounds_toArray, List.set_cons_zero, List.set_cons_succ]
              refine takeH 4 91 (v := ?vi5) rfl rfl (by kernel_rfl) (by kernel_rfl) (by kernel_rfl) (fun _ _ _ h => h) (Or.inl ⟨by rfl, ?hi5⟩) hH0 ?ri5
              case hi5 => (intro w hSw; clear hSw; go_simp; (try with_reducible rfl))
              case ri5 =>
              try simp only [Act.put, List.setIfInBounds_toArray, List.set_cons_zero, List.set_cons_succ]
              refine takeH 5 92 (v := ?vi6) rfl rfl (by kernel_rfl) (by kernel_rfl) (by kernel_rfl) (fun _ _ _ h => h) (Or.inl ⟨by rfl, ?hi6⟩) hH0 ?ri6
              case hi6 => (intro w hSw; obtain ⟨s0, s1, s2⟩ := hSw; go_simp; (try with_reducible rfl))
              case ri6 =>
              try simp only [Act.put, List.setIfInBounds_toArray, List.set_cons_zero, List.set_cons_succ]
              refine takeH 6 93 (v := ?vi7) rfl rfl (by kernel_rfl) (by kernel_rfl) (by kernel_rfl) (fun _ _ _ h => h) (Or.inl ⟨by rfl, ?hi7⟩) hH0 ?ri7
              case hi7 => (intro w hSw; clear hSw; go_simp; (try with_reducible rfl))
              case ri7 =>
              try simp only [Act.put, List.setIfInBounds_toArray, List.set_cons_zero, List.set_cons_succ]
              refine takeH 7 94 (v := ?vi8) rfl rfl (by kernel_rfl) (by kernel_rfl) (by kernel_rfl) (fun _ _ _ h => h) (Or.inl ⟨by rfl, ?hi8⟩) hH0 ?ri8
              case hi8 => (intro w hSw; obtain ⟨s0, s1, s2⟩ := hSw; go_simp; (try with_reducible rfl))
              case ri8 =>
              try simp only [Act.put, List.setIfInBounds_toArray, List.set_cons_zero, List.set_cons_succ]
              refine callH 8 (by kernel_rfl) rfl 95 rfl rfl 228 Tryz.func228 (by kernel_rfl) (by kernel_rfl) #[.tmp 90, .tmp 92, .tmp 94] #[67, 9, 95] rfl #[.pointer (some ⟨x, 0, none⟩), .string c.d.tab, .slice xa xn xc] (by simp [Act.eval]) (R := fun v w' => v = .int .i64 0 ∧ (∃ S2 T2, ST q w' x true S2 ∧ Lay S2 T2 ∧ dbOf T2 = D2) ∧ Only q.S w4.drew w') ((unhide C5).mono (by rintro en w' ⟨rfl, ⟨S2, T2, hs1, hs2, hs3⟩, o⟩; exact ⟨_, rfl, rfl, ⟨S2, T2, hs1, hs2, hs3⟩, o⟩)) ?ki
              case ki =>
              rintro _ w6 ⟨rfl, hs, oq⟩
              have S6 : w6.cell? ⟨g, 0, none⟩ = some (.pointer (some ⟨x, 0, none⟩)) ∧ w6.cell? ⟨kc, 0, none⟩ = some (.string c.d.tab) ∧ w6.cell? ⟨kc, 5, none⟩ = some (.slice xa xn xc) := ⟨cell_keepX (hH0.1) oq (unhide HNG), cell_keepX (hH0.2.1) oq (unhide HNC), cell_keepX (hH0.2.2) oq (unhide HNC)⟩
              refine ⟨S6, ?_⟩
              try simp only [Act.put, List.setIfInBounds_toArray, List.set_cons_zero, List.set_cons_succ]
              refine takeH 9 9 (v := ?vi9) rfl rfl (by kernel_rfl) (by kernel_rfl) (by kernel_rfl) (fun _ _ _ h => h) (Or.inl ⟨by rfl, ?hi9⟩) S6 ?ri9
              case hi9 => (intro w hSw; clear hSw; go_simp; (try with_reducible rfl))
              case ri9 =>
              try simp only [Act.put, List.setIfInBounds_toArray, List.set_cons_zero, List.set_cons_succ]
              refine wpAnyH_done (by kernel_rfl) ?_ _
              have HF := hide (And.intro hs ((((Only.refl (fun _ => False) w4).drew).mono (fun _ _ e => e.elim)).trans oq (fun _ _ e => e) : Only q.S w4 w6))
              clear hH0 S6 oq
              have HA := hide (show ApI q w g x X (seeD (gnW (X.ws s) ++ rwW ((X.ws s).take (i + 1))) D) w6 from by
                obtain ⟨⟨S2, T2, k1, k2, k3⟩, o6⟩ := unhide HF
                exact ⟨S2, T2, (unhide HX4).turn k1 o6, k2, by rw [k3, unhide HD2], (unhide HO4).trans o6 (fun _ _ h => h)⟩)
              clear hs
              go_wp2_with fail
              go_roundw
              case rel => exact ⟨i + 1, by go_num, by omega, unhide HA⟩
              case measure => simp [intOf]; omega
        · obtain rfl : i = p := by omega
          have a2 : decide ((i : Int) < (i : Int)) = false := decide_eq_false (by omega)
          obtain ⟨S1, T1, hx, la, hd, ho⟩ := A
          have cw0 := hx.xm.has.wset hs4
          rw [unhide Hwv] at cw0
          have gl := hx.xm.has.lt
          have HA := hide (show ApI q w g x X (seeD (X.ws s) D) wr from ⟨S1, T1, hx, la, by
            rw [hd, ← unhide Hn, List.take_length]
            exact ap_end (unhide HG).2 (unhide HG).1, ho⟩)
          clear hx la hd ho
          go_wp2_with fail
          go_ret
          exact ⟨rfl, unhide HA⟩
end
end Go.Proofs.Qxb6500412aGreat
