/-
  OWN WORK. TXN, Keeps: Lasts (written by tools/gen_xkl.py).
-/
import Derived.Test.Qxb6500414aGreatXKP3
import Derived.Test.Qxb6500414aGreatXMu0
namespace Go.Proofs.Qxb6500414aGreat
open Go.RowKit Go.PlainAid
set_option linter.unusedSimpArgs false
set_option linter.unusedVariables false
/-- What Lasts answers. -/
def LaP (w : World) (M : Mu) (D : Db) (e : Ending) (w' : World) : Prop := ∃ b, e = .returned (.bool b) ∧ (M.com = D → b = true) ∧ Only (fun _ => False) w w'
section
variable {lo : Nat} {w w' : World} {k k2 : Nat} {M N : Mu} {s t : Nat} {T : Tb} {D : Db}
theorem lasts_rows (ok : MuOk M) (h : M.com = D) (fr : Nat) (hf4 : fr < 4) (hl : M.lk fr T.nm ≠ 2) (s : Nat) : (Mu0 D).rows s T.nm = M.rows fr T.nm := by
  unfold Mu.rows
  rw [ok.out fr _ hf4 hl, h]
  rfl
theorem LaP.no (ok : MuOk M) (o : Only (fun _ => False) w w') (h : M.com ≠ D) : LaP w M D (.returned (.bool false)) w' := ⟨false, rfl, fun e => absurd e h, o⟩
theorem LaP.yes (o : Only (fun _ => False) w w') : LaP w M D (.returned (.bool true)) w' := ⟨true, rfl, fun _ => rfl, o⟩
set_option maxRecDepth 100000 in
set_option maxHeartbeats 4000000 in
theorem xllasts_any (H : Sht lo w k M) (H2 : Sht lo w k2 (Mu0 D)) (ok : MuOk M) (hB2 : MuB (Mu0 D)) : Calls Tryz.prog 23 #[.pointer (some ⟨k, 0, none⟩), .pointer (some ⟨k2, 0, none⟩)] w (LaP w M D) := by
  have hB := ok.mub
  obtain ⟨pa, pc, p0, pO⟩ := H.names
  obtain ⟨qa, qc, q0, qO⟩ := H2.names
  have oD : Only (fun _ => False) w w.drew := (Only.refl _ w).drew
  have CN := sameNames_any (w := w.drew) (ownsRow_keep pO oD (fun _ _ e => e)) (ownsRow_keep qO oD (fun _ _ e => e)) (by unfold namesD; rw [List.length_map]; have := hB.len; omega)
  have kl := H.lt
  have kl2 := H2.lt
  obtain ⟨n, hn⟩ : ∃ n, M.com.length = n := ⟨_, rfl⟩
  obtain ⟨m, hm⟩ : ∃ n, (Mu0 D).com.length = n := ⟨_, rfl⟩
  have hl := hB.len
  rw [hn] at hl p0
  rw [hm] at q0
  rw [hn, hm] at CN
  have HH := hide (And.intro H (And.intro H2 (And.intro ok (And.intro hn hm))))
  have HB := hide (And.intro hB hB2)
  clear H H2 ok hB hB2 hn hm pO qO oD
  by_cases hnm : namesD M.com = namesD D
  · have CN := hide (CN true (decide_eq_true hnm))
    have Hnm := hide (show namesD M.com = namesD (Mu0 D).com from hnm)
    clear hnm
    go_enter Tryz.func23, Tryz.ntmps23
    go_upto_region 1 with fail
    refine wp_region_held_drew (S := (fun w' => w'.cell? ⟨k, 0, none⟩ = some (.slice pa n pc) ∧ w'.cell? ⟨k2, 0, none⟩ = some (.slice qa m qc))) (by kernel_rfl) ⟨p0, q0⟩ (fun hH0 => ?_)
    refine takeH 0 9 (v := ?vnt1) rfl rfl (by kernel_rfl) (by kernel_rfl) (by kernel_rfl) (fun _ _ _ h => h) (Or.inl ⟨by rfl, ?hnt1⟩) hH0 ?rnt1
    case hnt1 => (intro w hSw; clear hSw; go_simp; (try with_reducible rfl))
    case rnt1 =>
    try simp only [Act.put, List.setIfInBounds_toArray, List.set_cons_zero, List.set_cons_succ]
    refine takeH 1 10 (v := ?vnt2) rfl rfl (by kernel_rfl) (by kernel_rfl) (by kernel_rfl) (fun _ _ _ h => h) (Or.inl ⟨by rfl, ?hnt2⟩) hH0 ?rnt2
    case hnt2 => (intro w hSw; clear hSw; go_simp; (try with_reducible rfl))
    case rnt2 =>
    try simp only [Act.put, List.setIfInBounds_toArray, List.set_cons_zero, List.set_cons_succ]
    refine takeH 2 11 (v := ?vnt3) rfl rfl (by kernel_rfl) (by kernel_rfl) (by kernel_rfl) (fun _ _ _ h => h) (Or.inl ⟨by rfl, ?hnt3⟩) hH0 ?rnt3
    case hnt3 => (intro w hSw; clear hSw; go_simp; (try with_reducible rfl))
    case rnt3 =>
    try simp only [Act.put, List.setIfInBounds_toArray, List.set_cons_zero, List.set_cons_succ]
    refine takeH 3 12 (v := ?vnt4) rfl rfl (by kernel_rfl) (by kernel_rfl) (by kernel_rfl) (fun _ _ _ h => h) (Or.inl ⟨by rfl, ?hnt4⟩) hH0 ?rnt4
    case hnt4 => (intro w hSw; obtain ⟨s0, s1⟩ := hSw; go_simp; (try with_reducible rfl))
    case rnt4 =>
    try simp only [Act.put, List.setIfInBounds_toArray, List.set_cons_zero, List.set_cons_succ]
    refine takeH 4 13 (v := ?vnt5) rfl rfl (by kernel_rfl) (by kernel_rfl) (by kernel_rfl) (fun _ _ _ h => h) (Or.inl ⟨by rfl, ?hnt5⟩) hH0 ?rnt5
    case hnt5 => (intro w hSw; clear hSw; go_simp; (try with_reducible rfl))
    case rnt5 =>
    try simp only [Act.put, List.setIfInBounds_toArray, List.set_cons_zero, List.set_cons_succ]
    refine takeH 5 14 (v := ?vnt6) rfl rfl (by kernel_rfl) (by kernel_rfl) (by kernel_rfl) (fun _ _ _ h => h) (Or.inl ⟨by rfl, ?hnt6⟩) hH0 ?rnt6
    case hnt6 => (intro w hSw; clear hSw; go_simp; (try with_reducible rfl))
    case rnt6 =>
    try simp only [Act.put, List.setIfInBounds_toArray, List.set_cons_zero, List.set_cons_succ]
    refine takeH 6 15 (v := ?vnt7) rfl rfl (by kernel_rfl) (by kernel_rfl) (by kernel_rfl) (fun _ _ _ h => h) (Or.inl ⟨by rfl, ?hnt7⟩) hH0 ?rnt7
    case hnt7 => (intro w hSw; clear hSw; go_simp; (try with_reducible rfl))
    case rnt7 =>
    try simp only [Act.put, List.setIfInBounds_toArray, List.set_cons_zero, List.set_cons_succ]
    refine takeH 7 16 (v := ?vnt8) rfl rfl (by kernel_rfl) (by kernel_rfl) (by kernel_rfl) (fun _ _ _ h => h) (Or.inl ⟨by rfl, ?hnt8⟩) hH0 ?rnt8
    case hnt8 => (intro w hSw; obtain ⟨s0, s1⟩ := hSw; go_simp; (try with_reducible rfl))
    case rnt8 =>
    try simp only [Act.put, List.setIfInBounds_toArray, List.set_cons_zero, List.set_cons_succ]
    refine callH 8 (by kernel_rfl) rfl 17 rfl rfl 86 Tryz.func86 (by kernel_rfl) (by kernel_rfl) #[.tmp 12, .tmp 16] #[52, 52] rfl #[.slice pa n pc, .slice qa m qc] (by simp [Act.eval]) (R := fun v w' => v = .bool true ∧ Only (fun _ => False) w.drew w') ((unhide CN).mono (by rintro en w' ⟨rfl, o⟩; exact ⟨_, rfl, rfl, o⟩)) ?knt
    case knt =>
    rintro _ w6 ⟨rfl, o6⟩
    have S6 : w6.cell? ⟨k, 0, none⟩ = some (.slice pa n pc) ∧ w6.cell? ⟨k2, 0, none⟩ = some (.slice qa m qc) := ⟨o6.cellF hH0.1, o6.cellF hH0.2⟩
    refine ⟨S6, ?_⟩
    try simp only [Act.put, List.setIfInBounds_toArray, List.set_cons_zero, List.set_cons_succ]
    refine takeH 9 18 (v := ?vnt9) rfl rfl (by kernel_rfl) (by kernel_rfl) (by kernel_rfl) (fun _ _ _ h => h) (Or.inl ⟨by rfl, ?hnt9⟩) S6 ?rnt9
    case hnt9 => (intro w hSw; clear hSw; go_simp; (try with_reducible rfl))
    case rnt9 =>
    try simp only [Act.put, List.setIfInBounds_toArray, List.set_cons_zero, List.set_cons_succ]
    refine wpAnyH_done (by kernel_rfl) ?_ _
    have oD : Only (fun _ => False) w w6 := (Only.refl _ w).drew.trans o6 (fun _ _ e => e)
    have HF := hide oD
    clear hH0 S6 o6 oD
    clear CN p0 q0 kl kl2
    go_upto_region 4 with fail
    go_loopw [5] (fun sv wr => ∃ s : Nat, sv = .int .i64 s ∧ s ≤ 4 ∧ wr = w6) (fun sv _ => 5 - (intOf sv).toNat)
    case atStart => exact ⟨0, rfl, by omega, rfl⟩
    case round =>
      obtain ⟨s, rfl, hs4, hwr⟩ := hrel
      subst wr
      by_cases hs : s < 4
      · have d1 : decide ((s : Int) < 4) = true := decide_eq_true (by omega)
        have s4 : (s : Int) < 4 := by omega
        have H2 := (unhide HH).2.1.quiet (unhide HF)
        have kl2 := H2.lt
        have q0 : w6.cell? ⟨k2, 10 + s, none⟩ = some (.bool false) := H2.actAt hs
        clear H2
        go_wp2_with fail
        go_roundw
        case rel => exact ⟨s + 1, by go_num, by omega, trivial⟩
        case measure => simp [intOf]; omega
      · have d1 : decide ((s : Int) < 4) = false := decide_eq_false (by omega)
        go_upto_region 9 with fail
        go_loopw [6, 7, 8] (fun tv _ _ wr => ∃ t : Nat, tv = .int .i64 t ∧ t ≤ n ∧ Only (fun _ => False) w wr) (fun tv _ _ _ => n + 1 - (intOf tv).toNat)
        case atStart => exact ⟨0, rfl, by omega, unhide HF⟩
        case round =>
          obtain ⟨t, rfl, htn, oW⟩ := hrel
          have H1 := (unhide HH).1.quiet oW
          have kl := H1.lt
          obtain ⟨na, nc, c0, _⟩ := H1.names
          rw [(unhide HH).2.2.2.1] at c0
          have HO := hide oW
          by_cases ht : t < n
          · have a2 : decide ((t : Int) < (n : Int)) = true := decide_eq_true (by omega)
            have t3 : (t : Int) < (n : Int) := by omega
            obtain ⟨T, hT⟩ := getE (l := M.com) (i := t) (by rw [(unhide HH).2.2.2.1]; exact ht)
            obtain ⟨U, hU, hUn⟩ := tab_at (unhide Hnm) hT
            obtain ⟨gl, cl, l1, l2⟩ := H1.lkAt (s := 0) (by omega) hT
            rw [(unhide HH).2.2.2.1] at l1
            have hmn : m = n := by rw [← (unhide HH).2.2.2.2, len_at (unhide Hnm)]; exact (unhide HH).2.2.2.1
            obtain ⟨x, hx⟩ : ∃ x, M.lk 0 T.nm = x := ⟨_, rfl⟩
            rw [hx] at l2
            obtain ⟨fr, hf4, hfl, hfr⟩ : ∃ fr : Nat, fr < 4 ∧ M.lk fr T.nm ≠ 2 ∧ ((x = 2 ∧ fr = 1) ∨ (x ≠ 2 ∧ fr = 0)) := by
              by_cases e : x = 2
              · exact ⟨1, by omega, by rw [(unhide HH).2.2.1.ex 0 1 T.nm (by omega) (by omega) (by omega) (hx.trans e)]; omega, .inl ⟨e, rfl⟩⟩
              · exact ⟨0, by omega, by rw [hx]; exact e, .inr ⟨e, rfl⟩⟩
            have HT := hide (And.intro hT (And.intro hU (And.intro hUn (And.intro hmn (And.intro hf4 hfl)))))
            have f4 : (fr : Int) < 4 := by omega
            clear H1 oW hT hU hUn hmn hx hf4 hfl
            rcases hfr with ⟨rfl, rfl⟩ | ⟨hx2, rfl⟩
            · go_upto_region 15 with fail
              go_loopw [8] (fun sv wr => ∃ s : Nat, sv = .int .i64 s ∧ s ≤ 4 ∧ Only (fun _ => False) w wr) (fun sv _ => 5 - (intOf sv).toNat)
              case atStart => exact ⟨0, rfl, by omega, unhide HO⟩
              case round =>
                clear HO
                obtain ⟨s, rfl, hs4, oW⟩ := hrel
                by_cases hs : s < 4
                · have d2 : decide ((s : Int) < 4) = true := decide_eq_true (by omega)
                  have s4 : (s : Int) < 4 := by omega
                  have H1 := (unhide HH).1.quiet oW
                  have H2 := (unhide HH).2.1.quiet oW
                  have kl := H1.lt
                  have kl2 := H2.lt
                  have q0 : wr.cell? ⟨k2, 10 + s, none⟩ = some (.bool false) := H2.actAt hs
                  obtain ⟨gk, ck, k1, k2'⟩ := H2.lkAt hs (unhide HT).2.1
                  have k2'' : wr.cell? ⟨gk, t, none⟩ = some (.int .i64 0) := k2'
                  rw [(unhide HH).2.2.2.2, (unhide HT).2.2.2.1] at k1
                  obtain ⟨gq, cq, ya, yc, y1, y2, yR⟩ := H2.rowsAt hs (unhide HT).2.1
                  rw [(unhide HH).2.2.2.2, (unhide HT).2.2.2.1] at y1
                  rw [(unhide HT).2.2.1] at y2 yR
                  obtain ⟨gp, cp, za, zc, z1, z2, zR⟩ := H1.rowsAt (s := 1) (by omega) (unhide HT).1
                  rw [(unhide HH).2.2.2.1] at z1
                  have oD : Only (fun _ => False) wr wr.drew := (Only.refl _ wr).drew
                  have CS := sameRows_any (w := wr.drew) (yR.quiet oD) (zR.quiet oD) (by have := ((unhide HB).2.rl s hs T.nm).1; omega) (fun r hr => by have := ((unhide HB).2.rl s hs T.nm).2 r hr; omega)
                  generalize hyn : ((Mu0 D).rows s T.nm).length = yn at *
                  generalize hzn : (M.rows 1 T.nm).length = zn at *
                  have HO := hide oW
                  clear H1 H2 k2' yR zR oD oW hyn hzn
                  by_cases hsr : (Mu0 D).rows s T.nm = M.rows 1 T.nm
                  · have CS := hide (CS true (decide_eq_true hsr))
                    clear hsr
                    go_upto_region 19 with fail
                    refine wp_region_held_drew (S := (fun w' => w'.cell? ⟨k2, 2 + s, none⟩ = some (.slice (some ⟨gq, 0, none⟩) n cq) ∧ w'.cell? ⟨gq, t, none⟩ = some (.slice ya yn yc) ∧ w'.cell? ⟨k, 2 + 1, none⟩ = some (.slice (some ⟨gp, 0, none⟩) n cp) ∧ w'.cell? ⟨gp, t, none⟩ = some (.slice za zn zc))) (by kernel_rfl) ⟨y1, y2, z1, z2⟩ (fun hH0 => ?_)
                    refine takeH 0 69 (v := ?vst11) rfl rfl (by kernel_rfl) (by kernel_rfl) (by kernel_rfl) (fun _ _ _ h => h) (Or.inl ⟨by rfl, ?hst11⟩) hH0 ?rst11
                    case hst11 => (intro w hSw; clear hSw; go_simp; (try with_reducible rfl))
                    case rst11 =>
                    try simp only [Act.put, List.setIfInBounds_toArray, List.set_cons_zero, List.set_cons_succ]
                    refine takeH 1 70 (v := ?vst12) rfl rfl (by kernel_rfl) (by kernel_rfl) (by kernel_rfl) (fun _ _ _ h => h) (Or.inl ⟨by rfl, ?hst12⟩) hH0 ?rst12
                    case hst12 => (intro w hSw; clear hSw; go_simp; (try with_reducible rfl))
                    case rst12 =>
                    try simp only [Act.put, List.setIfInBounds_toArray, List.set_cons_zero, List.set_cons_succ]
                    refine takeH 2 71 (v := ?vst13) rfl rfl (by kernel_rfl) (by kernel_rfl) (by kernel_rfl) (fun _ _ _ h => h) (Or.inl ⟨by rfl, ?hst13⟩) hH0 ?rst13
                    case hst13 => (intro w hSw; clear hSw; go_simp; (try with_reducible rfl))
                    case rst13 =>
                    try simp only [Act.put, List.setIfInBounds_toArray, List.set_cons_zero, List.set_cons_succ]
                    refine takeH 3 72 (v := ?vst14) rfl rfl (by kernel_rfl) (by kernel_rfl) (by kernel_rfl) (fun _ _ _ h => h) (Or.inl ⟨by rfl, ?hst14⟩) hH0 ?rst14
                    case hst14 => (intro w hSw; clear hSw; go_simp; (try with_reducible rfl))
                    case rst14 =>
                    try simp only [Act.put, List.setIfInBounds_toArray, List.set_cons_zero, List.set_cons_succ]
                    refine takeH 4 73 (v := ?vst15) rfl rfl (by kernel_rfl) (by kernel_rfl) (by kernel_rfl) (fun _ _ _ h => h) (Or.inl ⟨by rfl, ?hst15⟩) hH0 ?rst15
                    case hst15 => (intro w hSw; clear hSw; go_simp; (try with_reducible rfl))
                    case rst15 =>
                    try simp only [Act.put, List.setIfInBounds_toArray, List.set_cons_zero, List.set_cons_succ]
                    refine takeH 5 74 (v := ?vst16) rfl rfl (by kernel_rfl) (by kernel_rfl) (by kernel_rfl) (fun _ _ _ h => h) (Or.inl ⟨by rfl, ?hst16⟩) hH0 ?rst16
                    case hst16 => (intro w hSw; obtain ⟨s0, s1, s2, s3⟩ := hSw; go_simp; (try with_reducible rfl))
                    case rst16 =>
                    try simp only [Act.put, List.setIfInBounds_toArray, List.set_cons_zero, List.set_cons_succ]
                    refine takeH 6 75 (v := ?vst17) rfl rfl (by kernel_rfl) (by kernel_rfl) (by kernel_rfl) (fun _ _ _ h => h) (Or.inl ⟨by rfl, ?hst17⟩) hH0 ?rst17
                    case hst17 => (intro w hSw; clear hSw; go_simp; (try with_reducible rfl))
                    case rst17 =>
                    try simp only [Act.put, List.setIfInBounds_toArray, List.set_cons_zero, List.set_cons_succ]
                    refine takeH 7 76 (v := ?vst18) rfl rfl (by kernel_rfl) (by kernel_rfl) (by kernel_rfl) (fun _ _ _ h => h) (Or.inl ⟨by rfl, ?hst18⟩) hH0 ?rst18
                    case hst18 => (intro w hSw; clear hSw; go_simp; (try with_reducible rfl))
                    case rst18 =>
                    try simp only [Act.put, List.setIfInBounds_toArray, List.set_cons_zero, List.set_cons_succ]
                    refine takeH 8 77 (v := ?vst19) rfl rfl (by kernel_rfl) (by kernel_rfl) (by kernel_rfl) (fun _ _ _ h => h) (Or.inl ⟨by rfl, ?hst19⟩) hH0 ?rst19
                    case hst19 => (intro w hSw; obtain ⟨s0, s1, s2, s3⟩ := hSw; go_simp; (try with_reducible rfl))
                    case rst19 =>
                    try simp only [Act.put, List.setIfInBounds_toArray, List.set_cons_zero, List.set_cons_succ]
                    refine takeH 9 78 (v := ?vst110) rfl rfl (by kernel_rfl) (by kernel_rfl) (by kernel_rfl) (fun _ _ _ h => h) (Or.inl ⟨by rfl, ?hst110⟩) hH0 ?rst110
                    case hst110 => (intro w hSw; clear hSw; go_simp; (try with_reducible rfl))
                    case rst110 =>
                    try simp only [Act.put, List.setIfInBounds_toArray, List.set_cons_zero, List.set_cons_succ]
                    refine takeH 10 79 (v := ?vst111) rfl rfl (by kernel_rfl) (by kernel_rfl) (by kernel_rfl) (fun _ _ _ h => h) (Or.inl ⟨by rfl, ?hst111⟩) hH0 ?rst111
                    case hst111 => (intro w hSw; clear hSw; go_simp; (try with_reducible rfl))
                    case rst111 =>
                    try simp only [Act.put, List.setIfInBounds_toArray, List.set_cons_zero, List.set_cons_succ]
                    refine takeH 11 80 (v := ?vst112) rfl rfl (by kernel_rfl) (by kernel_rfl) (by kernel_rfl) (fun _ _ _ h => h) (Or.inl ⟨by rfl, ?hst112⟩) hH0 ?rst112
                    case hst112 => (intro w hSw; clear hSw; go_simp; (try with_reducible rfl))
                    case rst112 =>
                    try simp only [Act.put, List.setIfInBounds_toArray, List.set_cons_zero, List.set_cons_succ]
                    refine takeH 12 81 (v := ?vst113) rfl rfl (by kernel_rfl) (by kernel_rfl) (by kernel_rfl) (fun _ _ _ h => h) (Or.inl ⟨by rfl, ?hst113⟩) hH0 ?rst113
                    case hst113 => (intro w hSw; clear hSw; go_simp; (try with_reducible rfl))
                    case rst113 =>
                    try simp only [Act.put, List.setIfInBounds_toArray, List.set_cons_zero, List.set_cons_succ]
                    refine takeH 13 82 (v := ?vst114) rfl rfl (by kernel_rfl) (by kernel_rfl) (by kernel_rfl) (fun _ _ _ h => h) (Or.inl ⟨by rfl, ?hst114⟩) hH0 ?rst114
                    case hst114 => (intro w hSw; clear hSw; go_simp; (try with_reducible rfl))
                    case rst114 =>
                    try simp only [Act.put, List.setIfInBounds_toArray, List.set_cons_zero, List.set_cons_succ]
                    refine takeH 14 83 (v := ?vst115) rfl rfl (by kernel_rfl) (by kernel_rfl) (by kernel_rfl) (fun _ _ _ h => h) (Or.inl ⟨by rfl, ?hst115⟩) hH0 ?rst115
                    case hst115 => (intro w hSw; obtain ⟨s0, s1, s2, s3⟩ := hSw; go_simp; (try with_reducible rfl))
                    case rst115 =>
                    try simp only [Act.put, List.setIfInBounds_toArray, List.set_cons_zero, List.set_cons_succ]
                    refine takeH 15 84 (v := ?vst116) rfl rfl (by kernel_rfl) (by kernel_rfl) (by kernel_rfl) (fun _ _ _ h => h) (Or.inl ⟨by rfl, ?hst116⟩) hH0 ?rst116
                    case hst116 => (intro w hSw; clear hSw; go_simp; (try with_reducible rfl))
                    case rst116 =>
                    try simp only [Act.put, List.setIfInBounds_toArray, List.set_cons_zero, List.set_cons_succ]
                    refine takeH 16 85 (v := ?vst117) rfl rfl (by kernel_rfl) (by kernel_rfl) (by kernel_rfl) (fun _ _ _ h => h) (Or.inl ⟨by rfl, ?hst117⟩) hH0 ?rst117
                    case hst117 => (intro w hSw; clear hSw; go_simp; (try with_reducible rfl))
                    case rst117 =>
                    try simp only [Act.put, List.setIfInBounds_toArray, List.set_cons_zero, List.set_cons_succ]
                    refine takeH 17 86 (v := ?vst118) rfl rfl (by kernel_rfl) (by kernel_rfl) (by kernel_rfl) (fun _ _ _ h => h) (Or.inl ⟨by rfl, ?hst118⟩) hH0 ?rst118
                    case hst118 => (intro w hSw; obtain ⟨s0, s1, s2, s3⟩ := hSw; go_simp; (try with_reducible rfl))
                    case rst118 =>
                    try simp only [Act.put, List.setIfInBounds_toArray, List.set_cons_zero, List.set_cons_succ]
                    refine callH 18 (by kernel_rfl) rfl 87 rfl rfl 87 Tryz.func87 (by kernel_rfl) (by kernel_rfl) #[.tmp 77, .tmp 86] #[48, 48] rfl #[.slice ya yn yc, .slice za zn zc] (by simp [Act.eval]) (R := fun v w' => v = .bool true ∧ Only (fun _ => False) wr.drew w') ((unhide CS).mono (by rintro en w' ⟨rfl, o⟩; exact ⟨_, rfl, rfl, o⟩)) ?kst1
                    case kst1 =>
                    rintro _ w6 ⟨rfl, o6⟩
                    have S6 : w6.cell? ⟨k2, 2 + s, none⟩ = some (.slice (some ⟨gq, 0, none⟩) n cq) ∧ w6.cell? ⟨gq, t, none⟩ = some (.slice ya yn yc) ∧ w6.cell? ⟨k, 2 + 1, none⟩ = some (.slice (some ⟨gp, 0, none⟩) n cp) ∧ w6.cell? ⟨gp, t, none⟩ = some (.slice za zn zc) := ⟨o6.cellF hH0.1, o6.cellF hH0.2.1, o6.cellF hH0.2.2.1, o6.cellF hH0.2.2.2⟩
                    refine ⟨S6, ?_⟩
                    try simp only [Act.put, List.setIfInBounds_toArray, List.set_cons_zero, List.set_cons_succ]
                    refine takeH 19 88 (v := ?vst119) rfl rfl (by kernel_rfl) (by kernel_rfl) (by kernel_rfl) (fun _ _ _ h => h) (Or.inl ⟨by rfl, ?hst119⟩) S6 ?rst119
                    case hst119 => (intro w hSw; clear hSw; go_simp; (try with_reducible rfl))
                    case rst119 =>
                    try simp only [Act.put, List.setIfInBounds_toArray, List.set_cons_zero, List.set_cons_succ]
                    refine wpAnyH_done (by kernel_rfl) ?_ _
                    have oD : Only (fun _ => False) wr w6 := (Only.refl _ wr).drew.trans o6 (fun _ _ e => e)
                    have HF := hide oD
                    clear hH0 S6 o6 oD
                    have HO2 := hide ((unhide HO).trans (unhide HF) (fun _ _ e => e))
                    clear CS y1 y2 z1 z2 k1 k2'' q0
                    go_wp2_with fail
                    go_roundw
                    case rel => exact ⟨s + 1, by go_num, by omega, unhide HO2⟩
                    case measure => simp [intOf]; omega
                  · have CS := hide (CS false (decide_eq_false hsr))
                    have Hsr := hide hsr
                    clear hsr
                    go_upto_region 19 with fail
                    refine wp_region_held_drew (S := (fun w' => w'.cell? ⟨k2, 2 + s, none⟩ = some (.slice (some ⟨gq, 0, none⟩) n cq) ∧ w'.cell? ⟨gq, t, none⟩ = some (.slice ya yn yc) ∧ w'.cell? ⟨k, 2 + 1, none⟩ = some (.slice (some ⟨gp, 0, none⟩) n cp) ∧ w'.cell? ⟨gp, t, none⟩ = some (.slice za zn zc))) (by kernel_rfl) ⟨y1, y2, z1, z2⟩ (fun hH0 => ?_)
                    refine takeH 0 69 (v := ?vsf11) rfl rfl (by kernel_rfl) (by kernel_rfl) (by kernel_rfl) (fun _ _ _ h => h) (Or.inl ⟨by rfl, ?hsf11⟩) hH0 ?rsf11
                    case hsf11 => (intro w hSw; clear hSw; go_simp; (try with_reducible rfl))
                    case rsf11 =>
                    try simp only [Act.put, List.setIfInBounds_toArray, List.set_cons_zero, List.set_cons_succ]
                    refine takeH 1 70 (v := ?vsf12) rfl rfl (by kernel_rfl) (by kernel_rfl) (by kernel_rfl) (fun _ _ _ h => h) (Or.inl ⟨by rfl, ?hsf12⟩) hH0 ?rsf12
                    case hsf12 => (intro w hSw; clear hSw; go_simp; (try with_reducible rfl))
                    case rsf12 =>
                    try simp only [Act.put, List.setIfInBounds_toArray, List.set_cons_zero, List.set_cons_succ]
                    refine takeH 2 71 (v := ?vsf13) rfl rfl (by kernel_rfl) (by kernel_rfl) (by kernel_rfl) (fun _ _ _ h => h) (Or.inl ⟨by rfl, ?hsf13⟩) hH0 ?rsf13
                    case hsf13 => (intro w hSw; clear hSw; go_simp; (try with_reducible rfl))
                    case rsf13 =>
                    try simp only [Act.put, List.setIfInBounds_toArray, List.set_cons_zero, List.set_cons_succ]
                    refine takeH 3 72 (v := ?vsf14) rfl rfl (by kernel_rfl) (by kernel_rfl) (by kernel_rfl) (fun _ _ _ h => h) (Or.inl ⟨by rfl, ?hsf14⟩) hH0 ?rsf14
                    case hsf14 => (intro w hSw; clear hSw; go_simp; (try with_reducible rfl))
                    case rsf14 =>
                    try simp only [Act.put, List.setIfInBounds_toArray, List.set_cons_zero, List.set_cons_succ]
                    refine takeH 4 73 (v := ?vsf15) rfl rfl (by kernel_rfl) (by kernel_rfl) (by kernel_rfl) (fun _ _ _ h => h) (Or.inl ⟨by rfl, ?hsf15⟩) hH0 ?rsf15
                    case hsf15 => (intro w hSw; clear hSw; go_simp; (try with_reducible rfl))
                    case rsf15 =>
                    try simp only [Act.put, List.setIfInBounds_toArray, List.set_cons_zero, List.set_cons_succ]
                    refine takeH 5 74 (v := ?vsf16) rfl rfl (by kernel_rfl) (by kernel_rfl) (by kernel_rfl) (fun _ _ _ h => h) (Or.inl ⟨by rfl, ?hsf16⟩) hH0 ?rsf16
                    case hsf16 => (intro w hSw; obtain ⟨s0, s1, s2, s3⟩ := hSw; go_simp; (try with_reducible rfl))
                    case rsf16 =>
                    try simp only [Act.put, List.setIfInBounds_toArray, List.set_cons_zero, List.set_cons_succ]
                    refine takeH 6 75 (v := ?vsf17) rfl rfl (by kernel_rfl) (by kernel_rfl) (by kernel_rfl) (fun _ _ _ h => h) (Or.inl ⟨by rfl, ?hsf17⟩) hH0 ?rsf17
                    case hsf17 => (intro w hSw; clear hSw; go_simp; (try with_reducible rfl))
                    case rsf17 =>
                    try simp only [Act.put, List.setIfInBounds_toArray, List.set_cons_zero, List.set_cons_succ]
                    refine takeH 7 76 (v := ?vsf18) rfl rfl (by kernel_rfl) (by kernel_rfl) (by kernel_rfl) (fun _ _ _ h => h) (Or.inl ⟨by rfl, ?hsf18⟩) hH0 ?rsf18
                    case hsf18 => (intro w hSw; clear hSw; go_simp; (try with_reducible rfl))
                    case rsf18 =>
                    try simp only [Act.put, List.setIfInBounds_toArray, List.set_cons_zero, List.set_cons_succ]
                    refine takeH 8 77 (v := ?vsf19) rfl rfl (by kernel_rfl) (by kernel_rfl) (by kernel_rfl) (fun _ _ _ h => h) (Or.inl ⟨by rfl, ?hsf19⟩) hH0 ?rsf19
                    case hsf19 => (intro w hSw; obtain ⟨s0, s1, s2, s3⟩ := hSw; go_simp; (try with_reducible rfl))
                    case rsf19 =>
                    try simp only [Act.put, List.setIfInBounds_toArray, List.set_cons_zero, List.set_cons_succ]
                    refine takeH 9 78 (v := ?vsf110) rfl rfl (by kernel_rfl) (by kernel_rfl) (by kernel_rfl) (fun _ _ _ h => h) (Or.inl ⟨by rfl, ?hsf110⟩) hH0 ?rsf110
                    case hsf110 => (intro w hSw; clear hSw; go_simp; (try with_reducible rfl))
                    case rsf110 =>
                    try simp only [Act.put, List.setIfInBounds_toArray, List.set_cons_zero, List.set_cons_succ]
                    refine takeH 10 79 (v := ?vsf111) rfl rfl (by kernel_rfl) (by kernel_rfl) (by kernel_rfl) (fun _ _ _ h => h) (Or.inl ⟨by rfl, ?hsf111⟩) hH0 ?rsf111
                    case hsf111 => (intro w hSw; clear hSw; go_simp; (try with_reducible rfl))
                    case rsf111 =>
                    try simp only [Act.put, List.setIfInBounds_toArray, List.set_cons_zero, List.set_cons_succ]
                    refine takeH 11 80 (v := ?vsf112) rfl rfl (by kernel_rfl) (by kernel_rfl) (by kernel_rfl) (fun _ _ _ h => h) (Or.inl ⟨by rfl, ?hsf112⟩) hH0 ?rsf112
                    case hsf112 => (intro w hSw; clear hSw; go_simp; (try with_reducible rfl))
                    case rsf112 =>
                    try simp only [Act.put, List.setIfInBounds_toArray, List.set_cons_zero, List.set_cons_succ]
                    refine takeH 12 81 (v := ?vsf113) rfl rfl (by kernel_rfl) (by kernel_rfl) (by kernel_rfl) (fun _ _ _ h => h) (Or.inl ⟨by rfl, ?hsf113⟩) hH0 ?rsf113
                    case hsf113 => (intro w hSw; clear hSw; go_simp; (try with_reducible rfl))
                    case rsf113 =>
                    try simp only [Act.put, List.setIfInBounds_toArray, List.set_cons_zero, List.set_cons_succ]
                    refine takeH 13 82 (v := ?vsf114) rfl rfl (by kernel_rfl) (by kernel_rfl) (by kernel_rfl) (fun _ _ _ h => h) (Or.inl ⟨by rfl, ?hsf114⟩) hH0 ?rsf114
                    case hsf114 => (intro w hSw; clear hSw; go_simp; (try with_reducible rfl))
                    case rsf114 =>
                    try simp only [Act.put, List.setIfInBounds_toArray, List.set_cons_zero, List.set_cons_succ]
                    refine takeH 14 83 (v := ?vsf115) rfl rfl (by kernel_rfl) (by kernel_rfl) (by kernel_rfl) (fun _ _ _ h => h) (Or.inl ⟨by rfl, ?hsf115⟩) hH0 ?rsf115
                    case hsf115 => (intro w hSw; obtain ⟨s0, s1, s2, s3⟩ := hSw; go_simp; (try with_reducible rfl))
                    case rsf115 =>
                    try simp only [Act.put, List.setIfInBounds_toArray, List.set_cons_zero, List.set_cons_succ]
                    refine takeH 15 84 (v := ?vsf116) rfl rfl (by kernel_rfl) (by kernel_rfl) (by kernel_rfl) (fun _ _ _ h => h) (Or.inl ⟨by rfl, ?hsf116⟩) hH0 ?rsf116
                    case hsf116 => (intro w hSw; clear hSw; go_simp; (try with_reducible rfl))
                    case rsf116 =>
                    try simp only [Act.put, List.setIfInBounds_toArray, List.set_cons_zero, List.set_cons_succ]
                    refine takeH 16 85 (v := ?vsf117) rfl rfl (by kernel_rfl) (by kernel_rfl) (by kernel_rfl) (fun _ _ _ h => h) (Or.inl ⟨by rfl, ?hsf117⟩) hH0 ?rsf117
                    case hsf117 => (intro w hSw; clear hSw; go_simp; (try with_reducible rfl))
                    case rsf117 =>
                    try simp only [Act.put, List.setIfInBounds_toArray, List.set_cons_zero, List.set_cons_succ]
                    refine takeH 17 86 (v := ?vsf118) rfl rfl (by kernel_rfl) (by kernel_rfl) (by kernel_rfl) (fun _ _ _ h => h) (Or.inl ⟨by rfl, ?hsf118⟩) hH0 ?rsf118
                    case hsf118 => (intro w hSw; obtain ⟨s0, s1, s2, s3⟩ := hSw; go_simp; (try with_reducible rfl))
                    case rsf118 =>
                    try simp only [Act.put, List.setIfInBounds_toArray, List.set_cons_zero, List.set_cons_succ]
                    refine callH 18 (by kernel_rfl) rfl 87 rfl rfl 87 Tryz.func87 (by kernel_rfl) (by kernel_rfl) #[.tmp 77, .tmp 86] #[48, 48] rfl #[.slice ya yn yc, .slice za zn zc] (by simp [Act.eval]) (R := fun v w' => v = .bool false ∧ Only (fun _ => False) wr.drew w') ((unhide CS).mono (by rintro en w' ⟨rfl, o⟩; exact ⟨_, rfl, rfl, o⟩)) ?ksf1
                    case ksf1 =>
                    rintro _ w6 ⟨rfl, o6⟩
                    have S6 : w6.cell? ⟨k2, 2 + s, none⟩ = some (.slice (some ⟨gq, 0, none⟩) n cq) ∧ w6.cell? ⟨gq, t, none⟩ = some (.slice ya yn yc) ∧ w6.cell? ⟨k, 2 + 1, none⟩ = some (.slice (some ⟨gp, 0, none⟩) n cp) ∧ w6.cell? ⟨gp, t, none⟩ = some (.slice za zn zc) := ⟨o6.cellF hH0.1, o6.cellF hH0.2.1, o6.cellF hH0.2.2.1, o6.cellF hH0.2.2.2⟩
                    refine ⟨S6, ?_⟩
                    try simp only [Act.put, List.setIfInBounds_toArray, List.set_cons_zero, List.set_cons_succ]
                    refine takeH 19 88 (v := ?vsf119) rfl rfl (by kernel_rfl) (by kernel_rfl) (by kernel_rfl) (fun _ _ _ h => h) (Or.inl ⟨by rfl, ?hsf119⟩) S6 ?rsf119
                    case hsf119 => (intro w hSw; clear hSw; go_simp; (try with_reducible rfl))
                    case rsf119 =>
                    try simp only [Act.put, List.setIfInBounds_toArray, List.set_cons_zero, List.set_cons_succ]
                    refine wpAnyH_done (by kernel_rfl) ?_ _
                    have oD : Only (fun _ => False) wr w6 := (Only.refl _ wr).drew.trans o6 (fun _ _ e => e)
                    have HF := hide oD
                    clear hH0 S6 o6 oD
                    have FF := hide (show LaP w M D (.returned (.bool false)) w6 from LaP.no (unhide HH).2.2.1 ((unhide HO).trans (unhide HF) (fun _ _ e => e)) (fun e => unhide Hsr (lasts_rows (unhide HH).2.2.1 e 1 (unhide HT).2.2.2.2.1 (unhide HT).2.2.2.2.2 s)))
                    clear CS y1 y2 z1 z2 k1 k2'' q0
                    go_wp2_with fail
                    go_ret
                    exact unhide FF
                · have d2 : decide ((s : Int) < 4) = false := decide_eq_false (by omega)
                  have HO2 := hide oW
                  clear oW
                  go_wp2_with fail
                  go_roundw
                  case rel => exact ⟨t + 1, by go_num, by omega, unhide HO2⟩
                  case measure => simp [intOf]; omega
            · have b2 : (x == 2) = false := ne_intO hx2
              clear hx2
              go_upto_region 15 with fail
              go_loopw [8] (fun sv wr => ∃ s : Nat, sv = .int .i64 s ∧ s ≤ 4 ∧ Only (fun _ => False) w wr) (fun sv _ => 5 - (intOf sv).toNat)
              case atStart => exact ⟨0, rfl, by omega, unhide HO⟩
              case round =>
                clear HO
                obtain ⟨s, rfl, hs4, oW⟩ := hrel
                by_cases hs : s < 4
                · have d2 : decide ((s : Int) < 4) = true := decide_eq_true (by omega)
                  have s4 : (s : Int) < 4 := by omega
                  have H1 := (unhide HH).1.quiet oW
                  have H2 := (unhide HH).2.1.quiet oW
                  have kl := H1.lt
                  have kl2 := H2.lt
                  have q0 : wr.cell? ⟨k2, 10 + s, none⟩ = some (.bool false) := H2.actAt hs
                  obtain ⟨gk, ck, k1, k2'⟩ := H2.lkAt hs (unhide HT).2.1
                  have k2'' : wr.cell? ⟨gk, t, none⟩ = some (.int .i64 0) := k2'
                  rw [(unhide HH).2.2.2.2, (unhide HT).2.2.2.1] at k1
                  obtain ⟨gq, cq, ya, yc, y1, y2, yR⟩ := H2.rowsAt hs (unhide HT).2.1
                  rw [(unhide HH).2.2.2.2, (unhide HT).2.2.2.1] at y1
                  rw [(unhide HT).2.2.1] at y2 yR
                  obtain ⟨gp, cp, za, zc, z1, z2, zR⟩ := H1.rowsAt (s := 0) (by omega) (unhide HT).1
                  rw [(unhide HH).2.2.2.1] at z1
                  have oD : Only (fun _ => False) wr wr.drew := (Only.refl _ wr).drew
                  have CS := sameRows_any (w := wr.drew) (yR.quiet oD) (zR.quiet oD) (by have := ((unhide HB).2.rl s hs T.nm).1; omega) (fun r hr => by have := ((unhide HB).2.rl s hs T.nm).2 r hr; omega)
                  generalize hyn : ((Mu0 D).rows s T.nm).length = yn at *
                  generalize hzn : (M.rows 0 T.nm).length = zn at *
                  have HO := hide oW
                  clear H1 H2 k2' yR zR oD oW hyn hzn
                  by_cases hsr : (Mu0 D).rows s T.nm = M.rows 0 T.nm
                  · have CS := hide (CS true (decide_eq_true hsr))
                    clear hsr
                    go_upto_region 19 with fail
                    refine wp_region_held_drew (S := (fun w' => w'.cell? ⟨k2, 2 + s, none⟩ = some (.slice (some ⟨gq, 0, none⟩) n cq) ∧ w'.cell? ⟨gq, t, none⟩ = some (.slice ya yn yc) ∧ w'.cell? ⟨k, 2 + 0, none⟩ = some (.slice (some ⟨gp, 0, none⟩) n cp) ∧ w'.cell? ⟨gp, t, none⟩ = some (.slice za zn zc))) (by kernel_rfl) ⟨y1, y2, z1, z2⟩ (fun hH0 => ?_)
                    refine takeH 0 69 (v := ?vst01) rfl rfl (by kernel_rfl) (by kernel_rfl) (by kernel_rfl) (fun _ _ _ h => h) (Or.inl ⟨by rfl, ?hst01⟩) hH0 ?rst01
                    case hst01 => (intro w hSw; clear hSw; go_simp; (try with_reducible rfl))
                    case rst01 =>
                    try simp only [Act.put, List.setIfInBounds_toArray, List.set_cons_zero, List.set_cons_succ]
                    refine takeH 1 70 (v := ?vst02) rfl rfl (by kernel_rfl) (by kernel_rfl) (by kernel_rfl) (fun _ _ _ h => h) (Or.inl ⟨by rfl, ?hst02⟩) hH0 ?rst02
                    case hst02 => (intro w hSw; clear hSw; go_simp; (try with_reducible rfl))
                    case rst02 =>
                    try simp only [Act.put, List.setIfInBounds_toArray, List.set_cons_zero, List.set_cons_succ]
                    refine takeH 2 71 (v := ?vst03) rfl rfl (by kernel_rfl) (by kernel_rfl) (by kernel_rfl) (fun _ _ _ h => h) (Or.inl ⟨by rfl, ?hst03⟩) hH0 ?rst03
                    case hst03 => (intro w hSw; clear hSw; go_simp; (try with_reducible rfl))
                    case rst03 =>
                    try simp only [Act.put, List.setIfInBounds_toArray, List.set_cons_zero, List.set_cons_succ]
                    refine takeH 3 72 (v := ?vst04) rfl rfl (by kernel_rfl) (by kernel_rfl) (by kernel_rfl) (fun _ _ _ h => h) (Or.inl ⟨by rfl, ?hst04⟩) hH0 ?rst04
                    case hst04 => (intro w hSw; clear hSw; go_simp; (try with_reducible rfl))
                    case rst04 =>
                    try simp only [Act.put, List.setIfInBounds_toArray, List.set_cons_zero, List.set_cons_succ]
                    refine takeH 4 73 (v := ?vst05) rfl rfl (by kernel_rfl) (by kernel_rfl) (by kernel_rfl) (fun _ _ _ h => h) (Or.inl ⟨by rfl, ?hst05⟩) hH0 ?rst05
                    case hst05 => (intro w hSw; clear hSw; go_simp; (try with_reducible rfl))
                    case rst05 =>
                    try simp only [Act.put, List.setIfInBounds_toArray, List.set_cons_zero, List.set_cons_succ]
                    refine takeH 5 74 (v := ?vst06) rfl rfl (by kernel_rfl) (by kernel_rfl) (by kernel_rfl) (fun _ _ _ h => h) (Or.inl ⟨by rfl, ?hst06⟩) hH0 ?rst06
                    case hst06 => (intro w hSw; obtain ⟨s0, s1, s2, s3⟩ := hSw; go_simp; (try with_reducible rfl))
                    case rst06 =>
                    try simp only [Act.put, List.setIfInBounds_toArray, List.set_cons_zero, List.set_cons_succ]
                    refine takeH 6 75 (v := ?vst07) rfl rfl (by kernel_rfl) (by kernel_rfl) (by kernel_rfl) (fun _ _ _ h => h) (Or.inl ⟨by rfl, ?hst07⟩) hH0 ?rst07
                    case hst07 => (intro w hSw; clear hSw; go_simp; (try with_reducible rfl))
                    case rst07 =>
                    try simp only [Act.put, List.setIfInBounds_toArray, List.set_cons_zero, List.set_cons_succ]
                    refine takeH 7 76 (v := ?vst08) rfl rfl (by kernel_rfl) (by kernel_rfl) (by kernel_rfl) (fun _ _ _ h => h) (Or.inl ⟨by rfl, ?hst08⟩) hH0 ?rst08
                    case hst08 => (intro w hSw; clear hSw; go_simp; (try with_reducible rfl))
                    case rst08 =>
                    try simp only [Act.put, List.setIfInBounds_toArray, List.set_cons_zero, List.set_cons_succ]
                    refine takeH 8 77 (v := ?vst09) rfl rfl (by kernel_rfl) (by kernel_rfl) (by kernel_rfl) (fun _ _ _ h => h) (Or.inl ⟨by rfl, ?hst09⟩) hH0 ?rst09
                    case hst09 => (intro w hSw; obtain ⟨s0, s1, s2, s3⟩ := hSw; go_simp; (try with_reducible rfl))
                    case rst09 =>
                    try simp only [Act.put, List.setIfInBounds_toArray, List.set_cons_zero, List.set_cons_succ]
                    refine takeH 9 78 (v := ?vst010) rfl rfl (by kernel_rfl) (by kernel_rfl) (by kernel_rfl) (fun _ _ _ h => h) (Or.inl ⟨by rfl, ?hst010⟩) hH0 ?rst010
                    case hst010 => (intro w hSw; clear hSw; go_simp; (try with_reducible rfl))
                    case rst010 =>
                    try simp only [Act.put, List.setIfInBounds_toArray, List.set_cons_zero, List.set_cons_succ]
                    refine takeH 10 79 (v := ?vst011) rfl rfl (by kernel_rfl) (by kernel_rfl) (by kernel_rfl) (fun _ _ _ h => h) (Or.inl ⟨by rfl, ?hst011⟩) hH0 ?rst011
                    case hst011 => (intro w hSw; clear hSw; go_simp; (try with_reducible rfl))
                    case rst011 =>
                    try simp only [Act.put, List.setIfInBounds_toArray, List.set_cons_zero, List.set_cons_succ]
                    refine takeH 11 80 (v := ?vst012) rfl rfl (by kernel_rfl) (by kernel_rfl) (by kernel_rfl) (fun _ _ _ h => h) (Or.inl ⟨by rfl, ?hst012⟩) hH0 ?rst012
                    case hst012 => (intro w hSw; clear hSw; go_simp; (try with_reducible rfl))
                    case rst012 =>
                    try simp only [Act.put, List.setIfInBounds_toArray, List.set_cons_zero, List.set_cons_succ]
                    refine takeH 12 81 (v := ?vst013) rfl rfl (by kernel_rfl) (by kernel_rfl) (by kernel_rfl) (fun _ _ _ h => h) (Or.inl ⟨by rfl, ?hst013⟩) hH0 ?rst013
                    case hst013 => (intro w hSw; clear hSw; go_simp; (try with_reducible rfl))
                    case rst013 =>
                    try simp only [Act.put, List.setIfInBounds_toArray, List.set_cons_zero, List.set_cons_succ]
                    refine takeH 13 82 (v := ?vst014) rfl rfl (by kernel_rfl) (by kernel_rfl) (by kernel_rfl) (fun _ _ _ h => h) (Or.inl ⟨by rfl, ?hst014⟩) hH0 ?rst014
                    case hst014 => (intro w hSw; clear hSw; go_simp; (try with_reducible rfl))
                    case rst014 =>
                    try simp only [Act.put, List.setIfInBounds_toArray, List.set_cons_zero, List.set_cons_succ]
                    refine takeH 14 83 (v := ?vst015) rfl rfl (by kernel_rfl) (by kernel_rfl) (by kernel_rfl) (fun _ _ _ h => h) (Or.inl ⟨by rfl, ?hst015⟩) hH0 ?rst015
                    case hst015 => (intro w hSw; obtain ⟨s0, s1, s2, s3⟩ := hSw; go_simp; (try with_reducible rfl))
                    case rst015 =>
                    try simp only [Act.put, List.setIfInBounds_toArray, List.set_cons_zero, List.set_cons_succ]
                    refine takeH 15 84 (v := ?vst016) rfl rfl (by kernel_rfl) (by kernel_rfl) (by kernel_rfl) (fun _ _ _ h => h) (Or.inl ⟨by rfl, ?hst016⟩) hH0 ?rst016
                    case hst016 => (intro w hSw; clear hSw; go_simp; (try with_reducible rfl))
                    case rst016 =>
                    try simp only [Act.put, List.setIfInBounds_toArray, List.set_cons_zero, List.set_cons_succ]
                    refine takeH 16 85 (v := ?vst017) rfl rfl (by kernel_rfl) (by kernel_rfl) (by kernel_rfl) (fun _ _ _ h => h) (Or.inl ⟨by rfl, ?hst017⟩) hH0 ?rst017
                    case hst017 => (intro w hSw; clear hSw; go_simp; (try with_reducible rfl))
                    case rst017 =>
                    try simp only [Act.put, List.setIfInBounds_toArray, List.set_cons_zero, List.set_cons_succ]
                    refine takeH 17 86 (v := ?vst018) rfl rfl (by kernel_rfl) (by kernel_rfl) (by kernel_rfl) (fun _ _ _ h => h) (Or.inl ⟨by rfl, ?hst018⟩) hH0 ?rst018
                    case hst018 => (intro w hSw; obtain ⟨s0, s1, s2, s3⟩ := hSw; go_simp; (try with_reducible rfl))
                    case rst018 =>
                    try simp only [Act.put, List.setIfInBounds_toArray, List.set_cons_zero, List.set_cons_succ]
                    refine callH 18 (by kernel_rfl) rfl 87 rfl rfl 87 Tryz.func87 (by kernel_rfl) (by kernel_rfl) #[.tmp 77, .tmp 86] #[48, 48] rfl #[.slice ya yn yc, .slice za zn zc] (by simp [Act.eval]) (R := fun v w' => v = .bool true ∧ Only (fun _ => False) wr.drew w') ((unhide CS).mono (by rintro en w' ⟨rfl, o⟩; exact ⟨_, rfl, rfl, o⟩)) ?kst0
                    case kst0 =>
                    rintro _ w6 ⟨rfl, o6⟩
                    have S6 : w6.cell? ⟨k2, 2 + s, none⟩ = some (.slice (some ⟨gq, 0, none⟩) n cq) ∧ w6.cell? ⟨gq, t, none⟩ = some (.slice ya yn yc) ∧ w6.cell? ⟨k, 2 + 0, none⟩ = some (.slice (some ⟨gp, 0, none⟩) n cp) ∧ w6.cell? ⟨gp, t, none⟩ = some (.slice za zn zc) := ⟨o6.cellF hH0.1, o6.cellF hH0.2.1, o6.cellF hH0.2.2.1, o6.cellF hH0.2.2.2⟩
                    refine ⟨S6, ?_⟩
                    try simp only [Act.put, List.setIfInBounds_toArray, List.set_cons_zero, List.set_cons_succ]
                    refine takeH 19 88 (v := ?vst019) rfl rfl (by kernel_rfl) (by kernel_rfl) (by kernel_rfl) (fun _ _ _ h => h) (Or.inl ⟨by rfl, ?hst019⟩) S6 ?rst019
                    case hst019 => (intro w hSw; clear hSw; go_simp; (try with_reducible rfl))
                    case rst019 =>
                    try simp only [Act.put, List.setIfInBounds_toArray, List.set_cons_zero, List.set_cons_succ]
                    refine wpAnyH_done (by kernel_rfl) ?_ _
                    have oD : Only (fun _ => False) wr w6 := (Only.refl _ wr).drew.trans o6 (fun _ _ e => e)
                    have HF := hide oD
                    clear hH0 S6 o6 oD
                    have HO2 := hide ((unhide HO).trans (unhide HF) (fun _ _ e => e))
                    clear CS y1 y2 z1 z2 k1 k2'' q0
                    go_wp2_with fail
                    go_roundw
                    case rel => exact ⟨s + 1, by go_num, by omega, unhide HO2⟩
                    case measure => simp [intOf]; omega
                  · have CS := hide (CS false (decide_eq_false hsr))
                    have Hsr := hide hsr
                    clear hsr
                    go_upto_region 19 with fail
                    refine wp_region_held_drew (S := (fun w' => w'.cell? ⟨k2, 2 + s, none⟩ = some (.slice (some ⟨gq, 0, none⟩) n cq) ∧ w'.cell? ⟨gq, t, none⟩ = some (.slice ya yn yc) ∧ w'.cell? ⟨k, 2 + 0, none⟩ = some (.slice (some ⟨gp, 0, none⟩) n cp) ∧ w'.cell? ⟨gp, t, none⟩ = some (.slice za zn zc))) (by kernel_rfl) ⟨y1, y2, z1, z2⟩ (fun hH0 => ?_)
                    refine takeH 0 69 (v := ?vsf01) rfl rfl (by kernel_rfl) (by kernel_rfl) (by kernel_rfl) (fun _ _ _ h => h) (Or.inl ⟨by rfl, ?hsf01⟩) hH0 ?rsf01
                    case hsf01 => (intro w hSw; clear hSw; go_simp; (try with_reducible rfl))
                    case rsf01 =>
                    try simp only [Act.put, List.setIfInBounds_toArray, List.set_cons_zero, List.set_cons_succ]
                    refine takeH 1 70 (v := ?vsf02) rfl rfl (by kernel_rfl) (by kernel_rfl) (by kernel_rfl) (fun _ _ _ h => h) (Or.inl ⟨by rfl, ?hsf02⟩) hH0 ?rsf02
                    case hsf02 => (intro w hSw; clear hSw; go_simp; (try with_reducible rfl))
                    case rsf02 =>
                    try simp only [Act.put, List.setIfInBounds_toArray, List.set_cons_zero, List.set_cons_succ]
                    refine takeH 2 71 (v := ?vsf03) rfl rfl (by kernel_rfl) (by kernel_rfl) (by kernel_rfl) (fun _ _ _ h => h) (Or.inl ⟨by rfl, ?hsf03⟩) hH0 ?rsf03
                    case hsf03 => (intro w hSw; clear hSw; go_simp; (try with_reducible rfl))
                    case rsf03 =>
                    try simp only [Act.put, List.setIfInBounds_toArray, List.set_cons_zero, List.set_cons_succ]
                    refine takeH 3 72 (v := ?vsf04) rfl rfl (by kernel_rfl) (by kernel_rfl) (by kernel_rfl) (fun _ _ _ h => h) (Or.inl ⟨by rfl, ?hsf04⟩) hH0 ?rsf04
                    case hsf04 => (intro w hSw; clear hSw; go_simp; (try with_reducible rfl))
                    case rsf04 =>
                    try simp only [Act.put, List.setIfInBounds_toArray, List.set_cons_zero, List.set_cons_succ]
                    refine takeH 4 73 (v := ?vsf05) rfl rfl (by kernel_rfl) (by kernel_rfl) (by kernel_rfl) (fun _ _ _ h => h) (Or.inl ⟨by rfl, ?hsf05⟩) hH0 ?rsf05
                    case hsf05 => (intro w hSw; clear hSw; go_simp; (try with_reducible rfl))
                    case rsf05 =>
                    try simp only [Act.put, List.setIfInBounds_toArray, List.set_cons_zero, List.set_cons_succ]
                    refine takeH 5 74 (v := ?vsf06) rfl rfl (by kernel_rfl) (by kernel_rfl) (by kernel_rfl) (fun _ _ _ h => h) (Or.inl ⟨by rfl, ?hsf06⟩) hH0 ?rsf06
                    case hsf06 => (intro w hSw; obtain ⟨s0, s1, s2, s3⟩ := hSw; go_simp; (try with_reducible rfl))
                    case rsf06 =>
                    try simp only [Act.put, List.setIfInBounds_toArray, List.set_cons_zero, List.set_cons_succ]
                    refine takeH 6 75 (v := ?vsf07) rfl rfl (by kernel_rfl) (by kernel_rfl) (by kernel_rfl) (fun _ _ _ h => h) (Or.inl ⟨by rfl, ?hsf07⟩) hH0 ?rsf07
                    case hsf07 => (intro w hSw; clear hSw; go_simp; (try with_reducible rfl))
                    case rsf07 =>
                    try simp only [Act.put, List.setIfInBounds_toArray, List.set_cons_zero, List.set_cons_succ]
                    refine takeH 7 76 (v := ?vsf08) rfl rfl (by kernel_rfl) (by kernel_rfl) (by kernel_rfl) (fun _ _ _ h => h) (Or.inl ⟨by rfl, ?hsf08⟩) hH0 ?rsf08
                    case hsf08 => (intro w hSw; clear hSw; go_simp; (try with_reducible rfl))
                    case rsf08 =>
                    try simp only [Act.put, List.setIfInBounds_toArray, List.set_cons_zero, List.set_cons_succ]
                    refine takeH 8 77 (v := ?vsf09) rfl rfl (by kernel_rfl) (by kernel_rfl) (by kernel_rfl) (fun _ _ _ h => h) (Or.inl ⟨by rfl, ?hsf09⟩) hH0 ?rsf09
                    case hsf09 => (intro w hSw; obtain ⟨s0, s1, s2, s3⟩ := hSw; go_simp; (try with_reducible rfl))
                    case rsf09 =>
                    try simp only [Act.put, List.setIfInBounds_toArray, List.set_cons_zero, List.set_cons_succ]
                    refine takeH 9 78 (v := ?vsf010) rfl rfl (by kernel_rfl) (by kernel_rfl) (by kernel_rfl) (fun _ _ _ h => h) (Or.inl ⟨by rfl, ?hsf010⟩) hH0 ?rsf010
                    case hsf010 => (intro w hSw; clear hSw; go_simp; (try with_reducible rfl))
                    case rsf010 =>
                    try simp only [Act.put, List.setIfInBounds_toArray, List.set_cons_zero, List.set_cons_succ]
                    refine takeH 10 79 (v := ?vsf011) rfl rfl (by kernel_rfl) (by kernel_rfl) (by kernel_rfl) (fun _ _ _ h => h) (Or.inl ⟨by rfl, ?hsf011⟩) hH0 ?rsf011
                    case hsf011 => (intro w hSw; clear hSw; go_simp; (try with_reducible rfl))
                    case rsf011 =>
                    try simp only [Act.put, List.setIfInBounds_toArray, List.set_cons_zero, List.set_cons_succ]
                    refine takeH 11 80 (v := ?vsf012) rfl rfl (by kernel_rfl) (by kernel_rfl) (by kernel_rfl) (fun _ _ _ h => h) (Or.inl ⟨by rfl, ?hsf012⟩) hH0 ?rsf012
                    case hsf012 => (intro w hSw; clear hSw; go_simp; (try with_reducible rfl))
                    case rsf012 =>
                    try simp only [Act.put, List.setIfInBounds_toArray, List.set_cons_zero, List.set_cons_succ]
                    refine takeH 12 81 (v := ?vsf013) rfl rfl (by kernel_rfl) (by kernel_rfl) (by kernel_rfl) (fun _ _ _ h => h) (Or.inl ⟨by rfl, ?hsf013⟩) hH0 ?rsf013
                    case hsf013 => (intro w hSw; clear hSw; go_simp; (try with_reducible rfl))
                    case rsf013 =>
                    try simp only [Act.put, List.setIfInBounds_toArray, List.set_cons_zero, List.set_cons_succ]
                    refine takeH 13 82 (v := ?vsf014) rfl rfl (by kernel_rfl) (by kernel_rfl) (by kernel_rfl) (fun _ _ _ h => h) (Or.inl ⟨by rfl, ?hsf014⟩) hH0 ?rsf014
                    case hsf014 => (intro w hSw; clear hSw; go_simp; (try with_reducible rfl))
                    case rsf014 =>
                    try simp only [Act.put, List.setIfInBounds_toArray, List.set_cons_zero, List.set_cons_succ]
                    refine takeH 14 83 (v := ?vsf015) rfl rfl (by kernel_rfl) (by kernel_rfl) (by kernel_rfl) (fun _ _ _ h => h) (Or.inl ⟨by rfl, ?hsf015⟩) hH0 ?rsf015
                    case hsf015 => (intro w hSw; obtain ⟨s0, s1, s2, s3⟩ := hSw; go_simp; (try with_reducible rfl))
                    case rsf015 =>
                    try simp only [Act.put, List.setIfInBounds_toArray, List.set_cons_zero, List.set_cons_succ]
                    refine takeH 15 84 (v := ?vsf016) rfl rfl (by kernel_rfl) (by kernel_rfl) (by kernel_rfl) (fun _ _ _ h => h) (Or.inl ⟨by rfl, ?hsf016⟩) hH0 ?rsf016
                    case hsf016 => (intro w hSw; clear hSw; go_simp; (try with_reducible rfl))
                    case rsf016 =>
                    try simp only [Act.put, List.setIfInBounds_toArray, List.set_cons_zero, List.set_cons_succ]
                    refine takeH 16 85 (v := ?vsf017) rfl rfl (by kernel_rfl) (by kernel_rfl) (by kernel_rfl) (fun _ _ _ h => h) (Or.inl ⟨by rfl, ?hsf017⟩) hH0 ?rsf017
                    case hsf017 => (intro w hSw; clear hSw; go_simp; (try with_reducible rfl))
                    case rsf017 =>
                    try simp only [Act.put, List.setIfInBounds_toArray, List.set_cons_zero, List.set_cons_succ]
                    refine takeH 17 86 (v := ?vsf018) rfl rfl (by kernel_rfl) (by kernel_rfl) (by kernel_rfl) (fun _ _ _ h => h) (Or.inl ⟨by rfl, ?hsf018⟩) hH0 ?rsf018
                    case hsf018 => (intro w hSw; obtain ⟨s0, s1, s2, s3⟩ := hSw; go_simp; (try with_reducible rfl))
                    case rsf018 =>
                    try simp only [Act.put, List.setIfInBounds_toArray, List.set_cons_zero, List.set_cons_succ]
                    refine callH 18 (by kernel_rfl) rfl 87 rfl rfl 87 Tryz.func87 (by kernel_rfl) (by kernel_rfl) #[.tmp 77, .tmp 86] #[48, 48] rfl #[.slice ya yn yc, .slice za zn zc] (by simp [Act.eval]) (R := fun v w' => v = .bool false ∧ Only (fun _ => False) wr.drew w') ((unhide CS).mono (by rintro en w' ⟨rfl, o⟩; exact ⟨_, rfl, rfl, o⟩)) ?ksf0
                    case ksf0 =>
                    rintro _ w6 ⟨rfl, o6⟩
                    have S6 : w6.cell? ⟨k2, 2 + s, none⟩ = some (.slice (some ⟨gq, 0, none⟩) n cq) ∧ w6.cell? ⟨gq, t, none⟩ = some (.slice ya yn yc) ∧ w6.cell? ⟨k, 2 + 0, none⟩ = some (.slice (some ⟨gp, 0, none⟩) n cp) ∧ w6.cell? ⟨gp, t, none⟩ = some (.slice za zn zc) := ⟨o6.cellF hH0.1, o6.cellF hH0.2.1, o6.cellF hH0.2.2.1, o6.cellF hH0.2.2.2⟩
                    refine ⟨S6, ?_⟩
                    try simp only [Act.put, List.setIfInBounds_toArray, List.set_cons_zero, List.set_cons_succ]
                    refine takeH 19 88 (v := ?vsf019) rfl rfl (by kernel_rfl) (by kernel_rfl) (by kernel_rfl) (fun _ _ _ h => h) (Or.inl ⟨by rfl, ?hsf019⟩) S6 ?rsf019
                    case hsf019 => (intro w hSw; clear hSw; go_simp; (try with_reducible rfl))
                    case rsf019 =>
                    try simp only [Act.put, List.setIfInBounds_toArray, List.set_cons_zero, List.set_cons_succ]
                    refine wpAnyH_done (by kernel_rfl) ?_ _
                    have oD : Only (fun _ => False) wr w6 := (Only.refl _ wr).drew.trans o6 (fun _ _ e => e)
                    have HF := hide oD
                    clear hH0 S6 o6 oD
                    have FF := hide (show LaP w M D (.returned (.bool false)) w6 from LaP.no (unhide HH).2.2.1 ((unhide HO).trans (unhide HF) (fun _ _ e => e)) (fun e => unhide Hsr (lasts_rows (unhide HH).2.2.1 e 0 (unhide HT).2.2.2.2.1 (unhide HT).2.2.2.2.2 s)))
                    clear CS y1 y2 z1 z2 k1 k2'' q0
                    go_wp2_with fail
                    go_ret
                    exact unhide FF
                · have d2 : decide ((s : Int) < 4) = false := decide_eq_false (by omega)
                  have HO2 := hide oW
                  clear oW
                  go_wp2_with fail
                  go_roundw
                  case rel => exact ⟨t + 1, by go_num, by omega, unhide HO2⟩
                  case measure => simp [intOf]; omega
          · have a2 : decide ((t : Int) < (n : Int)) = false := decide_eq_false (by omega)
            have FF := hide (show LaP w M D (.returned (.bool true)) wr from LaP.yes oW)
            clear oW H1
            go_wp2_with fail
            go_ret
            exact unhide FF
  · have CN := hide (CN false (decide_eq_false hnm))
    have Hnm := hide hnm
    clear hnm
    go_enter Tryz.func23, Tryz.ntmps23
    go_upto_region 1 with fail
    refine wp_region_held_drew (S := (fun w' => w'.cell? ⟨k, 0, none⟩ = some (.slice pa n pc) ∧ w'.cell? ⟨k2, 0, none⟩ = some (.slice qa m qc))) (by kernel_rfl) ⟨p0, q0⟩ (fun hH0 => ?_)
    refine takeH 0 9 (v := ?vnf1) rfl rfl (by kernel_rfl) (by kernel_rfl) (by kernel_rfl) (fun _ _ _ h => h) (Or.inl ⟨by rfl, ?hnf1⟩) hH0 ?rnf1
    case hnf1 => (intro w hSw; clear hSw; go_simp; (try with_reducible rfl))
    case rnf1 =>
    try simp only [Act.put, List.setIfInBounds_toArray, List.set_cons_zero, List.set_cons_succ]
    refine takeH 1 10 (v := ?vnf2) rfl rfl (by kernel_rfl) (by kernel_rfl) (by kernel_rfl) (fun _ _ _ h => h) (Or.inl ⟨by rfl, ?hnf2⟩) hH0 ?rnf2
    case hnf2 => (intro w hSw; clear hSw; go_simp; (try with_reducible rfl))
    case rnf2 =>
    try simp only [Act.put, List.setIfInBounds_toArray, List.set_cons_zero, List.set_cons_succ]
    refine takeH 2 11 (v := ?vnf3) rfl rfl (by kernel_rfl) (by kernel_rfl) (by kernel_rfl) (fun _ _ _ h => h) (Or.inl ⟨by rfl, ?hnf3⟩) hH0 ?rnf3
    case hnf3 => (intro w hSw; clear hSw; go_simp; (try with_reducible rfl))
    case rnf3 =>
    try simp only [Act.put, List.setIfInBounds_toArray, List.set_cons_zero, List.set_cons_succ]
    refine takeH 3 12 (v := ?vnf4) rfl rfl (by kernel_rfl) (by kernel_rfl) (by kernel_rfl) (fun _ _ _ h => h) (Or.inl ⟨by rfl, ?hnf4⟩) hH0 ?rnf4
    case hnf4 => (intro w hSw; obtain ⟨s0, s1⟩ := hSw; go_simp; (try with_reducible rfl))
    case rnf4 =>
    try simp only [Act.put, List.setIfInBounds_toArray, List.set_cons_zero, List.set_cons_succ]
    refine takeH 4 13 (v := ?vnf5) rfl rfl (by kernel_rfl) (by kernel_rfl) (by kernel_rfl) (fun _ _ _ h => h) (Or.inl ⟨by rfl, ?hnf5⟩) hH0 ?rnf5
    case hnf5 => (intro w hSw; clear hSw; go_simp; (try with_reducible rfl))
    case rnf5 =>
    try simp only [Act.put, List.setIfInBounds_toArray, List.set_cons_zero, List.set_cons_succ]
    refine takeH 5 14 (v := ?vnf6) rfl rfl (by kernel_rfl) (by kernel_rfl) (by kernel_rfl) (fun _ _ _ h => h) (Or.inl ⟨by rfl, ?hnf6⟩) hH0 ?rnf6
    case hnf6 => (intro w hSw; clear hSw; go_simp; (try with_reducible rfl))
    case rnf6 =>
    try simp only [Act.put, List.setIfInBounds_toArray, List.set_cons_zero, List.set_cons_succ]
    refine takeH 6 15 (v := ?vnf7) rfl rfl (by kernel_rfl) (by kernel_rfl) (by kernel_rfl) (fun _ _ _ h => h) (Or.inl ⟨by rfl, ?hnf7⟩) hH0 ?rnf7
    case hnf7 => (intro w hSw; clear hSw; go_simp; (try with_reducible rfl))
    case rnf7 =>
    try simp only [Act.put, List.setIfInBounds_toArray, List.set_cons_zero, List.set_cons_succ]
    refine takeH 7 16 (v := ?vnf8) rfl rfl (by kernel_rfl) (by kernel_rfl) (by kernel_rfl) (fun _ _ _ h => h) (Or.inl ⟨by rfl, ?hnf8⟩) hH0 ?rnf8
    case hnf8 => (intro w hSw; obtain ⟨s0, s1⟩ := hSw; go_simp; (try with_reducible rfl))
    case rnf8 =>
    try simp only [Act.put, List.setIfInBounds_toArray, List.set_cons_zero, List.set_cons_succ]
    refine callH 8 (by kernel_rfl) rfl 17 rfl rfl 86 Tryz.func86 (by kernel_rfl) (by kernel_rfl) #[.tmp 12, .tmp 16] #[52, 52] rfl #[.slice pa n pc, .slice qa m qc] (by simp [Act.eval]) (R := fun v w' => v = .bool false ∧ Only (fun _ => False) w.drew w') ((unhide CN).mono (by rintro en w' ⟨rfl, o⟩; exact ⟨_, rfl, rfl, o⟩)) ?knf
    case knf =>
    rintro _ w6 ⟨rfl, o6⟩
    have S6 : w6.cell? ⟨k, 0, none⟩ = some (.slice pa n pc) ∧ w6.cell? ⟨k2, 0, none⟩ = some (.slice qa m qc) := ⟨o6.cellF hH0.1, o6.cellF hH0.2⟩
    refine ⟨S6, ?_⟩
    try simp only [Act.put, List.setIfInBounds_toArray, List.set_cons_zero, List.set_cons_succ]
    refine takeH 9 18 (v := ?vnf9) rfl rfl (by kernel_rfl) (by kernel_rfl) (by kernel_rfl) (fun _ _ _ h => h) (Or.inl ⟨by rfl, ?hnf9⟩) S6 ?rnf9
    case hnf9 => (intro w hSw; clear hSw; go_simp; (try with_reducible rfl))
    case rnf9 =>
    try simp only [Act.put, List.setIfInBounds_toArray, List.set_cons_zero, List.set_cons_succ]
    refine wpAnyH_done (by kernel_rfl) ?_ _
    have oD : Only (fun _ => False) w w6 := (Only.refl _ w).drew.trans o6 (fun _ _ e => e)
    have HF := hide oD
    clear hH0 S6 o6 oD
    clear CN p0 q0 kl kl2
    have FF := hide (show LaP w M D (.returned (.bool false)) w6 from LaP.no (unhide HH).2.2.1 (unhide HF) (fun e => unhide Hnm (by rw [e])))
    go_wp2_with fail
    go_ret
    exact unhide FF
end
end Go.Proofs.Qxb6500414aGreat
