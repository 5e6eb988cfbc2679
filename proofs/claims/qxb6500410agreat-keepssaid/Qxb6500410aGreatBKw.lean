/-
  OWN WORK. THE B-TREE LAW: KeepsUpTo, Keeps.
-/
import Derived.Test.Qxb6500410aGreatBKw0
import Derived.Deep.RegionHeld3
import Derived.Deep.DeepCutAuto
namespace Go.Proofs.Qxb6500410aGreat
open Go.RowKit Go.PlainAid
set_option linter.unusedSimpArgs false
set_option linter.unusedVariables false

def keep0 : Array Value := #[.pointer none, .pointer none, .pointer none, .pointer none, .pointer none, .pointer none, .bool false, .int .i64 0]
theorem Only.mono' {w w' : World} {lo : Nat} (h : Only (fun _ => False) w w') : Only (fun k => lo ≤ k) w w' := h.mono (fun _ _ h => h.elim)
set_option maxRecDepth 100000 in
set_option maxHeartbeats 16000000 in
theorem gkeepsUpTo_any (ad : Option Addr) (len cap : Nat) (ops : List OpD) (w : World) (hops : OpsAt w ad len ops) (hlen : len ≤ 4398046511104) :
    Calls Tryz.prog 7 #[.slice ad len cap] w fun e w' => e = .returned (.int .i64 (-1)) ∧ Below w.heap.size w w' := by
  have K0 : Has (w.alloc (.cells keep0 35)) w.heap.size keep0 35 := Has.new _ _ _
  have o0 : Only (fun _ => False) w (w.alloc (.cells keep0 35)) := (Only.refl _ w).alloc _
  have C1 := hide (gground_any (w.alloc (.cells keep0 35)))
  unfold keep0 at K0 o0 C1
  go_enter Tryz.func7, Tryz.ntmps7
  go_wp2_with fail
  refine (unhide C1).mono ?_
  rintro e w1 ⟨p, l, d, F, G, rfl, P1, hF, o1⟩
  unfold gbV
  simp only [World.size_alloc] at hF
  have K1 := K0.keep o1 (fun h => h)
  have z1 := o1.size
  simp only [World.size_alloc] at z1
  have k0 := K1.cell 0
  have k1 := K1.cell 1
  have f0 := K1.free 0
  have f1 := K1.free 1
  have K2 := (K1.setCell 0 (.pointer (some ⟨d, 0, none⟩))).setCell 1 (.pointer (some ⟨p, 0, none⟩))
  have oo2 : Only (fun k => k = w.heap.size) w1 ((w1.setCell ⟨w.heap.size, 0, none⟩ (.pointer (some ⟨d, 0, none⟩))).setCell ⟨w.heap.size, 1, none⟩ (.pointer (some ⟨p, 0, none⟩))) := (only1 _ _).trans (only1 _ _) (fun _ _ h => h)
  have P2 := P1.keep oo2 (fun k hk e => by have := hF k (.inl hk); omega) (fun k hk e => by have := hF k (.inr (.inl hk)); omega) (by have := hF p (.inr (.inr rfl)); omega)
  have hCS : ComS (zeros 80) (fun _ => none) := .inl ⟨NV_zero, rfl⟩
  have C2 := hide (vnew_any P2 hCS (by simp))
  have O2 := hide (((o0.trans o1 (fun _ _ h => h)).mono' (lo := w.heap.size)).trans oo2 (fun k _ e => by omega))
  have hst := P1.still
  have HP2 := hide P2
  clear C1 P1 P2 o1 o0 K0 K1
  go_upto_region 3 with fail
  generalize (w1.setCell ⟨w.heap.size, 0, none⟩ (.pointer (some ⟨d, 0, none⟩))).setCell ⟨w.heap.size, 1, none⟩ (.pointer (some ⟨p, 0, none⟩)) = w2 at *
  have e1 := K2.cell 1
  simp at e1
  go_wp2_with fail
  refine (unhide C2).mono ?_
  rintro e w3 ⟨f, rs, com', F', rfl, hf, hF', A3, cf, CI, o3⟩
  have z2 := oo2.size
  have z3 := o3.size
  have K3 := K2.keep o3 (fun h => by have := hF _ h; omega)
  have qA : ∀ k, Gnd.A ⟨f, p, l, d, replay (zeros 153) rs, zeros 153, [] ++ rs, com', F', G⟩ k → w.heap.size + 1 ≤ k := by
    rintro k (h | h | h | h)
    · rcases hF' k h with c | c
      · exact hF k (.inl c)
      · omega
    · exact hF k (.inr (.inl h))
    · exact hF k (.inr (.inr h))
    · have : k = f := h
      omega
  have HCU := hide CI.wide
  have HCF := hide cf
  generalize hq' : (⟨f, p, l, d, replay (zeros 153) rs, zeros 153, [] ++ rs, com', F', G⟩ : Gnd) = q at *
  have ef : f = q.f := by rw [← hq']
  have ed : d = q.d := by rw [← hq']
  have ep : p = q.p := by rw [← hq']
  have HER := hide (show rs = q.recs ∧ zeros 153 = q.base ∧ com' = q.com by rw [← hq']; exact ⟨rfl, rfl, rfl⟩)
  clear hq'
  subst ef
  subst ed
  subst ep
  have u2 := K3.cell 2
  have g2 := K3.free 2
  simp at u2
  have K4 := K3.setCell 2 (.pointer (some ⟨q.f, 0, none⟩))
  have nkA : ¬ q.A w.heap.size := fun h => by have := qA _ h; omega
  have oo4 : Only (fun k => k = w.heap.size) w3 (w3.setCell ⟨w.heap.size, 2, none⟩ (.pointer (some ⟨q.f, 0, none⟩))) := only1 _ _
  have keepK : ∀ {u u' : World}, FV q u false (fun _ => none) → Only (fun k => k = w.heap.size) u u' → FV q u' false (fun _ => none) := fun A ho => A.keep ho (fun k hk e => nkA (by rw [← e]; exact .inl hk)) (fun k hk e => nkA (by rw [← e]; exact .inr (.inl hk))) (fun e => nkA (.inr (.inr (.inl e.symm)))) (fun e => nkA (.inr (.inr (.inr e.symm))))
  have A4 := hide (keepK A3 oo4)
  have O4 := hide (((unhide O2).trans o3 (fun k _ h => by have := hF k h; omega)).trans oo4 (fun k _ e => by omega))
  have C3 := gsteps_any q.p (unhide A4).dk
  unfold gbV at C3
  have C3 := hide C3
  clear C2 K2 e1 K3 A3 o3 oo2 O2 CI cf k0 k1 f0 f1 HP2 hF hF'
  go_upto_region 4 with fail
  generalize w3.setCell ⟨w.heap.size, 2, none⟩ (.pointer (some ⟨q.f, 0, none⟩)) = w4 at *
  have v0 := K4.cell 0
  have v1 := K4.cell 1
  simp at v0 v1
  go_wp2_with fail
  refine (unhide C3).mono ?_
  rintro e w5 ⟨rfl, o5⟩
  have K5 := K4.keep o5 (fun h => h)
  have v7 := K5.cell 7
  have g7 := K5.free 7
  simp at v7
  have K6 := K5.setCell 7 (.int .i64 (q.recs.length : Int))
  have oo6 : Only (fun k => k = w.heap.size) w5 (w5.setCell ⟨w.heap.size, 7, none⟩ (.int .i64 (q.recs.length : Int))) := only1 _ _
  have A6 := hide (keepK ((unhide A4).quiet o5) oo6)
  have O6 := hide (((unhide O4).trans o5 (fun k _ h => h.elim)).trans oo6 (fun k _ e => by omega))
  have C4 := hide (gnew_any (w5.setCell ⟨w.heap.size, 7, none⟩ (.int .i64 (q.recs.length : Int))))
  clear C3 K4 K5 A4 O4 o5 oo6 oo4 v0 v1
  go_upto_region 5 with fail
  generalize w5.setCell ⟨w.heap.size, 7, none⟩ (.int .i64 (q.recs.length : Int)) = w6 at *
  go_wp2_with fail
  refine (unhide C4).mono ?_
  rintro e w7 ⟨gn, tn, rfl, N7, hgn, htn, o7⟩
  have z6 := (unhide O6).size
  have zz6 := K6.lt
  have z7 := o7.size
  have K7 := K6.keep o7 (fun h => h)
  have v3 := K7.cell 3
  have g3 := K7.free 3
  simp at v3
  have K8 := K7.setCell 3 (.pointer (some ⟨gn, 0, none⟩))
  have oo8 : Only (fun k => k = w.heap.size) w7 (w7.setCell ⟨w.heap.size, 3, none⟩ (.pointer (some ⟨gn, 0, none⟩))) := only1 _ _
  have A8 := hide (keepK ((unhide A6).quiet o7) oo8)
  have N8 := hide (N7.keep oo8 (fun k hk e => by rcases hk with h | h | h; omega; omega; simp [Value.ownBlock] at h))
  have O8 := hide (((unhide O6).trans o7 (fun k _ h => h.elim)).trans oo8 (fun k _ e => by omega))
  have C5 := hide (gnew_any (w7.setCell ⟨w.heap.size, 3, none⟩ (.pointer (some ⟨gn, 0, none⟩))))
  have qal := (unhide A6).Alt
  clear C4 K6 K7 A6 O6 o7 v7 g7
  go_upto_region 6 with fail
  generalize hw8 : w7.setCell ⟨w.heap.size, 3, none⟩ (.pointer (some ⟨gn, 0, none⟩)) = w8 at *
  have z8 := oo8.size
  have ntl := (unhide N8).lt
  clear hw8 oo8
  go_wp2_with fail
  refine (unhide C5).mono ?_
  rintro e w9 ⟨gb, tb, rfl, N9, hgb, htb, o9⟩
  have z9 := o9.size
  have K9 := K8.keep o9 (fun h => h)
  have v4 := K9.cell 4
  have g4 := K9.free 4
  have v5 := K9.cell 5
  have g5 := K9.free 5
  simp at v4 v5
  have K10 := (K9.setCell 4 (.pointer (some ⟨gb, 0, none⟩))).setCell 5 (.pointer (some ⟨gb, 0, none⟩))
  have oo10 : Only (fun k => k = w.heap.size) w9 ((w9.setCell ⟨w.heap.size, 4, none⟩ (.pointer (some ⟨gb, 0, none⟩))).setCell ⟨w.heap.size, 5, none⟩ (.pointer (some ⟨gb, 0, none⟩))) := (only1 _ _).trans (only1 _ _) (fun _ _ h => h)
  have A10 := hide (keepK ((unhide A8).quiet o9) oo10)
  have O10 := hide (((unhide O8).trans o9 (fun k _ h => h.elim)).trans oo10 (fun k _ e => by omega))
  have N10 := hide (((unhide N8).quiet o9).keep oo10 (fun k hk e => by rcases hk with h | h | h; omega; omega; simp [Value.ownBlock] at h))
  have B10 := hide (N9.keep oo10 (fun k hk e => by rcases hk with h | h | h; omega; omega; simp [Value.ownBlock] at h))
  have n1 := ntl gn (.inl rfl)
  have n2 := ntl tn (.inr (.inl rfl))
  clear C5 K8 K9 A8 O8 o9 N8 v3 g3 u2 g2
  go_upto_region 8 with fail
  generalize (w9.setCell ⟨w.heap.size, 4, none⟩ (.pointer (some ⟨gb, 0, none⟩))).setCell ⟨w.heap.size, 5, none⟩ (.pointer (some ⟨gb, 0, none⟩)) = w10 at *
  have hqal : ∀ k, q.A k → k < w6.heap.size := qal
  have L10 : ∃ q S C P n b v was, KW w.heap.size w10 w.heap.size q false S C P n b v was ∧ Only (fun k => w.heap.size ≤ k) w w10 := by
    have nf : ∀ {g t : Nat} {k : Nat}, GhF g t (.slice none 0 0) k → k = g ∨ k = t := fun h => by
      rcases h with h | h | h
      · exact .inl h
      · exact .inr h
      · simp [Value.ownBlock] at h
    refine ⟨q, fun _ => none, fun _ => none, fun _ => none, ⟨gn, tn, .slice none 0 0, fun _ => false, []⟩, ⟨gb, tb, .slice none 0 0, fun _ => false, []⟩, ⟨gb, tb, .slice none 0 0, fun _ => false, []⟩, zeros 80, ⟨⟨⟨?_, unhide N10, unhide B10, unhide B10, GR.empty, GR.empty, ?_, ?_, ?_, ⟨nkA, Nat.le_refl _⟩, ?_⟩, unhide A10, GR.empty, fun _ => rfl, ?_⟩, ?_, hCS, by simp⟩, unhide O10⟩
    · simpa [keepC] using K10
    · intro k hk
      have hb : ∀ j, GhF gb tb (.slice none 0 0) j → w8.heap.size ≤ j := fun j hj => by rcases nf hj with h | h <;> omega
      have hk2 : GhF gn tn (.slice none 0 0) k := hk
      have hk' : w6.heap.size ≤ k ∧ k < w8.heap.size := by rcases nf hk2 with h | h <;> omega
      exact ⟨fun h => by have := hqal k h; omega, by omega, fun h => by have := hb k h; omega, fun h => by have := hb k h; omega, by omega⟩
    · intro k hk
      have hk2 : GhF gb tb (.slice none 0 0) k := hk
      have hb : w8.heap.size ≤ k := by rcases nf hk2 with h | h <;> omega
      exact ⟨fun h => by have := hqal k h; omega, by omega, by omega⟩
    · intro k hk
      have hk2 : GhF gb tb (.slice none 0 0) k := hk
      have hb : w8.heap.size ≤ k := by rcases nf hk2 with h | h <;> omega
      exact ⟨fun h => by have := hqal k h; omega, by omega, by omega⟩
    · intro k hk
      have := qA k hk
      omega
    · rw [← (unhide HER).2.2]; exact unhide HCF
    · have := unhide HCU
      rw [(unhide HER).1, (unhide HER).2.1, (unhide HER).2.2] at this
      exact this
  have HLZ := hide L10
  clear L10
  have HL := True.intro
  clear K10 A10 O10 N10 B10 N9 v4 g4 v5 g5 keepK HCU HCF HER oo10 nkA qA hqal qal hst hCS z1 z2 z3 z6 z7 z8 z9 zz6 hgn htn hgb htb hf n1 n2 ntl N7
  clear HL
  obtain ⟨q, S, C, P, n, b, v, was, K, oK⟩ := unhide HLZ
  have x2 := K.j.k.c2
  have x3 := K.j.k.c3
  have CS := hide (K.j.quiet ((Only.refl (fun _ => False) _).drew)).shows
  have HK := hide (And.intro K oK)
  clear K oK HLZ
  go_cut [53] (fun z wx => z = .bool false ∧ LastP w.heap.size w w.heap.size wx)
  case first =>
    go_region_held3 (fun w' => w'.cell? ⟨w.heap.size, 2, none⟩ = some (.pointer (some ⟨q.f, 0, none⟩)) ∧ w'.cell? ⟨w.heap.size, 3, none⟩ = some (.pointer (some ⟨n.g, 0, none⟩))) (first | exact ⟨s2, s3⟩ | exact ⟨x2, x3⟩) (first | (go_at_call 14; refine (unhide CS).mono ?_; rintro e ws ⟨rfl, J5, o5⟩; have HH := hide (show LastP w.heap.size w w.heap.size ws from ⟨q, false, S, C, P, n, b, v, was, ⟨J5, (unhide HK).1.cu, (unhide HK).1.cs, (unhide HK).1.lw⟩, ((unhide HK).2.drew).trans o5 (fun k _ h => (unhide HK).1.j.k.dq k (Gnd.S_A h))⟩); have s2 := J5.k.c2; have s3 := J5.k.c3; have s6 := J5.k.c6; clear J5 o5))
    all_goals
      go_wp2_with fail
      go_meet
      exact ⟨rfl, unhide HH⟩
  case rest =>
  obtain ⟨rfl, HL⟩ := hcut
  have HL := hide HL
  generalize wc = w11 at *
  clear HK CS x2 x3
  obtain ⟨q, op, S, C, P, n, b, v, was, K, oK⟩ := unhide HL
  have x0 := K.j.k.c0
  have x1 := K.j.k.c1
  have x7 := K.j.k.c7
  have CT := gsteps_any q.p (K.j.fv.quiet ((Only.refl (fun _ => False) _).drew)).dk
  unfold gbV at CT
  have CT := hide CT
  have HK := hide (And.intro K oK)
  have b9 : ((q.recs.length : Int) != (q.recs.length : Int)) = false := by simp
  clear K oK HL
  go_upto_region 10 with fail
  go_cut [63] (fun z wx => z = .bool false ∧ LastP w.heap.size w w.heap.size wx)
  case first =>
    go_region_held3 (fun w' => w'.cell? ⟨w.heap.size, 0, none⟩ = some (.pointer (some ⟨q.d, 0, none⟩)) ∧ w'.cell? ⟨w.heap.size, 1, none⟩ = some (.pointer (some ⟨q.p, 0, none⟩)) ∧ w'.cell? ⟨w.heap.size, 7, none⟩ = some (.int .i64 (q.recs.length : Int))) (first | exact ⟨s0, s1, s7⟩ | exact ⟨x0, x1, x7⟩) (first | (go_at_call 12; refine (unhide CT).mono ?_; rintro e ws ⟨rfl, o5⟩; have J5 := ((unhide HK).1.j.quiet ((Only.refl (fun _ => False) _).drew)).quiet o5; have HH := hide (show LastP w.heap.size w w.heap.size ws from ⟨q, op, S, C, P, n, b, v, was, ⟨J5, (unhide HK).1.cu, (unhide HK).1.cs, (unhide HK).1.lw⟩, ((unhide HK).2.drew).trans o5 (fun k _ h => h.elim)⟩); have s0 := J5.k.c0; have s1 := J5.k.c1; have s7 := J5.k.c7; clear J5 o5))
    all_goals
      go_wp2_with fail
      go_meet
      exact ⟨rfl, unhide HH⟩
  case rest =>
  obtain ⟨rfl, HL⟩ := hcut
  have HL := hide HL
  generalize wc = w12 at *
  clear HK CT x0 x1 x7 b9
  go_upto_region 13 with fail
  go_loopw [4] (fun i wr => ∃ kk : Nat, kk ≤ len ∧ i = .int .i64 kk ∧ LastP w.heap.size w w.heap.size wr) (fun i _ => len - (intOf i).toNat)
  case atStart => exact ⟨0, Nat.zero_le _, rfl, unhide HL⟩
  case round =>
    clear HL
    obtain ⟨kk, hk, rfl, HL⟩ := hrel
    have hbel : Below w.heap.size w wr := by
      obtain ⟨q, op, S, C, P, n, b, v, was, K, oK⟩ := HL
      exact Only.bel (Below.refl _ _) oK (fun _ h => h)
    by_cases hkl : kk < len
    · obtain ⟨hol, hoa⟩ := hops
      obtain ⟨ab, aoff, rfl, hcells⟩ := hoa (by omega)
      obtain ⟨y0, y1, y2, y3, y4, y5, hsz⟩ := hcells kk (by omega)
      clear hcells hoa
      have hab : ab < w.heap.size := World.block_lt_of_cell? w ⟨ab, aoff + kk * 6, none⟩ y0
      rw [← hbel.cell (p := ⟨ab, aoff + kk * 6, none⟩) hab] at y0
      rw [← hbel.cell (p := ⟨ab, aoff + kk * 6 + 1, none⟩) hab] at y1
      rw [← hbel.cell (p := ⟨ab, aoff + kk * 6 + 2, none⟩) hab] at y2
      rw [← hbel.cell (p := ⟨ab, aoff + kk * 6 + 3, none⟩) hab] at y3
      rw [← hbel.cell (p := ⟨ab, aoff + kk * 6 + 4, none⟩) hab] at y4
      rw [← hbel.cell (p := ⟨ab, aoff + kk * 6 + 5, none⟩) hab] at y5
      generalize ops[kk]'(by omega) = oo at *
      obtain ⟨ok, oa, ob, oc, os, ot⟩ := oo
      simp only at y0 y1 y2 y3 y4 y5 hsz
      have hkI : (kk : Int) < (len : Int) := by omega
      have hkM : decide ((kk : Int) < 4398046511104) = true := by simp; omega
      obtain ⟨q, op, S, C, P, n, b, v, was, K, oK⟩ := HL
      have oo : Only (fun _ => False) wr (wr.alloc (.cells #[.int .i64 ok, .int .i64 oa, .int .i64 ob, .int .i64 oc, .string os, .string ot] 42)) := (Only.refl _ wr).alloc _
      have ko := Has.new wr #[.int .i64 ok, .int .i64 oa, .int .i64 ob, .int .i64 oc, .string os, .string ot] 42
      have Ko : KW w.heap.size (wr.alloc (.cells #[.int .i64 ok, .int .i64 oa, .int .i64 ob, .int .i64 oc, .string os, .string ot] 42)) w.heap.size q op S C P n b v was := ⟨K.j.quiet oo, K.cu, K.cs, K.lw⟩
      have OO := hide (oK.trans oo (fun k _ h => h.elim))
      have wlt : w.heap.size ≤ wr.heap.size := oK.size
      have kbl := K.j.k.kp.lt
      have qal := K.j.fv.Alt
      clear K oK hol hsz
      by_cases hten : ok = 15
      · subst hten
        have C1 := hide (lasting_any Ko oa)
        clear Ko qal
        go_wp2_with fail
        refine (unhide C1).mono ?_
        rintro e w1 ⟨rfl, hl⟩
        have HL := hide (show LastP w.heap.size w w.heap.size w1 from by
          obtain ⟨q, op, S, C, P, n, b, v, was, K, oK⟩ := hl
          exact ⟨q, op, S, C, P, n, b, v, was, K, (unhide OO).trans oK (fun _ _ h => h)⟩)
        clear hl C1 y0 y1 y2 y3 y4 y5 oo ko
        obtain ⟨q, op, S, C, P, n, b, v, was, K, oK⟩ := unhide HL
        have x2 := K.j.k.c2
        have x3 := K.j.k.c3
        have x6 := K.j.k.c6
        have CS := hide (K.j.quiet ((Only.refl (fun _ => False) _).drew)).shows
        have HK := hide (And.intro K oK)
        clear K oK HL
        go_upto_region 24 with fail
        go_cut [125] (fun z wx => z = .bool false ∧ LastP w.heap.size w w.heap.size wx)
        case first =>
          go_region_held3 (fun w' => w'.cell? ⟨w.heap.size, 2, none⟩ = some (.pointer (some ⟨q.f, 0, none⟩)) ∧ w'.cell? ⟨w.heap.size, 3, none⟩ = some (.pointer (some ⟨n.g, 0, none⟩)) ∧ w'.cell? ⟨w.heap.size, 6, none⟩ = some (.bool op)) (first | exact ⟨s2, s3, s6⟩ | exact ⟨x2, x3, x6⟩) (first | (go_at_call 14; refine (unhide CS).mono ?_; rintro e ws ⟨rfl, J5, o5⟩; have HH := hide (show LastP w.heap.size w w.heap.size ws from ⟨q, op, S, C, P, n, b, v, was, ⟨J5, (unhide HK).1.cu, (unhide HK).1.cs, (unhide HK).1.lw⟩, ((unhide HK).2.drew).trans o5 (fun k _ h => (unhide HK).1.j.k.dq k (Gnd.S_A h))⟩); have s2 := J5.k.c2; have s3 := J5.k.c3; have s6 := J5.k.c6; clear J5 o5))
          all_goals
            go_wp2_with fail
            go_meet
            exact ⟨rfl, unhide HH⟩
        case rest =>
        obtain ⟨rfl, HL⟩ := hcut
        have HL := hide HL
        generalize wc = w21 at *
        clear HK CS x2 x3 x6
        obtain ⟨q, op, S, C, P, n, b, v, was, K, oK⟩ := unhide HL
        have x0 := K.j.k.c0
        have x1 := K.j.k.c1
        have x7 := K.j.k.c7
        have CT := gsteps_any q.p (K.j.fv.quiet ((Only.refl (fun _ => False) _).drew)).dk
        unfold gbV at CT
        have CT := hide CT
        have HK := hide (And.intro K oK)
        have b9 : ((q.recs.length : Int) != (q.recs.length : Int)) = false := by simp
        clear K oK HL
        go_upto_region 26 with fail
        go_cut [136] (fun z wx => z = .bool false ∧ LastP w.heap.size w w.heap.size wx)
        case first =>
          go_region_held3 (fun w' => w'.cell? ⟨w.heap.size, 0, none⟩ = some (.pointer (some ⟨q.d, 0, none⟩)) ∧ w'.cell? ⟨w.heap.size, 1, none⟩ = some (.pointer (some ⟨q.p, 0, none⟩)) ∧ w'.cell? ⟨w.heap.size, 7, none⟩ = some (.int .i64 (q.recs.length : Int))) (first | exact ⟨s0, s1, s7⟩ | exact ⟨x0, x1, x7⟩) (first | (go_at_call 12; refine (unhide CT).mono ?_; rintro e ws ⟨rfl, o5⟩; have J5 := ((unhide HK).1.j.quiet ((Only.refl (fun _ => False) _).drew)).quiet o5; have HH := hide (show LastP w.heap.size w w.heap.size ws from ⟨q, op, S, C, P, n, b, v, was, ⟨J5, (unhide HK).1.cu, (unhide HK).1.cs, (unhide HK).1.lw⟩, ((unhide HK).2.drew).trans o5 (fun k _ h => h.elim)⟩); have s0 := J5.k.c0; have s1 := J5.k.c1; have s7 := J5.k.c7; clear J5 o5))
          all_goals
            go_wp2_with fail
            go_meet
            exact ⟨rfl, unhide HH⟩
        case rest =>
        obtain ⟨rfl, HL⟩ := hcut
        have HL := hide HL
        generalize wc = w22 at *
        clear HK CT x0 x1 x7 b9
        go_wp2_with fail
        go_roundw
        case rel => exact ⟨kk + 1, by omega, by go_num, unhide HL⟩
        case measure => simp [intOf]; omega
      · have hcb : (ok == 15) = false := tne hten
        have C1 := gmark_any q.p Ko.j.fv.dk
        unfold gbV at C1
        have C1 := hide C1
        have x0 := Ko.j.k.c0
        have x1 := Ko.j.k.c1
        clear hten
        go_wp2_with fail
        refine (unhide C1).mono ?_
        rintro e wm ⟨rfl, hdm, hom⟩
        have sm := hom.size
        simp only [World.size_alloc] at sm
        have jm := Ko.j.marked hdm hom
        have kom := ko.keep hom (fun hf => by have := qal _ (.inl hf); omega)
        have OM := hide ((unhide OO).trans hom (fun k _ h => Ko.j.k.dq k (.inl h)))
        have lcm := jm.fv.lcom
        have stm := jm.fv.still
        generalize hqm : q.mark (wr.alloc (.cells #[.int .i64 ok, .int .i64 oa, .int .i64 ob, .int .i64 oc, .string os, .string ot] 42)) wm = qm at *
        have hb0 : qm.base = qm.blk ∧ qm.recs = [] := by rw [← hqm]; exact ⟨rfl, rfl⟩
        have c4 := jm.k.c4
        have c5 := jm.k.c5
        have f5 := jm.k.kp.free 5
        obtain ⟨jn, on⟩ := jm.olden
        have ON := hide ((unhide OM).trans on (fun k _ e => by omega))
        have kon := kom.keep on (by omega)
        have C2 := hide (turn_any jn (by rw [hb0.2]; simp) ok oa ob oc os ot)
        have HB0 := hide (And.intro hb0 (And.intro stm (And.intro jm.cf lcm)))
        clear C1 Ko x0 x1 hdm hom OO OM kom jm jn hqm hb0 stm lcm oo ko
        go_upto_region 21 with fail
        generalize wm.setCell ⟨w.heap.size, 5, none⟩ (.pointer (some ⟨b.g, 0, none⟩)) = wn at *
        have kc0 := kon.cell 0
        have kc1 := kon.cell 1
        have kc2 := kon.cell 2
        have kc3 := kon.cell 3
        have kc4 := kon.cell 4
        have kc5 := kon.cell 5
        simp at kc0 kc1 kc2 kc3 kc4 kc5
        clear c4 c5 f5 on y0 y1 y2 y3 y4 y5
        go_wp2_with fail
        refine (unhide C2).mono ?_
        rintro e w3 ⟨rfl, q3, op3, S3, C3, n3, b3, J3, hqs, o3⟩
        have O3 := hide ((unhide ON).trans o3 (fun _ _ h => h))
        have HQ := hide hqs
        have CT := gsteps_any q3.p J3.fv.dk
        unfold gbV at CT
        have CT := hide CT
        have x0 := J3.k.c0
        have x1 := J3.k.c1
        clear C2 hqs o3 ON kon kc0 kc1 kc2 kc3 kc4 kc5
        go_wp2_with fail
        refine (unhide CT).mono ?_
        rintro e w4 ⟨rfl, o4⟩
        have J4 := J3.quiet o4
        have x7 := J4.k.c7
        have f7 := J4.k.kp.free 7
        obtain ⟨J5, o5⟩ := J4.noted (q3.recs.length : Int)
        have HL := hide (show LastP w.heap.size w w.heap.size (w4.setCell ⟨w.heap.size, 7, none⟩ (.int .i64 (q3.recs.length : Int))) from
          ⟨q3, op3, S3, C3, C, n3, b3, b, qm.com, KW.step (unhide HB0).1.1 (unhide HB0).1.2 (unhide HB0).2.1 (unhide HB0).2.2.1 (unhide HB0).2.2.2 J5 (unhide HQ), ((unhide O3).trans o4 (fun _ _ h => h.elim)).trans o5 (fun k _ e => by omega)⟩)
        clear J3 J4 J5 o4 o5 CT x0 x1 HB0 HQ O3
        go_upto_region 24 with fail
        generalize w4.setCell ⟨w.heap.size, 7, none⟩ (.int .i64 (q3.recs.length : Int)) = w5 at *
        clear x7 f7
        obtain ⟨q, op, S, C, P, n, b, v, was, K, oK⟩ := unhide HL
        have x2 := K.j.k.c2
        have x3 := K.j.k.c3
        have x6 := K.j.k.c6
        have CS := hide (K.j.quiet ((Only.refl (fun _ => False) _).drew)).shows
        have HK := hide (And.intro K oK)
        clear K oK HL
        go_cut [125] (fun z wx => z = .bool false ∧ LastP w.heap.size w w.heap.size wx)
        case first =>
          go_region_held3 (fun w' => w'.cell? ⟨w.heap.size, 2, none⟩ = some (.pointer (some ⟨q.f, 0, none⟩)) ∧ w'.cell? ⟨w.heap.size, 3, none⟩ = some (.pointer (some ⟨n.g, 0, none⟩)) ∧ w'.cell? ⟨w.heap.size, 6, none⟩ = some (.bool op)) (first | exact ⟨s2, s3, s6⟩ | exact ⟨x2, x3, x6⟩) (first | (go_at_call 14; refine (unhide CS).mono ?_; rintro e ws ⟨rfl, J5, o5⟩; have HH := hide (show LastP w.heap.size w w.heap.size ws from ⟨q, op, S, C, P, n, b, v, was, ⟨J5, (unhide HK).1.cu, (unhide HK).1.cs, (unhide HK).1.lw⟩, ((unhide HK).2.drew).trans o5 (fun k _ h => (unhide HK).1.j.k.dq k (Gnd.S_A h))⟩); have s2 := J5.k.c2; have s3 := J5.k.c3; have s6 := J5.k.c6; clear J5 o5))
          all_goals
            go_wp2_with fail
            go_meet
            exact ⟨rfl, unhide HH⟩
        case rest =>
        obtain ⟨rfl, HL⟩ := hcut
        have HL := hide HL
        generalize wc = w21 at *
        clear HK CS x2 x3 x6
        obtain ⟨q, op, S, C, P, n, b, v, was, K, oK⟩ := unhide HL
        have x0 := K.j.k.c0
        have x1 := K.j.k.c1
        have x7 := K.j.k.c7
        have CT := gsteps_any q.p (K.j.fv.quiet ((Only.refl (fun _ => False) _).drew)).dk
        unfold gbV at CT
        have CT := hide CT
        have HK := hide (And.intro K oK)
        have b9 : ((q.recs.length : Int) != (q.recs.length : Int)) = false := by simp
        clear K oK HL
        go_upto_region 26 with fail
        go_cut [136] (fun z wx => z = .bool false ∧ LastP w.heap.size w w.heap.size wx)
        case first =>
          go_region_held3 (fun w' => w'.cell? ⟨w.heap.size, 0, none⟩ = some (.pointer (some ⟨q.d, 0, none⟩)) ∧ w'.cell? ⟨w.heap.size, 1, none⟩ = some (.pointer (some ⟨q.p, 0, none⟩)) ∧ w'.cell? ⟨w.heap.size, 7, none⟩ = some (.int .i64 (q.recs.length : Int))) (first | exact ⟨s0, s1, s7⟩ | exact ⟨x0, x1, x7⟩) (first | (go_at_call 12; refine (unhide CT).mono ?_; rintro e ws ⟨rfl, o5⟩; have J5 := ((unhide HK).1.j.quiet ((Only.refl (fun _ => False) _).drew)).quiet o5; have HH := hide (show LastP w.heap.size w w.heap.size ws from ⟨q, op, S, C, P, n, b, v, was, ⟨J5, (unhide HK).1.cu, (unhide HK).1.cs, (unhide HK).1.lw⟩, ((unhide HK).2.drew).trans o5 (fun k _ h => h.elim)⟩); have s0 := J5.k.c0; have s1 := J5.k.c1; have s7 := J5.k.c7; clear J5 o5))
          all_goals
            go_wp2_with fail
            go_meet
            exact ⟨rfl, unhide HH⟩
        case rest =>
        obtain ⟨rfl, HL⟩ := hcut
        have HL := hide HL
        generalize wc = w22 at *
        clear HK CT x0 x1 x7 b9
        go_wp2_with fail
        go_roundw
        case rel => exact ⟨kk + 1, by omega, by go_num, unhide HL⟩
        case measure => simp [intOf]; omega
    · have hkI : decide ((kk : Int) < (len : Int)) = false := by simp; omega
      go_wp2_with fail
      go_ret
      exact ⟨rfl, hbel⟩
theorem gkeeps_any (ad : Option Addr) (len cap : Nat) (ops : List OpD) (w : World) (hops : OpsAt w ad len ops) (hlen : len ≤ 4398046511104) :
    Calls Tryz.prog 3 #[.slice ad len cap] w fun e w' => e = .returned (.bool true) ∧ Below w.heap.size w w' := by
  go_enter Tryz.func3, Tryz.ntmps3
  go_wp2_with fail
  refine (gkeepsUpTo_any ad len cap ops _ hops hlen).mono ?_
  rintro e w' ⟨rfl, hb⟩
  go_wp2_with fail
  go_ret
  exact ⟨rfl, hb⟩
end Go.Proofs.Qxb6500410aGreat
