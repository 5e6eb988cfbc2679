/-
  OWN WORK. THE TXN LAW: walk. (tools/gen_xwk.py writes it.)
-/
import Derived.Test.Qxb6500414aGreatXR4
import Derived.Test.Qxb6500414aGreatXG9
import Derived.Deep.DeepCutAuto
namespace Go.Proofs.Qxb6500414aGreat
open Go.RowKit Go.PlainAid
set_option linter.unusedSimpArgs false
set_option linter.unusedVariables false

set_option maxRecDepth 100000 in
set_option maxHeartbeats 32000000 in
theorem xwalkS_any (ad : Option Addr) (len cap : Nat) (ops : List OpD) (w : World) (hops : OpsAt w ad len ops) (hlen : len ≤ 4398046511104) :
    Calls Tryz.prog 10 #[.slice ad len cap, .bool true, .bool false] w fun e w' => (∃ n : Int, e = .returned (.tuple #[.int .i64 (-1), .int .i64 n])) ∧ Below w.heap.size w w' := by
  have C1 := hide (xlground_any w)
  go_enter Tryz.func10, Tryz.ntmps10
  go_wp2_with fail
  refine (unhide C1).mono ?_
  rintro e w1 ⟨q, x, S, T, rfl, st, la, hd, cf, cu, hlo, o1⟩
  clear C1
  unfold jbV jbC
  have KB : Has (w1.alloc (.cells (jbC q.d x) 30)) w1.heap.size (jbC q.d x) 30 := Has.new w1 _ _
  have o2 : Only (fun _ => False) w1 (w1.alloc (.cells (jbC q.d x) 30)) := (Only.refl _ w1).alloc _
  have alt := st.fv.Alt
  have xl := st.has.lt
  have s1 := o1.size
  have HS := hide (And.intro (st.quiet o2) (And.intro la (And.intro hd (And.intro cf (And.intro cu (And.intro hlo (And.intro (o1.trans o2 (fun _ _ e => e)) (And.intro alt (And.intro xl s1)))))))))
  have HBX := hide KB
  unfold jbC at HBX HS
  clear st la hd cf cu hlo o1 o2 KB alt xl s1
  go_upto_region 2 with fail
  generalize w1.alloc (.cells #[.pointer (some ⟨q.d, 0, none⟩), .pointer (some ⟨x, 0, none⟩)] 30) = w2 at *
  generalize hkb : w1.heap.size = kb at *
  have HKB := hide hkb
  clear hkb
  have b1 : w2.cell? ⟨kb, 1, none⟩ = some (.pointer (some ⟨x, 0, none⟩)) := (unhide HBX).cell 1
  have kbl := (unhide HBX).lt
  have C2 := hide (xnew_any x w2)
  go_wp2_with fail
  refine (unhide C2).mono ?_
  rintro e w3 ⟨g, rfl, hg, xm, o3⟩
  clear C2 b1
  have s3 := o3.size
  have HRX := hide (show RX q w3 g x (Mu0 []) (fun k => k = g) from by
    obtain ⟨st, la, hd, cf, cu, hlo, o12, alt, xl, s1⟩ := unhide HS
    have rx := RX.new (st.quiet o3) la cf xm ⟨fun c => (by have := alt g c; have := unhide HKB; omega), by have := unhide HKB; omega⟩
    rw [hd] at rx
    exact rx)
  have HON := hide (show Only (fun k => w.heap.size ≤ k) w w3 from ((unhide HS).2.2.2.2.2.2.1.trans o3 (fun _ _ e => e)).mono (fun _ _ e => e.elim))
  have HBX := hide ((unhide HBX).keep o3 (fun e => e))
  have hg2 : w2.heap.size ≤ g := hg
  clear xm o3
  have C3 := hide (xnnew_any w3)
  go_wp2_with fail
  refine (unhide C3).mono ?_
  rintro e w4 ⟨m, H0, rfl, n4, hH0, o4⟩
  have hm := n4.hm
  have C4 := hide (xnmark_any n4)
  clear C3 n4
  go_wp2_with fail
  refine (unhide C4).mono ?_
  rintro e w5 ⟨rfl, n5, o5⟩
  have n5 : NX w5 m (Mu0 []) [] none (Ext H0 w4 w5) := n5
  have C5 := hide (xnclone_any n5)
  clear C4
  go_wp2_with fail
  refine (unhide C5).mono ?_
  rintro e w6 ⟨mb, Hb, rfl, n6, hHb, o6⟩
  clear C5
  have hmw := hH0 m hm
  have s4 := o4.size
  have HBX := hide ((((unhide HBX).keep o4 (fun e => e)).keep o5 (fun e => by have e' : kb = m := e; omega)).keep o6 (fun e => e))
  have HON := hide ((((unhide HON).trans (o4.mono (T := fun k => w.heap.size ≤ k) (fun _ _ e => e.elim)) (fun _ _ e => e)).trans o5 (fun k _ e => by have e' : k = m := e; have := (unhide HON).size; omega)).trans (o6.mono (T := fun k => w.heap.size ≤ k) (fun _ _ e => e.elim)) (fun _ _ e => e))
  have HW : Hid (WB w.heap.size w6 q g x (Mu0 []) (fun k => k = g) m (Mu0 []) [] none (Ext H0 w4 w5) mb (Mu0 []) [] Hb (fun b => b = kb)) := hide (by
    obtain ⟨st, la, hd, cf, cu, hlo, o12, alt, xl, s1⟩ := unhide HS
    have hkb := unhide HKB
    have z12 := o12.size
    refine WB.start (unhide HRX) cu (fun k hk => ?_) (by omega) hH0 hm o4 n5 o5 n6 hHb o6 (fun b hb => ?_)
    · rcases hk with c | c | c
      · exact hlo k (.inl c)
      · exact hlo k (.inr c)
      · omega
    · subst hb
      exact ⟨fun c => (by have := alt _ c; omega), by omega, by omega, by omega, by omega⟩)
  clear HRX HS n5 n6 hH0 hm hHb o4 o5 o6 hmw hg hg2 s3 s4 kbl HKB
  have oG : Only (fun _ => False) w6 (w6.alloc (.cells #[.slice none 0 0, .slice none 0 0, .slice none 0 0, .slice none 0 0, .slice none 0 0, .bool false, .bool false, .bool false, .bool false] 42)) := (Only.refl _ w6).alloc _
  have gh : GhAt (w6.alloc (.cells (ghC (GhM.z (.slice none 0 0) [])) 42)) w6.heap.size (GhM.z (.slice none 0 0) []) [] := GhAt.new (ML.nil w6) rfl ⟨fun t h => (by cases h), List.Pairwise.nil, by simp⟩
  have glt := gh.lt
  rw [ghz_cells] at gh glt
  have HGH : Hid (GhAt (w6.alloc (.cells #[.slice none 0 0, .slice none 0 0, .slice none 0 0, .slice none 0 0, .slice none 0 0, .bool false, .bool false, .bool false, .bool false] 42)) w6.heap.size (GhM.z (.slice none 0 0) []) (Mu0 []).com ∧ SerI (Mu0 []) (GhM.z (.slice none 0 0) []) (Mu0 []).com) := hide ⟨gh, SerI.new [] _ _⟩
  have HKG := hide (show ¬ (GhM.z (.slice none 0 0) []).A w6.heap.size kb from fun c => by
    have := ((unhide HW).ex kb rfl).2.2.2.2.2.1
    rcases ghz_A c with d | d | d
    · omega
    · rcases d with d | ⟨_, d, _⟩ <;> cases d
    · obtain ⟨_, d, _⟩ := d
      cases d)
  have HW := hide ((unhide HW).add (E' := fun b => b = kb ∨ (GhM.z (.slice none 0 0) []).A w6.heap.size b) oG (fun b hb => hb.imp id (fun c => ⟨(by
    rcases ghz_A c with d | d | d
    · omega
    · rcases d with d | ⟨_, d, _⟩ <;> cases d
    · obtain ⟨_, d, _⟩ := d
      cases d), glt b c⟩)))
  have HBX := hide ((unhide HBX).keep oG (fun e => e))
  have HON := hide ((unhide HON).trans (oG.mono (T := fun k => w.heap.size ≤ k) (fun _ _ e => e.elim)) (fun _ _ e => e))
  clear oG gh glt
  go_upto_region 7 with fail
  generalize w6.alloc (.cells #[.slice none 0 0, .slice none 0 0, .slice none 0 0, .slice none 0 0, .slice none 0 0, .bool false, .bool false, .bool false, .bool false] 42) = w7 at *
  generalize w6.heap.size = kG at *
  have c0 : w7.cell? ⟨kb, 0, none⟩ = some (.pointer (some ⟨q.d, 0, none⟩)) := (unhide HBX).cell 0
  have c1 : w7.cell? ⟨kb, 1, none⟩ = some (.pointer (some ⟨x, 0, none⟩)) := (unhide HBX).cell 1
  have cl := (unhide HBX).lt
  have CT := xlsteps_any x (unhide HW).rx.dk
  unfold jbV jbC at CT
  have CT := hide CT
  go_wp2_with fail
  refine (unhide CT).mono ?_
  rintro e w8 ⟨rfl, oT⟩
  have HBX := hide ((unhide HBX).keep oT (fun e => e))
  have HGH := hide (And.intro ((unhide HGH).1.keep oT (fun _ _ e => e)) (unhide HGH).2)
  have HW := hide ((unhide HW).quiet oT)
  have HON := hide ((unhide HON).trans (oT.mono (T := fun k => w.heap.size ≤ k) (fun _ _ e => e.elim)) (fun _ _ e => e))
  clear c0 c1 cl
  clear CT oT
  have c0 : w8.cell? ⟨kb, 0, none⟩ = some (.pointer (some ⟨q.d, 0, none⟩)) := (unhide HBX).cell 0
  have c1 : w8.cell? ⟨kb, 1, none⟩ = some (.pointer (some ⟨x, 0, none⟩)) := (unhide HBX).cell 1
  have cl := (unhide HBX).lt
  have CT := xlbracket_any q.d (unhide HW).rx
  unfold jbV jbC at CT
  have CT := hide CT
  go_wp2_with fail
  refine (unhide CT).mono ?_
  rintro e w9 ⟨rfl, oT⟩
  have HBX := hide ((unhide HBX).keep oT (fun e => e))
  have HGH := hide (And.intro ((unhide HGH).1.keep oT (fun _ _ e => e)) (unhide HGH).2)
  have HW := hide ((unhide HW).quiet oT)
  have HON := hide ((unhide HON).trans (oT.mono (T := fun k => w.heap.size ≤ k) (fun _ _ e => e.elim)) (fun _ _ e => e))
  clear c0 c1 cl
  clear CT oT
  have CT := hide (rcheck_any (unhide HW).rx)
  go_wp2_with fail
  refine (unhide CT).mono ?_
  rintro e wA ⟨rfl, rT, oT⟩
  have HBX := hide ((unhide HBX).keep oT (fun c => ((unhide HW).ex _ (.inl rfl)).1 (Gnd.S_A c)))
  have HGH := hide (And.intro ((unhide HGH).1.keep oT (fun k hk c => ((unhide HW).ex _ (.inr hk)).1 (Gnd.S_A c))) (unhide HGH).2)
  have HON := hide ((unhide HON).trans oT (fun k _ c => (unhide HW).lr k (.inl (Gnd.S_A c))))
  have HW := hide ((unhide HW).look rT oT)
  clear CT oT rT
  have CT := hide (xlalike_any (unhide HW).al (unhide HW).apt (unhide HW).rx.dg.1.len)
  go_wp2_with fail
  refine (unhide CT).mono ?_
  rintro e wB ⟨bT, rfl, hT, aT⟩
  obtain rfl := hT.mpr (Obs.refl _)
  have HBX := hide ((unhide HBX).keep aT.on ((unhide HW).keepA (.inl rfl)))
  have HGH := hide (And.intro ((unhide HGH).1.keep aT.on (fun k hk => (unhide HW).keepA (.inr hk))) (unhide HGH).2)
  have HON := hide ((unhide HON).trans aT.on (fun k _ c => c.elim (fun c => (unhide HW).lr k (.inl (Gnd.S_A c))) (fun c => by rw [c]; exact ((unhide HW).sm _ (unhide HW).nm.hm).2.2.2)))
  have HW := hide ((unhide HW).alike aT)
  clear CT aT hT
  have c0 : wB.cell? ⟨kb, 0, none⟩ = some (.pointer (some ⟨q.d, 0, none⟩)) := (unhide HBX).cell 0
  have c1 : wB.cell? ⟨kb, 1, none⟩ = some (.pointer (some ⟨x, 0, none⟩)) := (unhide HBX).cell 1
  have cl := (unhide HBX).lt
  have CT := xlsteps_any x (unhide HW).rx.dk
  unfold jbV jbC at CT
  have CT := hide CT
  have b9 : ((q.recs.length : Int) != (q.recs.length : Int)) = false := by simp
  have b9n : (q.recs.length != q.recs.length) = false := by simp
  go_wp2_with fail
  refine (unhide CT).mono ?_
  rintro e wC ⟨rfl, oT⟩
  have HBX := hide ((unhide HBX).keep oT (fun e => e))
  have HGH := hide (And.intro ((unhide HGH).1.keep oT (fun _ _ e => e)) (unhide HGH).2)
  have HW := hide ((unhide HW).quiet oT)
  have HON := hide ((unhide HON).trans (oT.mono (T := fun k => w.heap.size ≤ k) (fun _ _ e => e.elim)) (fun _ _ e => e))
  clear c0 c1 cl
  clear CT oT
  have HZ := hide (show LX w kb (.pointer (some ⟨g, 0, none⟩)) (.pointer (some ⟨m, 0, none⟩)) (.pointer (some ⟨mb, 0, none⟩)) (.pointer (some ⟨kG, 0, none⟩)) wC from ⟨q, g, x, _, _, m, _, _, _, mb, _, _, _, kG, _, rfl, rfl, rfl, rfl, unhide HBX, (unhide HGH).1, (unhide HGH).2, unhide HKG, (unhide HW).sub (fun b hb => hb), unhide HON⟩)
  clear HBX HW HON HGH HKG b9 b9n
  go_upto_region 18 with fail
  go_loopw [9, 10, 11, 12, 14, 15, 16, 17, 18, 19, 20, 21, 22, 23, 24, 25, 26] (fun tv mv bv gv iv _ _ _ _ _ _ _ _ _ _ _ _ wr => ∃ kk : Nat, kk ≤ len ∧ iv = .int .i64 kk ∧ LX w kb tv mv bv gv wr) (fun _ _ _ _ iv _ _ _ _ _ _ _ _ _ _ _ _ _ => len - (intOf iv).toNat)
  case atStart => exact ⟨0, Nat.zero_le _, rfl, unhide HZ⟩
  case round =>
    clear HZ
    obtain ⟨kk, hk, rfl, q, g, x, M, K, m, U, hist, H, mb, Mb, Ub, Hb, kG, gm, rfl, rfl, rfl, rfl, BX, GH, SE, KG, WW, ON⟩ := hrel
    have hbel : Below w.heap.size w wr := Only.bel (Below.refl _ _) ON (fun _ h => h)
    by_cases hkl : kk < len
    · obtain ⟨hol, hoa⟩ := hops
      obtain ⟨ab, aoff, rfl, hcells⟩ := hoa (by omega)
      obtain ⟨y0, y1, y2, y3, y4, y5, hsz, hst⟩ := hcells kk (by omega)
      clear hcells hoa
      have hab : ab < w.heap.size := World.block_lt_of_cell? w ⟨ab, aoff + kk * 6, none⟩ y0
      rw [← hbel.cell (p := ⟨ab, aoff + kk * 6, none⟩) hab] at y0
      rw [← hbel.cell (p := ⟨ab, aoff + kk * 6 + 1, none⟩) hab] at y1
      rw [← hbel.cell (p := ⟨ab, aoff + kk * 6 + 2, none⟩) hab] at y2
      rw [← hbel.cell (p := ⟨ab, aoff + kk * 6 + 3, none⟩) hab] at y3
      rw [← hbel.cell (p := ⟨ab, aoff + kk * 6 + 4, none⟩) hab] at y4
      rw [← hbel.cell (p := ⟨ab, aoff + kk * 6 + 5, none⟩) hab] at y5
      generalize ops[kk]'(by omega) = oo at *
      obtain ⟨ok, oa, ob, oc, os, ot⟩ := oo
      simp only at y0 y1 y2 y3 y4 y5 hsz hst
      have hkI : (kk : Int) < (len : Int) := by omega
      have hkD : decide ((kk : Int) < (len : Int)) = true := decide_eq_true hkI
      have hkM : decide ((kk : Int) < 4398046511104) = true := by simp; omega
      have HST := hide hst
      have oo : Only (fun _ => False) wr (wr.alloc (.cells #[.int .i64 ok, .int .i64 oa, .int .i64 ob, .int .i64 oc, .string os, .string ot] 44)) := (Only.refl _ wr).alloc _
      have HOB := hide (Has.new wr #[.int .i64 ok, .int .i64 oa, .int .i64 ob, .int .i64 oc, .string os, .string ot] 44)
      have HW := hide (WW.add (E' := fun b => (fun b => b = kb ∨ gm.A kG b) b ∨ b = wr.heap.size) oo (fun b hb => hb.imp id (fun c => ⟨by omega, by rw [c]; simp⟩)))

      have BX := BX.keep oo (fun e => e)
      unfold jbC at BX
      have HBX := hide BX
      have HGH := hide (And.intro (GH.quiet oo) SE)
      have HKG := hide KG
      have HON := hide (ON.trans (oo.mono (T := fun k => w.heap.size ≤ k) (fun _ _ e => e.elim)) (fun _ _ e => e))
      clear WW ON BX GH SE KG hol hsz hst hbel oo
      go_upto_region 21 with fail
      generalize wr.alloc (.cells #[.int .i64 ok, .int .i64 oa, .int .i64 ob, .int .i64 oc, .string os, .string ot] 44) = wa at *
      generalize wr.heap.size = og at *
      clear y0 y1 y2 y3 y4 y5
      by_cases hcut : ok = 18
      · subst hcut
        have k0 : wa.cell? ⟨og, 0, none⟩ = some (.int .i64 18) := (unhide HOB).cell 0
        have k1 : wa.cell? ⟨og, 1, none⟩ = some (.int .i64 oa) := (unhide HOB).cell 1
        have k2 : wa.cell? ⟨og, 2, none⟩ = some (.int .i64 ob) := (unhide HOB).cell 2
        have k3 : wa.cell? ⟨og, 3, none⟩ = some (.int .i64 oc) := (unhide HOB).cell 3
        have k4 : wa.cell? ⟨og, 4, none⟩ = some (.string os) := (unhide HOB).cell 4
        have k5 : wa.cell? ⟨og, 5, none⟩ = some (.string ot) := (unhide HOB).cell 5
        have kl := (unhide HOB).lt
        have HZ := hide (show LX w kb (.pointer (some ⟨g, 0, none⟩)) (.pointer (some ⟨m, 0, none⟩)) (.pointer (some ⟨mb, 0, none⟩)) (.pointer (some ⟨kG, 0, none⟩)) wa from ⟨q, g, x, _, _, m, _, _, _, mb, _, _, _, kG, _, rfl, rfl, rfl, rfl, unhide HBX, (unhide HGH).1, (unhide HGH).2, unhide HKG, (unhide HW).sub (fun b hb => .inl hb), unhide HON⟩)
        clear HBX HW HON HOB HGH HKG
        go_wp2_with fail
        go_roundw
        case rel => exact ⟨kk + 1, by omega, by go_num, unhide HZ⟩
        case measure => simp [intOf]; omega
      · have b18 : (ok != 18) = true := by simpa using hcut
        clear hcut
        have k0 : wa.cell? ⟨og, 0, none⟩ = some (.int .i64 ok) := (unhide HOB).cell 0
        have k1 : wa.cell? ⟨og, 1, none⟩ = some (.int .i64 oa) := (unhide HOB).cell 1
        have k2 : wa.cell? ⟨og, 2, none⟩ = some (.int .i64 ob) := (unhide HOB).cell 2
        have k3 : wa.cell? ⟨og, 3, none⟩ = some (.int .i64 oc) := (unhide HOB).cell 3
        have k4 : wa.cell? ⟨og, 4, none⟩ = some (.string os) := (unhide HOB).cell 4
        have k5 : wa.cell? ⟨og, 5, none⟩ = some (.string ot) := (unhide HOB).cell 5
        have kl := (unhide HOB).lt
        have c0 : wa.cell? ⟨kb, 0, none⟩ = some (.pointer (some ⟨q.d, 0, none⟩)) := (unhide HBX).cell 0
        have c1 : wa.cell? ⟨kb, 1, none⟩ = some (.pointer (some ⟨x, 0, none⟩)) := (unhide HBX).cell 1
        have cl := (unhide HBX).lt
        have CM := xlmark_any x (unhide HW).rx.dk
        unfold jbV jbC at CM
        have CM := hide CM
        go_wp2_with fail
        refine (unhide CM).mono ?_
        rintro e w1 ⟨rfl, hd1, o1⟩
        clear c0 c1 cl
        clear k0 k1 k2 k3 k4 k5 kl
        clear CM b18
        have HW0 := HW
        have HBX := hide ((unhide HBX).keep o1 (fun c => ((unhide HW).ex _ (.inl (.inl rfl))).1 (.inl c)))
        have HOB := hide ((unhide HOB).keep o1 (fun c => ((unhide HW).ex _ (.inr rfl)).1 (.inl c)))
        have HGH := hide (And.intro ((unhide HGH).1.keep o1 (fun k hk c => ((unhide HW).ex _ (.inl (.inr hk))).1 (.inl c))) (unhide HGH).2)
        have HON := hide ((unhide HON).trans o1 (fun k _ c => (unhide HW).lr k (.inl (.inl c))))
        have n1 := (unhide HW).nm.keep o1 (fun b hb c => ((unhide HW).sm b hb).1 (.inl c))
        have C2 := hide (xnmark_any n1)
        clear n1
        go_wp2_with fail
        refine (unhide C2).mono ?_
        rintro e w2 ⟨rfl, n2, o2⟩
        have HBX := hide ((unhide HBX).keep o2 (fun c => ((unhide HW).ex _ (.inl (.inl rfl))).2.2.2.1 (by have c2 : _ = m := c; rw [c2]; exact (unhide HW).nm.hm)))
        have HOB := hide ((unhide HOB).keep o2 (fun c => ((unhide HW).ex _ (.inr rfl)).2.2.2.1 (by have c2 : _ = m := c; rw [c2]; exact (unhide HW).nm.hm)))
        have HGH := hide (And.intro ((unhide HGH).1.keep o2 (fun k hk c => ((unhide HW).ex _ (.inl (.inr hk))).2.2.2.1 (by have c2 : k = m := c; rw [c2]; exact (unhide HW).nm.hm))) (unhide HGH).2)
        have HON := hide ((unhide HON).trans o2 (fun k _ c => by have c' : k = m := c; rw [c']; exact ((unhide HW).sm m (unhide HW).nm.hm).2.2.2))
        have C3 := hide (xnclone_any n2)
        clear C2
        go_wp2_with fail
        refine (unhide C3).mono ?_
        rintro e w3 ⟨mb', Hb', rfl, n3, hn3, o3⟩
        have HBX := hide ((unhide HBX).keep o3 (fun e => e))
        have HOB := hide ((unhide HOB).keep o3 (fun e => e))
        have HGH := hide (And.intro ((unhide HGH).1.keep o3 (fun _ _ e => e)) (unhide HGH).2)
        have HON := hide ((unhide HON).trans (o3.mono (T := fun k => w.heap.size ≤ k) (fun _ _ e => e.elim)) (fun _ _ e => e))
        have W3 := (unhide HW).marked hd1 o1 n2 o2 n3 hn3 o3
        have W3b : (q.mark wa w1).base = (q.mark wa w1).blk ∧ (q.mark wa w1).recs = [] ∧ (q.mark wa w1).d = q.d := ⟨rfl, rfl, rfl⟩
        generalize q.mark wa w1 = qm at *
        generalize Ext H w1 w2 = Hm at *
        have HBX := unhide HBX
        rw [← W3b.2.2] at HBX
        have HBX := hide HBX
        have HQM := hide W3b
        have HW := hide W3
        clear C3 n2 n3 hn3 o1 o2 o3 hd1 W3 W3b HW0
        have CK := playReal_any (unhide HW).rx (by rw [(unhide HQM).2.1]; simp) ok oa ob oc os ot (unhide HST)
        unfold opX at CK
        have CK := hide CK
        have HOK := hide (unhide HW).rx.mu
        have k0 : w3.cell? ⟨og, 0, none⟩ = some (.int .i64 ok) := (unhide HOB).cell 0
        have k1 : w3.cell? ⟨og, 1, none⟩ = some (.int .i64 oa) := (unhide HOB).cell 1
        have k2 : w3.cell? ⟨og, 2, none⟩ = some (.int .i64 ob) := (unhide HOB).cell 2
        have k3 : w3.cell? ⟨og, 3, none⟩ = some (.int .i64 oc) := (unhide HOB).cell 3
        have k4 : w3.cell? ⟨og, 4, none⟩ = some (.string os) := (unhide HOB).cell 4
        have k5 : w3.cell? ⟨og, 5, none⟩ = some (.string ot) := (unhide HOB).cell 5
        have kl := (unhide HOB).lt
        go_wp2_with fail
        refine (unhide CK).mono ?_
        intro e w4 h4
        obtain ⟨M', an, am, q', K', rfl, hop, hA4, W4, hqd, hrec, o4, hAb4⟩ := (unhide HW).real (unhide HQM).1 (unhide HQM).2.1 h4
        have HAT := hide (show ∀ k, AnB am k → ¬ gm.A kG k from fun k hk c => by have := hAb4 k hk; have := (unhide HGH).1.lt k c; omega)
        have HAK := hide (show ¬ AnB am kb from fun hk => by have := hAb4 kb hk; have := (unhide HBX).lt; omega)
        clear hAb4
        clear k0 k1 k2 k3 k4 k5 kl
        clear CK h4
        have HBX := hide ((unhide HBX).keep o4 (fun c => c.elim ((unhide HW).ex _ (.inl (.inl rfl))).1 ((unhide HW).ex _ (.inl (.inl rfl))).2.2.1))
        have HOB := hide ((unhide HOB).keep o4 (fun c => c.elim ((unhide HW).ex _ (.inr rfl)).1 ((unhide HW).ex _ (.inr rfl)).2.2.1))
        have HGH := hide (And.intro ((unhide HGH).1.keep o4 (fun k hk c => c.elim ((unhide HW).ex _ (.inl (.inr hk))).1 ((unhide HW).ex _ (.inl (.inr hk))).2.2.1)) (unhide HGH).2)
        have HON := hide ((unhide HON).trans o4 (fun k _ c => c.elim (fun c => (unhide HW).lr k (.inl c)) (fun c => (unhide HW).lr k (.inr (.inr c)))))
        have HOP := hide hop
        have HREC := hide hrec
        have HBX := unhide HBX
        rw [← hqd] at HBX
        have HBX := hide HBX
        have o5 : Only (fun _ => False) w4 (w4.alloc (.cells (anC am an) 54)) := (Only.refl _ _).alloc _
        have N5 := Has.new w4 (anC am an) 54
        have W5 := W4.add (E' := fun b => ((fun b => b = kb ∨ gm.A kG b) b ∨ b = og) ∨ AnB am b ∨ b = w4.heap.size) o5 (fun b hb => by
          rcases hb with c | c | c
          · exact .inl (.inl c)
          · exact .inl (.inr c)
          · exact .inr ⟨by omega, by rw [c]; simp⟩)
        have A5 := hA4.quiet o5
        have HBX := hide ((unhide HBX).keep o5 (fun e => e))
        have HOB := hide ((unhide HOB).keep o5 (fun e => e))
        have HGH := hide (And.intro ((unhide HGH).1.keep o5 (fun _ _ e => e)) (unhide HGH).2)
        have HON := hide ((unhide HON).trans (o5.mono (T := fun k => w.heap.size ≤ k) (fun _ _ e => e.elim)) (fun _ _ e => e))
        have HAA := hide hA4
        obtain ⟨p1, p2, hp⟩ := hA4.row.shape
        obtain ⟨r1, r2, hr⟩ := ownsRow_shape hA4.own
        obtain ⟨t1, t2, ht⟩ := hA4.col.shape
        obtain ⟨v1, v2, hv⟩ := ownsRow_shape hA4.nms
        obtain ⟨ln, hln⟩ : ∃ k, an.row.length = k := ⟨_, rfl⟩
        obtain ⟨ls, hls⟩ : ∃ k, am.Z.length = k := ⟨_, rfl⟩
        obtain ⟨lc, hlc⟩ : ∃ k, an.cols.length = k := ⟨_, rfl⟩
        obtain ⟨lm, hlm⟩ : ∃ k, an.names.length = k := ⟨_, rfl⟩
        rw [hln] at hp
        rw [hls] at hr
        rw [hlc] at ht
        rw [hlm] at hv
        have HAE := hide (show anC am an = #[.int .i64 an.e, .int .i64 an.n, .slice p1 ln p2, .slice r1 ls r2, .string an.nm, .slice t1 lc t2, .int .i64 an.pk, .int .i64 an.ix, .slice v1 lm v2] from by unfold anC; rw [hp, hr, ht, hv])
        rw [unhide HAE] at N5 W5 A5 ⊢
        rw [unhide HAE] at HBX HOB HON HGH
        have HW := hide W5
        have HA := hide A5
        have HAB := hide N5
        clear hp hr ht hv hln hls hlc hlm W4 W5 A5 N5 hA4 HAA o4 o5 hop hrec hqd
        go_upto_region 26 with fail
        generalize w4.alloc (.cells #[.int .i64 an.e, .int .i64 an.n, .slice p1 ln p2, .slice r1 ls r2, .string an.nm, .slice t1 lc t2, .int .i64 an.pk, .int .i64 an.ix, .slice v1 lm v2] 54) = w5 at *
        generalize w4.heap.size = ab2 at *
        have c0 : w5.cell? ⟨kb, 0, none⟩ = some (.pointer (some ⟨q'.d, 0, none⟩)) := (unhide HBX).cell 0
        have c1 : w5.cell? ⟨kb, 1, none⟩ = some (.pointer (some ⟨x, 0, none⟩)) := (unhide HBX).cell 1
        have cl := (unhide HBX).lt
        have CT := xlsteps_any x (unhide HW).rx.dk
        unfold jbV jbC at CT
        have CT := hide CT
        go_wp2_with fail
        refine (unhide CT).mono ?_
        rintro e w6 ⟨rfl, oT⟩
        have HBX := hide ((unhide HBX).keep oT (fun e => e))
        have HOB := hide ((unhide HOB).keep oT (fun e => e))
        have HAB := hide ((unhide HAB).keep oT (fun e => e))
        have HA := hide ((unhide HA).keep oT (fun _ _ e => e))
        have HGH := hide (And.intro ((unhide HGH).1.keep oT (fun _ _ e => e)) (unhide HGH).2)
        have HW := hide ((unhide HW).quiet oT)
        have HON := hide ((unhide HON).trans (oT.mono (T := fun k => w.heap.size ≤ k) (fun _ _ e => e.elim)) (fun _ _ e => e))
        clear c0 c1 cl
        clear CT oT
        have k0 : w6.cell? ⟨og, 0, none⟩ = some (.int .i64 ok) := (unhide HOB).cell 0
        have k1 : w6.cell? ⟨og, 1, none⟩ = some (.int .i64 oa) := (unhide HOB).cell 1
        have k2 : w6.cell? ⟨og, 2, none⟩ = some (.int .i64 ob) := (unhide HOB).cell 2
        have k3 : w6.cell? ⟨og, 3, none⟩ = some (.int .i64 oc) := (unhide HOB).cell 3
        have k4 : w6.cell? ⟨og, 4, none⟩ = some (.string os) := (unhide HOB).cell 4
        have k5 : w6.cell? ⟨og, 5, none⟩ = some (.string ot) := (unhide HOB).cell 5
        have kl := (unhide HOB).lt
        have CP := playModel_any (unhide HW).nm (unhide HOK) ok oa ob oc os ot (unhide HST)
        unfold opX at CP
        have CP := hide CP
        go_wp2_with fail
        refine (unhide CP).mono ?_
        intro e w7 h7
        obtain ⟨am2, hist', H', rfl, hA7, hAb7, W7, o7⟩ := (unhide HW).model (unhide HOP) h7
        clear k0 k1 k2 k3 k4 k5 kl
        clear CP h7
        have HBX := hide ((unhide HBX).keep o7 (fun c => ((unhide HW).ex _ (.inl (.inl (.inl rfl)))).2.2.2.1 c))
        have HOB := hide ((unhide HOB).keep o7 (fun c => ((unhide HW).ex _ (.inl (.inr rfl))).2.2.2.1 c))
        have HAB := hide ((unhide HAB).keep o7 (fun c => ((unhide HW).ex _ (.inr (.inr rfl))).2.2.2.1 c))
        have HA := hide ((unhide HA).keep o7 (fun k hk c => ((unhide HW).ex _ (.inr (.inl hk))).2.2.2.1 c))
        have HGH := hide (And.intro ((unhide HGH).1.keep o7 (fun k hk c => ((unhide HW).ex _ (.inl (.inl (.inr hk)))).2.2.2.1 c)) (unhide HGH).2)
        have HON := hide ((unhide HON).trans o7 (fun k _ c => ((unhide HW).sm k c).2.2.2))
        have HW := hide W7
        have o8 : Only (fun _ => False) w7 (w7.alloc (.cells (anC am2 an) 54)) := (Only.refl _ _).alloc _
        have N8 := Has.new w7 (anC am2 an) 54
        have HA8 := hide (hA7.quiet o8)
        have HBX := hide ((unhide HBX).keep o8 (fun e => e))
        have HOB := hide ((unhide HOB).keep o8 (fun e => e))
        have HAB := hide ((unhide HAB).keep o8 (fun e => e))
        have HA := hide ((unhide HA).keep o8 (fun _ _ e => e))
        have HGH := hide (And.intro ((unhide HGH).1.keep o8 (fun _ _ e => e)) (unhide HGH).2)
        have HW := hide ((unhide HW).quiet o8)
        have HON := hide ((unhide HON).trans (o8.mono (T := fun k => w.heap.size ≤ k) (fun _ _ e => e.elim)) (fun _ _ e => e))
        obtain ⟨j1, j2, hp⟩ := hA7.row.shape
        obtain ⟨i1, i2, hr⟩ := ownsRow_shape hA7.own
        obtain ⟨f1, f2, ht⟩ := hA7.col.shape
        obtain ⟨d1, d2, hv⟩ := ownsRow_shape hA7.nms
        obtain ⟨xn, hln⟩ : ∃ k, an.row.length = k := ⟨_, rfl⟩
        obtain ⟨xs, hls⟩ : ∃ k, am2.Z.length = k := ⟨_, rfl⟩
        obtain ⟨xc, hlc⟩ : ∃ k, an.cols.length = k := ⟨_, rfl⟩
        obtain ⟨xm, hlm⟩ : ∃ k, an.names.length = k := ⟨_, rfl⟩
        rw [hln] at hp
        rw [hls] at hr
        rw [hlc] at ht
        rw [hlm] at hv
        have HAE2 := hide (show anC am2 an = #[.int .i64 an.e, .int .i64 an.n, .slice j1 xn j2, .slice i1 xs i2, .string an.nm, .slice f1 xc f2, .int .i64 an.pk, .int .i64 an.ix, .slice d1 xm d2] from by unfold anC; rw [hp, hr, ht, hv])
        have CS := sameAns_any (unhide HA) (unhide HA8)
        rw [unhide HAE, unhide HAE2] at CS
        rw [unhide HAE2] at N8 HA8 HW HBX HOB HAB HA HON HGH ⊢
        have CS := hide CS
        have HN8 := hide N8
        clear hp hr ht hv hln hls hlc hlm W7 N8 hA7 hAb7 o7 o8
        go_upto_region 28 with fail
        generalize w7.alloc (.cells #[.int .i64 an.e, .int .i64 an.n, .slice j1 xn j2, .slice i1 xs i2, .string an.nm, .slice f1 xc f2, .int .i64 an.pk, .int .i64 an.ix, .slice d1 xm d2] 54) = w8 at *
        generalize w7.heap.size = ab3 at *
        have e0 : w8.cell? ⟨ab2, 0, none⟩ = some (.int .i64 an.e) := (unhide HAB).cell 0
        have e1 : w8.cell? ⟨ab2, 1, none⟩ = some (.int .i64 an.n) := (unhide HAB).cell 1
        have e2 : w8.cell? ⟨ab2, 2, none⟩ = some (.slice p1 ln p2) := (unhide HAB).cell 2
        have e3 : w8.cell? ⟨ab2, 3, none⟩ = some (.slice r1 ls r2) := (unhide HAB).cell 3
        have e4 : w8.cell? ⟨ab2, 4, none⟩ = some (.string an.nm) := (unhide HAB).cell 4
        have e5 : w8.cell? ⟨ab2, 5, none⟩ = some (.slice t1 lc t2) := (unhide HAB).cell 5
        have e6 : w8.cell? ⟨ab2, 6, none⟩ = some (.int .i64 an.pk) := (unhide HAB).cell 6
        have e7 : w8.cell? ⟨ab2, 7, none⟩ = some (.int .i64 an.ix) := (unhide HAB).cell 7
        have e8 : w8.cell? ⟨ab2, 8, none⟩ = some (.slice v1 lm v2) := (unhide HAB).cell 8
        have el := (unhide HAB).lt
        have z0 : w8.cell? ⟨ab3, 0, none⟩ = some (.int .i64 an.e) := (unhide HN8).cell 0
        have z1 : w8.cell? ⟨ab3, 1, none⟩ = some (.int .i64 an.n) := (unhide HN8).cell 1
        have z2 : w8.cell? ⟨ab3, 2, none⟩ = some (.slice j1 xn j2) := (unhide HN8).cell 2
        have z3 : w8.cell? ⟨ab3, 3, none⟩ = some (.slice i1 xs i2) := (unhide HN8).cell 3
        have z4 : w8.cell? ⟨ab3, 4, none⟩ = some (.string an.nm) := (unhide HN8).cell 4
        have z5 : w8.cell? ⟨ab3, 5, none⟩ = some (.slice f1 xc f2) := (unhide HN8).cell 5
        have z6 : w8.cell? ⟨ab3, 6, none⟩ = some (.int .i64 an.pk) := (unhide HN8).cell 6
        have z7 : w8.cell? ⟨ab3, 7, none⟩ = some (.int .i64 an.ix) := (unhide HN8).cell 7
        have z8 : w8.cell? ⟨ab3, 8, none⟩ = some (.slice d1 xm d2) := (unhide HN8).cell 8
        have zl := (unhide HN8).lt
        go_wp2_with fail
        refine (unhide CS).mono ?_
        rintro e w9 ⟨rfl, oS⟩
        clear e0 e1 e2 e3 e4 e5 e6 e7 e8 el
        clear z0 z1 z2 z3 z4 z5 z6 z7 z8 zl CS HN8 HA8 HAE2
        have HBX := hide ((unhide HBX).keep oS (fun e => e))
        have HOB := hide ((unhide HOB).keep oS (fun e => e))
        have HAB := hide ((unhide HAB).keep oS (fun e => e))
        have HA := hide ((unhide HA).keep oS (fun _ _ e => e))
        have HGH := hide (And.intro ((unhide HGH).1.keep oS (fun _ _ e => e)) (unhide HGH).2)
        have HW := hide ((unhide HW).quiet oS)
        have HON := hide ((unhide HON).trans (oS.mono (T := fun k => w.heap.size ≤ k) (fun _ _ e => e.elim)) (fun _ _ e => e))
        clear oS
        have k0 : w9.cell? ⟨og, 0, none⟩ = some (.int .i64 ok) := (unhide HOB).cell 0
        have k1 : w9.cell? ⟨og, 1, none⟩ = some (.int .i64 oa) := (unhide HOB).cell 1
        have k2 : w9.cell? ⟨og, 2, none⟩ = some (.int .i64 ob) := (unhide HOB).cell 2
        have k3 : w9.cell? ⟨og, 3, none⟩ = some (.int .i64 oc) := (unhide HOB).cell 3
        have k4 : w9.cell? ⟨og, 4, none⟩ = some (.string os) := (unhide HOB).cell 4
        have k5 : w9.cell? ⟨og, 5, none⟩ = some (.string ot) := (unhide HOB).cell 5
        have kl := (unhide HOB).lt
        have e0 : w9.cell? ⟨ab2, 0, none⟩ = some (.int .i64 an.e) := (unhide HAB).cell 0
        have e1 : w9.cell? ⟨ab2, 1, none⟩ = some (.int .i64 an.n) := (unhide HAB).cell 1
        have e2 : w9.cell? ⟨ab2, 2, none⟩ = some (.slice p1 ln p2) := (unhide HAB).cell 2
        have e3 : w9.cell? ⟨ab2, 3, none⟩ = some (.slice r1 ls r2) := (unhide HAB).cell 3
        have e4 : w9.cell? ⟨ab2, 4, none⟩ = some (.string an.nm) := (unhide HAB).cell 4
        have e5 : w9.cell? ⟨ab2, 5, none⟩ = some (.slice t1 lc t2) := (unhide HAB).cell 5
        have e6 : w9.cell? ⟨ab2, 6, none⟩ = some (.int .i64 an.pk) := (unhide HAB).cell 6
        have e7 : w9.cell? ⟨ab2, 7, none⟩ = some (.int .i64 an.ix) := (unhide HAB).cell 7
        have e8 : w9.cell? ⟨ab2, 8, none⟩ = some (.slice v1 lm v2) := (unhide HAB).cell 8
        have el := (unhide HAB).lt
        have CO1 := hide (xloneStep_any q'.recs.length ok oa ob oc os ot an.e (unhide HREC) w9)
        go_wp2_with fail
        refine (unhide CO1).mono ?_
        rintro e wA ⟨rfl, oO⟩
        clear k0 k1 k2 k3 k4 k5 kl
        clear e0 e1 e2 e3 e4 e5 e6 e7 e8 el
        have HBX := hide ((unhide HBX).keep oO (fun e => e))
        have HOB := hide ((unhide HOB).keep oO (fun e => e))
        have HAB := hide ((unhide HAB).keep oO (fun e => e))
        have HA := hide ((unhide HA).keep oO (fun _ _ e => e))
        have HGH := hide (And.intro ((unhide HGH).1.keep oO (fun _ _ e => e)) (unhide HGH).2)
        have HW := hide ((unhide HW).quiet oO)
        have HON := hide ((unhide HON).trans (oO.mono (T := fun k => w.heap.size ≤ k) (fun _ _ e => e.elim)) (fun _ _ e => e))
        clear oO CO1
        have c0 : wA.cell? ⟨kb, 0, none⟩ = some (.pointer (some ⟨q'.d, 0, none⟩)) := (unhide HBX).cell 0
        have c1 : wA.cell? ⟨kb, 1, none⟩ = some (.pointer (some ⟨x, 0, none⟩)) := (unhide HBX).cell 1
        have cl := (unhide HBX).lt
        have CT := xlbracket_any q'.d (unhide HW).rx
        unfold jbV jbC at CT
        have CT := hide CT
        go_wp2_with fail
        refine (unhide CT).mono ?_
        rintro e wB ⟨rfl, oT⟩
        have HBX := hide ((unhide HBX).keep oT (fun e => e))
        have HOB := hide ((unhide HOB).keep oT (fun e => e))
        have HAB := hide ((unhide HAB).keep oT (fun e => e))
        have HA := hide ((unhide HA).keep oT (fun _ _ e => e))
        have HGH := hide (And.intro ((unhide HGH).1.keep oT (fun _ _ e => e)) (unhide HGH).2)
        have HW := hide ((unhide HW).quiet oT)
        have HON := hide ((unhide HON).trans (oT.mono (T := fun k => w.heap.size ≤ k) (fun _ _ e => e.elim)) (fun _ _ e => e))
        clear c0 c1 cl
        clear CT oT
        have CT := hide (rcheck_any (unhide HW).rx)
        go_wp2_with fail
        refine (unhide CT).mono ?_
        rintro e wC ⟨rfl, rT, oT⟩
        have HBX := hide ((unhide HBX).keep oT (fun c => ((unhide HW).ex _ (.inl (.inl (.inl rfl)))).1 (Gnd.S_A c)))
        have HOB := hide ((unhide HOB).keep oT (fun c => ((unhide HW).ex _ (.inl (.inr rfl))).1 (Gnd.S_A c)))
        have HAB := hide ((unhide HAB).keep oT (fun c => ((unhide HW).ex _ (.inr (.inr rfl))).1 (Gnd.S_A c)))
        have HA := hide ((unhide HA).keep oT (fun k hk c => ((unhide HW).ex _ (.inr (.inl hk))).1 (Gnd.S_A c)))
        have HGH := hide (And.intro ((unhide HGH).1.keep oT (fun k hk c => ((unhide HW).ex _ (.inl (.inl (.inr hk)))).1 (Gnd.S_A c))) (unhide HGH).2)
        have HON := hide ((unhide HON).trans oT (fun k _ c => (unhide HW).lr k (.inl (Gnd.S_A c))))
        have HW := hide ((unhide HW).look rT oT)
        clear CT oT rT
        have CT := hide (xlalike_any (unhide HW).al (unhide HW).apt (unhide HW).rx.dg.1.len)
        go_wp2_with fail
        refine (unhide CT).mono ?_
        rintro e wD ⟨bT, rfl, hT, aT⟩
        obtain rfl := hT.mpr (Obs.refl _)
        have HBX := hide ((unhide HBX).keep aT.on ((unhide HW).keepA (.inl (.inl (.inl rfl)))))
        have HOB := hide ((unhide HOB).keep aT.on ((unhide HW).keepA (.inl (.inr rfl))))
        have HAB := hide ((unhide HAB).keep aT.on ((unhide HW).keepA (.inr (.inr rfl))))
        have HA := hide ((unhide HA).keep aT.on (fun k hk => (unhide HW).keepA (.inr (.inl hk))))
        have HGH := hide (And.intro ((unhide HGH).1.keep aT.on (fun k hk => (unhide HW).keepA (.inl (.inl (.inr hk))))) (unhide HGH).2)
        have HON := hide ((unhide HON).trans aT.on (fun k _ c => c.elim (fun c => (unhide HW).lr k (.inl (Gnd.S_A c))) (fun c => by rw [c]; exact ((unhide HW).sm _ (unhide HW).nm.hm).2.2.2)))
        have HW := hide ((unhide HW).alike aT)
        clear CT aT hT
        have k0 : wD.cell? ⟨og, 0, none⟩ = some (.int .i64 ok) := (unhide HOB).cell 0
        have k1 : wD.cell? ⟨og, 1, none⟩ = some (.int .i64 oa) := (unhide HOB).cell 1
        have k2 : wD.cell? ⟨og, 2, none⟩ = some (.int .i64 ob) := (unhide HOB).cell 2
        have k3 : wD.cell? ⟨og, 3, none⟩ = some (.int .i64 oc) := (unhide HOB).cell 3
        have k4 : wD.cell? ⟨og, 4, none⟩ = some (.string os) := (unhide HOB).cell 4
        have k5 : wD.cell? ⟨og, 5, none⟩ = some (.string ot) := (unhide HOB).cell 5
        have kl := (unhide HOB).lt
        have CT := hide (xlalikeAt_any (unhide HW).al (unhide HW).apt os)
        go_wp2_with fail
        refine (unhide CT).mono ?_
        rintro e wE ⟨bT, rfl, hT, aT⟩
        obtain rfl := hT.mpr (ObsAt.refl _ _)
        have HBX := hide ((unhide HBX).keep aT.on ((unhide HW).keepA (.inl (.inl (.inl rfl)))))
        have HOB := hide ((unhide HOB).keep aT.on ((unhide HW).keepA (.inl (.inr rfl))))
        have HAB := hide ((unhide HAB).keep aT.on ((unhide HW).keepA (.inr (.inr rfl))))
        have HA := hide ((unhide HA).keep aT.on (fun k hk => (unhide HW).keepA (.inr (.inl hk))))
        have HGH := hide (And.intro ((unhide HGH).1.keep aT.on (fun k hk => (unhide HW).keepA (.inl (.inl (.inr hk))))) (unhide HGH).2)
        have HON := hide ((unhide HON).trans aT.on (fun k _ c => c.elim (fun c => (unhide HW).lr k (.inl (Gnd.S_A c))) (fun c => by rw [c]; exact ((unhide HW).sm _ (unhide HW).nm.hm).2.2.2)))
        have HW := hide ((unhide HW).alike aT)
        clear CT aT hT
        clear k0 k1 k2 k3 k4 k5 kl
        have CF := follow_any (unhide HW).rx (unhide HGH).1 (unhide HA) (fun k hk => ⟨((unhide HW).ex _ (.inl (.inl (.inr hk)))).1, ((unhide HW).ex _ (.inl (.inl (.inr hk)))).2.1, ((unhide HW).ex _ (.inl (.inl (.inr hk)))).2.2.1⟩) (fun k hk => ⟨((unhide HW).ex _ (.inr (.inl hk))).1, ((unhide HW).ex _ (.inr (.inl hk))).2.1, ((unhide HW).ex _ (.inr (.inl hk))).2.2.1, fun c => unhide HAT k hk (.inl c)⟩) (unhide HGH).2 (unhide HOK) (unhide HST) (unhide HOP)
        rw [unhide HAE] at CF
        unfold opX at CF
        have CF := hide CF
        have k0 : wE.cell? ⟨og, 0, none⟩ = some (.int .i64 ok) := (unhide HOB).cell 0
        have k1 : wE.cell? ⟨og, 1, none⟩ = some (.int .i64 oa) := (unhide HOB).cell 1
        have k2 : wE.cell? ⟨og, 2, none⟩ = some (.int .i64 ob) := (unhide HOB).cell 2
        have k3 : wE.cell? ⟨og, 3, none⟩ = some (.int .i64 oc) := (unhide HOB).cell 3
        have k4 : wE.cell? ⟨og, 4, none⟩ = some (.string os) := (unhide HOB).cell 4
        have k5 : wE.cell? ⟨og, 5, none⟩ = some (.string ot) := (unhide HOB).cell 5
        have kl := (unhide HOB).lt
        have e0 : wE.cell? ⟨ab2, 0, none⟩ = some (.int .i64 an.e) := (unhide HAB).cell 0
        have e1 : wE.cell? ⟨ab2, 1, none⟩ = some (.int .i64 an.n) := (unhide HAB).cell 1
        have e2 : wE.cell? ⟨ab2, 2, none⟩ = some (.slice p1 ln p2) := (unhide HAB).cell 2
        have e3 : wE.cell? ⟨ab2, 3, none⟩ = some (.slice r1 ls r2) := (unhide HAB).cell 3
        have e4 : wE.cell? ⟨ab2, 4, none⟩ = some (.string an.nm) := (unhide HAB).cell 4
        have e5 : wE.cell? ⟨ab2, 5, none⟩ = some (.slice t1 lc t2) := (unhide HAB).cell 5
        have e6 : wE.cell? ⟨ab2, 6, none⟩ = some (.int .i64 an.pk) := (unhide HAB).cell 6
        have e7 : wE.cell? ⟨ab2, 7, none⟩ = some (.int .i64 an.ix) := (unhide HAB).cell 7
        have e8 : wE.cell? ⟨ab2, 8, none⟩ = some (.slice v1 lm v2) := (unhide HAB).cell 8
        have el := (unhide HAB).lt
        go_wp2_with fail
        refine (unhide CF).mono ?_
        intro e wF hF
        obtain ⟨rfl, gm2, gh2, se2, WF, oF, hgA⟩ := (unhide HW).follow (fun b hb => hb.elim (fun hk => .inl (.inl (.inr hk))) (fun hk => .inr (.inl hk))) hF
        clear k0 k1 k2 k3 k4 k5 kl
        clear e0 e1 e2 e3 e4 e5 e6 e7 e8 el
        clear CF hF
        have HBX := hide ((unhide HBX).keep oF (fun c => c.elim (fun c => ((unhide HW).ex _ (.inl (.inl (.inl rfl)))).1 (Gnd.S_A c)) (fun c => unhide HKG (.inl c))))
        have HON := hide ((unhide HON).trans oF (fun k _ c => c.elim (fun c => (unhide HW).lr k (.inl (Gnd.S_A c))) (fun c => ((unhide HW).ex _ (.inl (.inl (.inr (.inl c))))).2.2.2.2.2.2)))
        have HKG := hide (show ¬ gm2.A kG kb from fun c => (hgA kb c).elim (unhide HKG) (fun d => d.elim (unhide HAK) (fun d => by have := ((unhide HW).ex _ (.inl (.inl (.inl rfl)))).2.2.2.2.2.1; omega)))
        have HGH := hide (And.intro gh2 se2)
        have HW := hide (WF.sub (E' := fun b => b = kb ∨ gm2.A kG b) (fun b hb => hb.imp (fun c => .inl (.inl (.inl c))) id))
        clear gh2 se2 WF oF HOB HAB HA HAT HAK hgA
        have c0 : wF.cell? ⟨kb, 0, none⟩ = some (.pointer (some ⟨q'.d, 0, none⟩)) := (unhide HBX).cell 0
        have c1 : wF.cell? ⟨kb, 1, none⟩ = some (.pointer (some ⟨x, 0, none⟩)) := (unhide HBX).cell 1
        have cl := (unhide HBX).lt
        have CT := xlsteps_any x (unhide HW).rx.dk
        unfold jbV jbC at CT
        have CT := hide CT
        have b9 : ((q'.recs.length : Int) != (q'.recs.length : Int)) = false := by simp
        have b9n : (q'.recs.length != q'.recs.length) = false := by simp
        go_wp2_with fail
        refine (unhide CT).mono ?_
        rintro e wG ⟨rfl, oT⟩
        have HBX := hide ((unhide HBX).keep oT (fun e => e))
        have HGH := hide (And.intro ((unhide HGH).1.keep oT (fun _ _ e => e)) (unhide HGH).2)
        have HW := hide ((unhide HW).quiet oT)
        have HON := hide ((unhide HON).trans (oT.mono (T := fun k => w.heap.size ≤ k) (fun _ _ e => e.elim)) (fun _ _ e => e))
        clear c0 c1 cl
        clear CT oT
        have HZ := hide (show LX w kb (.pointer (some ⟨g, 0, none⟩)) (.pointer (some ⟨m, 0, none⟩)) (.pointer (some ⟨mb', 0, none⟩)) (.pointer (some ⟨kG, 0, none⟩)) wG from ⟨q', g, x, _, _, m, _, _, _, mb', _, _, _, kG, _, rfl, rfl, rfl, rfl, unhide HBX, (unhide HGH).1, (unhide HGH).2, unhide HKG, (unhide HW).sub (fun b hb => hb), unhide HON⟩)
        clear HBX HW HON HGH HKG b9 b9n HREC HOP HOK
        go_wp2_with fail
        go_roundw
        case rel => exact ⟨kk + 1, by omega, by go_num, unhide HZ⟩
        case measure => simp [intOf]; omega
    · have hkI : decide ((kk : Int) < (len : Int)) = false := by simp; omega
      clear BX WW ON GH SE KG
      by_cases hM : len < 4398046511104
      · have hM1 : decide ((len : Int) < 4398046511104) = true := by simp; omega
        go_wp2_with fail
        go_ret2
        exact ⟨⟨_, rfl⟩, hbel⟩
      · have hM1 : decide ((len : Int) < 4398046511104) = false := by simp; omega
        go_wp2_with fail
        go_ret2
        exact ⟨⟨_, rfl⟩, hbel⟩
end Go.Proofs.Qxb6500414aGreat
