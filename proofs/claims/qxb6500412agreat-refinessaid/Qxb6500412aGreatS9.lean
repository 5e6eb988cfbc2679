/-
  OWN WORK. QUERY: the parser: where.
-/
import Derived.Test.Qxb6500412aGreatS8
import Derived.Deep.AppendLies
import Derived.Deep.RegionLaw
import Derived.Deep.DeepCutAuto
import Derived.Deep.LoopGhost
namespace Go.Proofs.Qxb6500412aGreat
open Go.RowKit Go.PlainAid
set_option linter.unusedSimpArgs false
set_option linter.unusedVariables false

theorem Tryz.infoSQCmp : (Tryz.prog.info? 300).map (fun i => (i.zero, i.size, i.bytes)) = some (some (.agg #[.string ⟨#[]⟩, .int .i64 0, .bool false, .int .i64 0, .string ⟨#[]⟩]), 5, 56) := by kernel_rfl
theorem Only.frS {B : Nat → Prop} {w w' : World} {p : Addr} (ho : Only B w w') (h : w.frozen? p = false) (hb : ¬ B p.block) (hl : p.block < w.heap.size) : w'.frozen? p = false := by
  rw [← h]
  unfold World.frozen?
  rw [ho.block p.block hl hb]
theorem Only.cellS {w w' : World} {p : Addr} {v : Value} (ho : Only (fun _ => False) w w') (h : w.cell? p = some v) : w'.cell? p = some v := by
  have hb := World.block_lt_of_cell? w p h
  rw [← h]
  unfold World.cell?
  rw [ho.block p.block hb (fun e => e)]
def cmA (c : Cm) : Array Value := #[.string c.col, .int .i64 c.op, .bool c.lit.str, .int .i64 c.lit.i, .string c.lit.s]
/-- All blocks of a sentence. -/
def Sq.B (S : Sq) (ks b : Nat) : Prop := b = ks ∨ ∃ j, sqj j ∧ (S.cell j).ownBlock = some b
/-- What a nonterminal leaves. -/
def QpP (lo kp ks : Nat) (t : ByteArray) (P : Ps) (st : St) (w w' : World) : Prop := QP lo w' kp ks t P st ∧ Only (fun b => lo ≤ b) w w'
section
variable {lo : Nat} {w w' : World} {kp ks : Nat} {t : ByteArray} {P : Ps} {st : St} {S : Sq}
theorem SQM.blt (h : SQM lo w ks S) : ∀ b, S.B ks b → b < w.heap.size := by
  rintro b (e | ⟨j, hj, hb⟩)
  · rw [e]; exact h.lt
  · exact ownsRow_lt (h.own j hj) b hb
theorem PS.has (h : PS w kp t P) : ∃ c, Has w kp c 229 := by
  obtain ⟨k, s, v, e, h1, _⟩ := h
  exact ⟨_, h1⟩
/-- A parser's method beside the sentence. -/
theorem SQM.byPar (h : SQM lo w ks S) {P' : Ps} (hp : PS w kp t P) (hh : PaP kp t P' w w') : SQM lo w' ks S := by
  obtain ⟨c, hc⟩ := hp.has
  exact h.keep hh.2 (fun b hb e => h.par hc b hb e)
theorem op_sign (h : opV P ≠ 0) : ∃ x l b, P = (x :: l, b) ∧ nextP P = (l, b) := by
  obtain ⟨l, b⟩ := P
  cases l with
  | nil => exact absurd rfl h
  | cons x l => exact ⟨x, l, b, rfl, rfl⟩
/-- The sentence with its WHERE grown. -/
theorem SqOf.wh {l : List Cm} {c : Cm} {v : Value} {n : Nat} (h : SqOf S { st with wh := l }) (hn : n = l.length + 1) : SqOf (S.setL 8 v (S.xs 8 ++ cmC c) n) { st with wh := l ++ [c] } := by
  refine ⟨h.k0, h.k1, h.x2, h.k3, h.x4, h.k5, h.x6, h.x7, ⟨?_, ?_⟩, h.k9, h.k10, h.k11, h.k12⟩
  · show S.xs 8 ++ cmC c = cmcs (l ++ [c])
    rw [h.x8.1, cmcs_app]
    simp [cmcs]
  · show n = (l ++ [c]).length
    rw [hn]; simp
set_option maxRecDepth 100000 in
set_option maxHeartbeats 8000000 in
theorem sqwhere_any (ht : t.size ≤ 256) (h : QP lo w kp ks t P st) (hl : st.wh.length + P.1.length ≤ 1000) : Calls Tryz.prog 221 #[.pointer (some ⟨kp, 0, none⟩), .pointer (some ⟨ks, 0, none⟩)] w fun e w' => e = .returned (.tuple #[]) ∧ QpP lo kp ks t (whereP P st).1 (whereP P st).2 w w' := by
  obtain ⟨i0, hi0, hz0, hy0, hb0⟩ := info_parts Tryz.infoSQCmp
  have C1 := sqeat_any ht h.ps wWHERE
  have hB0 : ∀ b, b = kp → lo ≤ b := fun b e => by rw [e]; exact h.lp
  obtain ⟨b1, hb1⟩ : ∃ b, eatB wWHERE P = b := ⟨_, rfl⟩
  rw [hb1] at C1
  unfold wWHERE at C1
  have C1 := hide C1
  -- where it ends: a pair (P, list)
  obtain ⟨R, hR⟩ : ∃ R, R = if b1 = true then listP cmpP wAND (nextP P) st.wh else (P, st.wh) := ⟨_, rfl⟩
  have hW : whereP P st = (R.1, { st with wh := R.2 }) := by
    unfold whereP
    rw [hb1, hR]
    cases b1 <;> rfl
  rw [hW]
  have HR := hide hR
  have HH := hide h
  have Hb1 := hide hb1
  have HL := hide hl
  have HB0 := hide hB0
  clear h hW hR hl hb1 hB0
  go_enter Tryz.func221, Tryz.ntmps221
  go_wp2_with fail
  refine (unhide C1).mono ?_
  rintro e w1 ⟨rfl, hh⟩
  have H1 := hide (show QP lo w1 kp ks t (eatP wWHERE P) st ∧ Only (fun b => lo ≤ b) w w1 from ⟨(unhide HH).par hh, hh.2.mono (fun b _ e => unhide HB0 b e)⟩)
  clear C1 hh
  go_upto_region 1 with fail
  go_loopg [4, 5] (2 * P.1.length + 2) (fun gk mv _ wr => ∃ (m : Bool) (P1 : Ps) (l : List Cm), mv = .bool m ∧ QP lo wr kp ks t P1 { st with wh := l } ∧ l.length + P1.1.length + (if m = true then 1 else 0) ≤ 1000 ∧ R = (if m = true then listP cmpP wAND P1 l else (P1, l)) ∧ Only (fun b => lo ≤ b) w wr ∧ 2 * P1.1.length + (if m = true then 1 else 0) ≤ gk)
  case atStart =>
    have hR := unhide HR
    have hh := unhide H1
    have e1 : (eatP wWHERE P) = if b1 = true then nextP P else P := by unfold eatP; rw [unhide Hb1]
    rw [e1] at hh
    have hL := unhide HL
    cases b1 with
    | true =>
      have n1 := eat_len (unhide Hb1)
      exact ⟨true, nextP P, st.wh, rfl, hh.1, by simp; omega, hR, hh.2, by simp; omega⟩
    | false => exact ⟨false, P, st.wh, rfl, hh.1, by simpa using hL, hR, hh.2, by simp⟩
  case round =>
    clear H1 HR HH Hb1
    obtain ⟨m, P1, l, rfl, hQ, hlen, hR, oW, hgk⟩ := hrel
    cases m with
    | false =>
      have FF := hide (show QpP lo kp ks t R.1 { st with wh := R.2 } w wr by rw [hR]; exact ⟨hQ, oW⟩)
      clear hQ hR oW
      go_wp2_with fail
      go_end0
      exact ⟨rfl, unhide FF⟩
    | true =>
      obtain ⟨S, hM, hO⟩ := hQ.sq
      have hlp := hQ.lp
      have klt := hQ.klt
      have oC : Only (fun _ => False) wr (wr.alloc (.cells #[.string ⟨#[]⟩, .int .i64 0, .bool false, .int .i64 0, .string ⟨#[]⟩] 300)) := (Only.refl _ wr).alloc _
      have HC := hide (Has.new wr #[.string ⟨#[]⟩, .int .i64 0, .bool false, .int .i64 0, .string ⟨#[]⟩] 300)
      have HM := hide (hM.quiet oC)
      have HPs := hide (hQ.ps.keep oC (fun e => e))
      have HOn := hide (oW.trans (oC.mono (fun _ _ e => e.elim)) (fun _ _ e => e))
      have HBl := hide (And.intro hM.blt (And.intro hO (And.intro hlen (And.intro hR hgk))))
      have hlo := hQ.lo_
      clear hM hO hQ oC oW hR hlen hgk
      go_upto_region 4 with fail
      generalize wr.alloc (.cells #[.string ⟨#[]⟩, .int .i64 0, .bool false, .int .i64 0, .string ⟨#[]⟩] 300) = w1 at *
      generalize hkc : wr.heap.size = kc at *
      clear hkc
      have C1 := hide (sqname_any ht (unhide HPs))
      go_wp2_with fail
      refine (unhide C1).mono ?_
      rintro e w2 ⟨rfl, hh⟩
      have kcp : kc ≠ kp := by omega
      have C2' := (unhide HC).keep hh.2 kcp
      have HM2 := hide ((unhide HM).byPar (unhide HPs) hh)
      have HPs2 := hide hh.1
      have HOn2 := hide ((unhide HOn).trans hh.2 (fun b _ e => by have e' : b = kp := e; omega))
      have d0 : w2.cell? ⟨kc, 0, none⟩ = some (.string ⟨#[]⟩) := C2'.cell 0
      have g0 := C2'.free 0
      have kcl := C2'.lt
      -- a store into the comparison's own block
      have HSt := hide (fun (wa wb : World) (Px : Ps) (o : Only (fun b => b = kc) wa wb) (h1 : SQM lo wa ks S) (h2 : PS wa kp t Px) (h3 : Only (fun b => lo ≤ b) w wa) => show SQM lo wb ks S ∧ PS wb kp t Px ∧ Only (fun b => lo ≤ b) w wb from ⟨h1.keep o (fun b hb e => by have e' : b = kc := e; have := (unhide HBl).1 b hb; omega), h2.keep o (fun e => kcp (Eq.symm e)), h3.trans o (fun b _ e => by have e' : b = kc := e; omega)⟩)
      have HX := hide (unhide HSt w2 _ _ (only1 (p := kc) 0 (.string (nameV P1))) (unhide HM2) (unhide HPs2) (unhide HOn2))
      have HC3 := hide (show Has (w2.setCell ⟨kc, 0, none⟩ (.string (nameV P1))) kc #[.string (nameV P1), .int .i64 0, .bool false, .int .i64 0, .string ⟨#[]⟩] 300 from C2'.setCell 0 _)
      clear C1 hh C2' HM HPs HOn HC HM2 HPs2 HOn2
      obtain ⟨nv, hnv⟩ : ∃ x, nameV P1 = x := ⟨_, rfl⟩
      obtain ⟨P2, hP2⟩ : ∃ x, nameP P1 = x := ⟨_, rfl⟩
      rw [hnv] at HX HC3 ⊢
      rw [hP2] at HX
      have HNV := hide (And.intro hnv hP2)
      clear hnv hP2
      go_upto_region 5 with fail
      generalize w2.setCell ⟨kc, 0, none⟩ (.string nv) = w3 at *
      clear d0 g0
      obtain ⟨k, s, v, e, h1, hTk⟩ := (unhide HX).2.1
      have c1 : w3.cell? ⟨kp, 1, none⟩ = some (.int .i64 k) := h1.cell 1
      have c2 : w3.cell? ⟨kp, 2, none⟩ = some (.string s) := h1.cell 2
      have c3 : w3.cell? ⟨kp, 3, none⟩ = some (.int .i64 v) := h1.cell 3
      have c4 : w3.cell? ⟨kp, 4, none⟩ = some (.int .i64 e) := h1.cell 4
      have kpl := h1.lt
      have C2 := sqopOf_any k s v e w3
      rw [← hTk.op] at C2
      obtain ⟨o, ho⟩ : ∃ x, opV P2 = x := ⟨_, rfl⟩
      rw [ho] at C2
      have Ho := hide ho
      unfold tkV at C2
      have C2 := hide C2
      clear h1 hTk ho
      go_wp2_with fail
      refine (unhide C2).mono ?_
      rintro e1 w4 ⟨rfl, o4⟩
      have C4' := (unhide HC3).keep o4 (fun e => e)
      have d1 : w4.cell? ⟨kc, 1, none⟩ = some (.int .i64 0) := C4'.cell 1
      have g1 := C4'.free 1
      have kcl4 := C4'.lt
      have HX4 := hide (unhide HSt w4 _ _ (only1 (p := kc) 1 (.int .i64 o)) ((unhide HX).1.quiet o4) ((unhide HX).2.1.keep o4 (fun e => e)) ((unhide HX).2.2.trans (o4.mono (fun _ _ e => e.elim)) (fun _ _ e => e)))
      have HC4 := hide (show Has (w4.setCell ⟨kc, 1, none⟩ (.int .i64 o)) kc #[.string nv, .int .i64 o, .bool false, .int .i64 0, .string ⟨#[]⟩] 300 from C4'.setCell 1 _)
      clear C2 o4 C4' HX HC3 c1 c2 c3 c4 kpl
      go_upto_region 6 with fail
      generalize w4.setCell ⟨kc, 1, none⟩ (.int .i64 o) = w5 at *
      clear d1 g1 kcl4
      have e1 : w5.cell? ⟨kc, 1, none⟩ = some (.int .i64 o) := (unhide HC4).cell 1
      have kcl5 := (unhide HC4).lt
      obtain ⟨P3, hP3⟩ : ∃ x, (if opV P2 = 0 then failP else nextP P2) = x := ⟨_, rfl⟩
      have HP3 := hide hP3
      clear hP3
      go_upto_if 23 with fail
      go_cut [] from 23 to 27 (fun wx => PaP kp t P3 w5 wx)
      case first =>
        by_cases hz : o = 0
        · have b0 : (o != 0) = false := by simp [hz]
          have hp3 := unhide HP3
          rw [unhide Ho, if_pos hz] at hp3
          have C := sqfail_any (unhide HX4).2.1
          have C := hide C
          subst hp3
          clear hz
          go_wp2_with fail
          refine (unhide C).mono ?_
          rintro e2 w6 ⟨rfl, hh⟩
          have FF := hide hh
          clear hh C
          go_wp2_with fail
          go_meet
          exact unhide FF
        · have b0 : (o != 0) = true := by simpa using hz
          have hp3 := unhide HP3
          rw [unhide Ho, if_neg hz] at hp3
          obtain ⟨x, l', b', hx, hn⟩ := op_sign (P := P2) (by rw [unhide Ho]; exact hz)
          have h4 := (unhide HX4).2.1
          rw [hx] at h4
          have C := sqstep_any ht h4
          rw [hn] at hp3
          rw [hp3] at C
          have C := hide C
          clear hz hx hn h4 hp3
          go_wp2_with fail
          refine (unhide C).mono ?_
          rintro e2 w6 ⟨rfl, hh⟩
          have FF := hide hh
          clear hh C
          go_wp2_with fail
          go_meet
          exact unhide FF
      case rest =>
      generalize wc = w6 at *
      have HM6 := hide ((unhide HX4).1.byPar (unhide HX4).2.1 hcut)
      have HC6 := hide ((unhide HC4).keep hcut.2 kcp)
      have HOn6 := hide ((unhide HX4).2.2.trans hcut.2 (fun b _ e => by have e' : b = kp := e; omega))
      have C3 := sqlit_any ht hcut.1
      have HPs6 := hide hcut.1
      obtain ⟨lv, hlv⟩ : ∃ x, litV P3 = x := ⟨_, rfl⟩
      obtain ⟨P4, hP4⟩ : ∃ x, litP P3 = x := ⟨_, rfl⟩
      rw [hlv, hP4] at C3
      unfold vlA at C3
      have HLV := hide (And.intro hlv hP4)
      have C3 := hide C3
      clear hcut HX4 HC4 e1 kcl5 hlv hP4
      go_wp2_with fail
      refine (unhide C3).mono ?_
      rintro e2 w7 ⟨rfl, hh⟩
      have C7' := (unhide HC6).keep hh.2 kcp
      have HM7 := hide ((unhide HM6).byPar (unhide HPs6) hh)
      have HOn7 := hide ((unhide HOn6).trans hh.2 (fun b _ e => by have e' : b = kp := e; omega))
      have d2 : w7.cell? ⟨kc, 2, none⟩ = some (.bool false) := C7'.cell 2
      have d3 : w7.cell? ⟨kc, 3, none⟩ = some (.int .i64 0) := C7'.cell 3
      have d4 : w7.cell? ⟨kc, 4, none⟩ = some (.string ⟨#[]⟩) := C7'.cell 4
      have g2 := C7'.free 2
      have g3 := C7'.free 3
      have g4 := C7'.free 4
      have kcl7 := C7'.lt
      have o8 : Only (fun b => b = kc) w7 (((w7.setCell ⟨kc, 2, none⟩ (.bool lv.str)).setCell ⟨kc, 3, none⟩ (.int .i64 lv.i)).setCell ⟨kc, 4, none⟩ (.string lv.s)) := ((only1 (p := kc) _ _).trans (only1 (p := kc) _ _) (fun _ _ h => h)).trans (only1 (p := kc) _ _) (fun _ _ h => h)
      have HX8 := hide (unhide HSt w7 _ _ o8 (unhide HM7) hh.1 (unhide HOn7))
      have HC8 := hide (show Has (((w7.setCell ⟨kc, 2, none⟩ (.bool lv.str)).setCell ⟨kc, 3, none⟩ (.int .i64 lv.i)).setCell ⟨kc, 4, none⟩ (.string lv.s)) kc #[.string nv, .int .i64 o, .bool lv.str, .int .i64 lv.i, .string lv.s] 300 from ((C7'.setCell 2 _).setCell 3 _).setCell 4 _)
      clear C3 hh C7' HM6 HC6 HOn6 HPs6 HM7 HOn7 o8
      go_upto_region 10 with fail
      generalize ((w7.setCell ⟨kc, 2, none⟩ (.bool lv.str)).setCell ⟨kc, 3, none⟩ (.int .i64 lv.i)).setCell ⟨kc, 4, none⟩ (.string lv.s) = w8 at *
      clear d2 d3 d4 g2 g3 g4 kcl7
      have hM8 := (unhide HX8).1
      have own8 := hM8.own 8 (by unfold sqj; omega)
      have hln : S.ln 8 = l.length := (unhide HBl).2.1.x8.2
      rw [hln] at own8
      have hl1000 : l.length + P1.1.length + 1 ≤ 1000 := by simpa using (unhide HBl).2.2.1
      obtain ⟨n, hnn⟩ : ∃ n, l.length = n := ⟨_, rfl⟩
      rw [hnn] at own8 hl1000
      obtain ⟨a, cap, hcell⟩ := ownsRow_shape own8
      have z0 := hM8.cl (i := 8) (by omega)
      rw [hcell] at z0 own8
      have zf := hM8.fr 8
      have kl8 := hM8.lt
      have own1 : w8.ownsRow 0 300 5 (.slice a n cap) n (S.xs 8) := own8
      have zne : (Value.slice a n cap).ownBlock ≠ some ks := fun c => hM8.kne (j := 8) (by unfold sqj; omega) (by rw [hcell]; exact c) rfl
      have e0 : w8.cell? ⟨kc, 0, none⟩ = some (.string nv) := (unhide HC8).cell 0
      have e1 : w8.cell? ⟨kc, 1, none⟩ = some (.int .i64 o) := (unhide HC8).cell 1
      have e2 : w8.cell? ⟨kc, 2, none⟩ = some (.bool lv.str) := (unhide HC8).cell 2
      have e3 : w8.cell? ⟨kc, 3, none⟩ = some (.int .i64 lv.i) := (unhide HC8).cell 3
      have e4 : w8.cell? ⟨kc, 4, none⟩ = some (.string lv.s) := (unhide HC8).cell 4
      have kcl8 := (unhide HC8).lt
      have oA : Only (fun _ => False) w8 ((w8.alloc (.cells #[.string nv, .int .i64 o, .bool lv.str, .int .i64 lv.i, .string lv.s] 300)).drew) := ((Only.refl _ w8).alloc _).drew
      have z1 := oA.cellS z0
      have z1f : ((w8.alloc (.cells #[.string nv, .int .i64 o, .bool lv.str, .int .i64 lv.i, .string lv.s] 300)).drew).frozen? ⟨ks, 8, none⟩ = false := oA.frS zf (fun e => e) kl8
      have l5 : n + 1 ≤ maxLen := by unfold maxLen; omega
      have hlo8 : lo ≤ w8.heap.size := by omega
      have HPP : Hid (∀ (gg cap3 : Nat) (w9 : World), w9.ownsRow 0 300 5 (.slice (some ⟨gg, 0, none⟩) (n + 1) cap3) (n + 1) (S.xs 8 ++ [.string nv, .int .i64 o, .bool lv.str, .int .i64 lv.i, .string lv.s]) → ((w8.alloc (.cells #[.string nv, .int .i64 o, .bool lv.str, .int .i64 lv.i, .string lv.s] 300)).drew).grownBy w9 (Value.slice a n cap).ownBlock → ((Value.slice a n cap).ownBlock = some gg ∨ gg = w8.heap.size + 1) → QP lo (w9.setCell ⟨ks, 8, none⟩ (.slice (some ⟨gg, 0, none⟩) (n + 1) cap3)) kp ks t P4 { st with wh := l ++ [⟨nv, o, lv⟩] } ∧ Only (fun b => lo ≤ b) w (w9.setCell ⟨ks, 8, none⟩ (.slice (some ⟨gg, 0, none⟩) (n + 1) cap3))) := hide (fun gg cap3 w9 h1 h2 h3 => by
        have p := (unhide HX8).1.push (j := 8) (by unfold sqj; omega) (es := cmC ⟨nv, o, lv⟩) (n := n + 1) oA h1 (by rw [hcell]; exact h2) (fun b hb => by
          simp [Value.ownBlock] at hb
          subst hb
          rw [hcell]
          exact h3.imp id (fun c => by omega)) hlo8
        obtain ⟨cc, hcc⟩ := (unhide HX8).2.1.has
        have hk : ¬ S.U ks 8 kp := fun c => by
          rcases c with c | c
          · exact hM8.par hcc ks (.inl rfl) c.symm
          · exact hM8.par hcc kp (.inr ⟨8, by unfold sqj; omega, c⟩) rfl
        exact ⟨⟨(unhide HX8).2.1.keep p.2 hk, hlp, _, p.1, (unhide HBl).2.1.wh (by rw [hnn])⟩, (unhide HX8).2.2.trans p.2 (fun b _ c => (unhide HX8).1.ulo (by unfold sqj; omega) b c)⟩)
      have Hnn := hide hnn
      clear hM8 own8 hln hcell hnn
      go_region_law
        ((refine step_append_lies _ (by rfl) _ _ _ (by rfl) 0 300 i0 _ 5 56 Tryz.underlying171 hi0 hz0 hy0 hb0 rfl (by omega) (.slice a n cap) n (S.xs 8) (by rfl) ((own1.alloc _).drew) ⟨w8.heap.size, 0, none⟩ 1 1 [.string nv, .int .i64 o, .bool lv.str, .int .i64 lv.i, .string lv.s] (by rfl) (by rfl) (World.news_of_block (cs := #[.string nv, .int .i64 o, .bool lv.str, .int .i64 lv.i, .string lv.s]) (t := 300) (fr := (0, 0)) (heap_alloc_new w8 _)) (by simp [Value.oneCell']) (by omega) l5 (by omega) (by simp) (w8.heap.size + 1) (by simp) ?_; intro gg cap3 w9 hown1 hgrow hat hlt3; have y3 := (hgrow.cell_far ⟨ks, 8, none⟩ (by simp; omega) (Ne.symm zne)).trans z1; have yz := (hgrow.frozen_far ⟨ks, 8, none⟩ (by simp; omega) (Ne.symm zne)).trans z1f))
      all_goals
        have HQ9 := hide (unhide HPP gg cap3 w9 hown1 hgrow hat)
        clear hown1 hgrow hat hlt3 HPP z0 zf own1 zne z1 z1f oA e0 e1 e2 e3 e4
        go_upto_region 2 with fail
        clear y3 yz
        generalize w9.setCell ⟨ks, 8, none⟩ (.slice (some ⟨gg, 0, none⟩) (n + 1) cap3) = wA at *
        have C5 := sqeat_any ht (unhide HQ9).1.ps wAND
        obtain ⟨b5, hb5⟩ : ∃ b, eatB wAND P4 = b := ⟨_, rfl⟩
        rw [hb5] at C5
        have Hb5 := hide hb5
        unfold wAND at C5
        have C5 := hide C5
        clear hb5
        go_wp2_with fail
        refine (unhide C5).mono ?_
        rintro e5 wB ⟨rfl, hh⟩
        have HEnd : Hid (∃ (m : Bool) (P1' : Ps) (l' : List Cm), (Value.bool b5 : Value) = .bool m ∧ QP lo wB kp ks t P1' { st with wh := l' } ∧ l'.length + P1'.1.length + (if m = true then 1 else 0) ≤ 1000 ∧ R = (if m = true then listP cmpP wAND P1' l' else (P1', l')) ∧ Only (fun b => lo ≤ b) w wB ∧ 2 * P1'.1.length + (if m = true then 1 else 0) < gk) := hide (by
          obtain ⟨hB, hO, hlen, hR, hgk⟩ := unhide HBl
          have hq : QP lo wB kp ks t (eatP wAND P4) { st with wh := l ++ [⟨nv, o, lv⟩] } := (unhide HQ9).1.par hh
          have hon := (unhide HQ9).2.trans hh.2 (fun b _ e => by have e' : b = kp := e; omega)
          have hcmp : cmpP P1 = (P4, ⟨nv, o, lv⟩) := by
            unfold cmpP
            rw [(unhide HNV).2, unhide HP3, (unhide HLV).1, (unhide HLV).2, (unhide HNV).1, unhide Ho]
          have hstep := listP_step (sep := wAND) cmpP_len P1 l
          rw [hcmp] at hstep
          simp only at hstep
          have hR : R = listP cmpP wAND P1 l := by simpa using hR
          have hgk : 2 * P1.1.length + 1 ≤ gk := by simpa using hgk
          have hlen : l.length + P1.1.length + 1 ≤ 1000 := by simpa using hlen
          rw [hstep] at hR
          have hlen4 : P4.1.length ≤ P1.1.length := by
            have := cmpP_len P1
            rw [hcmp] at this
            exact this
          have e1 : eatP wAND P4 = if b5 = true then nextP P4 else P4 := by unfold eatP; rw [unhide Hb5]
          rw [e1] at hq
          cases b5 with
          | true =>
            rw [unhide Hb5, if_pos rfl] at hR
            have e2 := eat_len (unhide Hb5)
            rw [if_pos rfl] at hq
            exact ⟨true, nextP P4, l ++ [⟨nv, o, lv⟩], rfl, hq, by simp; omega, by rw [if_pos rfl]; exact hR, hon, by simp; omega⟩
          | false =>
            rw [unhide Hb5, if_neg (by decide : ¬ (false = true))] at hR
            rw [if_neg (by decide : ¬ (false = true))] at hq
            exact ⟨false, P4, l ++ [⟨nv, o, lv⟩], rfl, hq, by simp; omega, by rw [if_neg (by decide : ¬ (false = true))]; exact hR, hon, by simp; omega⟩)
        clear C5 hh
        go_wp2_with fail
        obtain ⟨m', P1', l', hm', hq', hl', hr', ho', hg'⟩ := unhide HEnd
        go_roundg (2 * P1'.1.length + (if m' = true then 1 else 0))
        case measure => exact hg'
        case rel => exact ⟨m', P1', l', hm', hq', hl', hr', ho', Nat.le_refl _⟩
end
end Go.Proofs.Qxb6500412aGreat
