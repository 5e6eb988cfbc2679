/-
  OWN WORK. THE TREE: build, walked.
-/
import Derived.Test.Qxb6500417aGreatTBl2
namespace Go.Proofs.Qxb6500417aGreat
open Go.RowKit Go.PlainAid
set_option linter.unusedSimpArgs false
set_option linter.unusedVariables false

theorem urun_mk (w : World) (c : Nat) (hc : c ≤ 1000000) : (Instr.makeSlice 90 (.int .i64 0) (.int .i64 (c : Int))).run Tryz.prog w = .ok (.slice (some ⟨w.heap.size, 0, none⟩) 0 c) (w.alloc (.cells (tabV c (u8f (fun _ => 0))) 5)) := by
  obtain ⟨i, hi, hz, hs, hb⟩ := info_parts Tryz.infoU8o
  have := run_make (P := Tryz.prog) w 90 5 i _ Tryz.underlying90 hi hz .i64 .i64 (0 : Int) (c : Int) (by omega) (by omega) (by rw [hb]; omega) (by omega)
  rw [this]
  have e : tabV c (u8f (fun _ => 0)) = Array.replicate c (Value.int .u8 0) := by
    apply Array.ext'
    unfold tabV u8f
    apply List.ext_getElem (by simp)
    intro j h1 h2
    simp
  simp [hs, Value.cells, madeCells_oneO, e]
theorem urun_make (w : World) : (Instr.makeSlice 90 (.int .i64 0) (.int .i64 180)).run Tryz.prog w = .ok (.slice (some ⟨w.heap.size, 0, none⟩) 0 180) (w.alloc (.cells (tabV 180 (u8f (fun _ => 0))) 5)) := urun_mk w 180 (by omega)
theorem umade (w : World) (c : Nat) (hc : c ≤ 1000000) : OwnU (w.alloc (.cells (tabV c (u8f (fun _ => 0))) 5)) (.slice (some ⟨w.heap.size, 0, none⟩) 0 c) [] := by
  refine ⟨rfl, .inr ⟨w.heap.size, c, tabV c (u8f (fun _ => 0)), rfl, Nat.zero_le _, heap_alloc_new w _, by simp, by unfold maxLen; omega, by rw [tabV_size, Nat.mul_one], ?_⟩⟩
  simp [uV]
theorem appendRow_int {w : World} {v : Value} {l : List Nat} (h : OwnU w v l) (hdI idI : Int) (hd id : Nat) (name : Str) (e1 : hdI = hd) (e2 : idI = id) (h1 : hd < 256) (h2 : id < 256) (h3 : name.length < 256) (hl : l.length ≤ 1000000) :
    Calls Tryz.prog 185 #[v, .int .i64 hdI, .int .i64 idI, .string (sb name)] w fun e w' => ∃ v', e = .returned v' ∧ UI w v v' (l ++ hd :: id :: name.length :: name.map (fun c => c.toNat)) w' := by
  subst e1 e2
  exact appendRow_any h hd id name h1 h2 h3 hl
theorem row_capU {w : World} {a : Option Addr} {n cap : Nat} {l : List Nat} (h : OwnU w (.slice a n cap) l) : n ≤ cap ∧ cap ≤ 9223372036854775807 := by
  rcases h.2 with ⟨he, h0⟩ | ⟨g', cap', cur, he, _, _, h1, h2, _⟩
  · simp at he
    omega
  · simp at he
    unfold maxLen at h2
    omega
theorem EntsIn.shape {w : World} {v : Value} {l : List En} (h : EntsIn w v l) : ∃ a cap, v = .slice a l.length cap := by
  obtain ⟨a, cap, e, _⟩ := h
  exact ⟨a, cap, e⟩
theorem BLI.mem {w wr : World} {t s d : Nat} {D B : Nat → Nat} {recs : List Rec} {J J1 : Nat → Sl} {rt : Nat} {F F1 : Nat → Prop} {L l rem : List En} {hi m i : Nat} {pre : Str} {bv : Value} {acc : List Rw} {news : List Rec} (h : BLI w t s d D B recs J rt F L l hi m pre i bv rem J1 acc news F1 wr) : ∀ x ∈ rem, x ∈ l := fun x hx => by
  obtain ⟨done, hd, _⟩ := h.don
  rw [← tp_flat l, ← hd, List.flatMap_append, tp_flat]
  exact List.mem_append_right _ hx
theorem Wrote.first {w w0 w1 : World} {t s d : Nat} {D B : Nat → Nat} {recs : List Rec} {J J1 : Nat → Sl} {rt : Nat} {F F1 : Nat → Prop} {n1 : List Rec} (ho : Only (fun _ => False) w w0) (h : Wrote w0 w1 t s d D B recs J J1 rt F n1 F1) : Wrote w w1 t s d D B recs J J1 rt F n1 F1 := by
  have hs := ho.size
  refine ⟨h.ts, h.cuts, h.same, fun y hy => ?_, (ho.mono (T := fun y => y = t ∨ y = s ∨ F y) (fun _ _ h => h.elim)).trans h.only (fun _ _ h => h), h.pot, h.keys⟩
  rcases h.ext y hy with e | e
  · exact .inl e
  · exact .inr (by omega)
section
variable {t s d rt : Nat} {B : Nat → Nat}
set_option maxRecDepth 100000 in
set_option maxHeartbeats 2000000 in
theorem tbuild_any (L : List En) (hL8 : L.length ≤ 8) (hLp : ∀ x ∈ L, x.path.length ≤ 12) (lv : Value) :
    ∀ (n : Nat) (w : World) (D : Nat → Nat) (recs : List Rec) (J : Nat → Sl) (F : Nat → Prop) (l : List En) (lo hi : Nat) (pre : Str) (sk : Int), sk = (pre.length : Int) → TS w t s d D B recs J rt F → EntsIn w lv L → (∀ y, lv.ownBlock = some y → y ≠ t ∧ y ≠ s ∧ ¬ F y) → (L.drop lo).take (hi - lo) = l.map (addP pre) → lo ≤ hi → hi ≤ L.length → pre.length ≤ 12 → Fine l → Deep n l → 1 ≤ n → Blobs J l → recs.length + 3 * frJ J ≤ 900 →
      Calls Tryz.prog 163 #[.pointer (some ⟨t, 0, none⟩), lv, .int .i64 lo, .int .i64 hi, .int .i64 sk] w fun e w' => e = .returned (.tuple #[.int .i64 ((bld n J l).2.1 : Nat), .int .i64 ((bld n J l).2.2 : Nat)]) ∧ ∃ news F', Wrote w w' t s d D B recs J (bld n J l).1 rt F news F' := by
  intro n
  induction n with
  | zero => intros; omega
  | succ m ih =>
    intro w D recs J F l lo hi pre sk hsk hTS hE hlv hr hle hh hpre hf hd h1n hb hpot
    have hmk := urun_make w
    have oA : Only (fun _ => False) w (w.alloc (.cells (tabV 180 (u8f (fun _ => 0))) 5)) := (Only.refl _ w).alloc _
    obtain ⟨t1, t2, t3⟩ := hTS.ts_lt
    have hB0 : BLI w t s d D B recs J rt F L l hi m pre lo (.slice (some ⟨w.heap.size, 0, none⟩) 0 180) l J [] [] F (w.alloc (.cells (tabV 180 (u8f (fun _ => 0))) 5)) := by
      refine ⟨(Wrote.refl hTS).own (S := fun _ => False) oA (fun y hy => hy.elim), hr, hle, ⟨[], rfl, RowsOk.nil J⟩, rfl, umade w 180 (by omega), fun y hy => ?_, hb⟩
      simp [Value.ownBlock] at hy
      exact ⟨by omega, by omega, by omega, fun hF => by have := t3 y hF; omega⟩
    have HB0 := hide hB0
    obtain ⟨la, lc, rfl⟩ := hE.shape
    have HE := hide hE
    have Hlv := hide hlv
    have Hr := hide hr
    have Hf := hide hf
    have Hd := hide hd
    have Hpot := hide hpot
    have IH := hide ih
    subst hsk
    clear hTS hE hlv hr hf hd hb hpot hB0 ih oA
    go_enter Tryz.func163, Tryz.ntmps163
    go_wp2_with fail
    go_loopw [12, 13] (fun bv iv wr => ∃ (i : Nat) (rem : List En) (J1 : Nat → Sl) (acc : List Rw) (news : List Rec) (F1 : Nat → Prop), iv = .int .i64 i ∧ BLI w t s d D B recs J rt F L l hi m pre i bv rem J1 acc news F1 wr) (fun _ iv _ => hi - (intOf iv).toNat)
    case atStart => exact ⟨lo, l, J, [], [], F, rfl, unhide HB0⟩
    case round =>
      clear HB0
      obtain ⟨i, rem, J1, acc, news, F1, rfl, hI⟩ := hrel
      have hil := range_len hI.rng hh hI.le
      cases rem with
      | nil =>
        have hie : i = hi := by have := hI.le; simp at hil; omega
        have a1 : decide ((i : Int) < (hi : Int)) = false := decide_eq_false (by omega)
        have a1n : decide (i < hi) = false := decide_eq_false (by omega)
        obtain ⟨hbq, hRok⟩ := hI.done
        obtain ⟨hacc, henc, hwfa⟩ := hI.len (unhide Hf)
        have hTS1 := hI.wrt.ts
        obtain ⟨ob, hO, hR⟩ := hTS1.ex
        obtain ⟨oa, oc, hov⟩ := ownsRow_shape hI.buf
        subst hov
        have hpot1 : (recs ++ news).length ≤ 900 := by
          have := hI.wrt.pot
          have := unhide Hpot
          rw [List.length_append]
          omega
        have C : Calls Tryz.prog 166 #[.pointer (some ⟨s, 0, none⟩), .int .i64 2, .slice oa (encs acc).length oc] wr fun e w' => PutR wr w' s d (replayB D news) B (recs ++ news) ob rt F1 2 (encs acc) e := put_any hO 2 (by omega) (by omega) (encs acc) _ hI.buf.at_ (by omega) (fun j hj => by
          have h1 := encs_lt hwfa (dF (encs acc) j)
          refine h1 ?_
          unfold dF
          rw [getD_in hj]
          exact List.getElem_mem hj) (fun y hy => ⟨(hI.bb y hy).2.2.2, (hI.bb y hy).2.2.1⟩) hpot1
        have C := hide C
        have c0 := hTS1.tab.store.1
        have htl := Has.lt hTS1.tab
        have HI := hide hI
        have HR := hide hR
        have HO := hide hO
        have HRok := hide hRok
        have HT := hide hTS1
        have Hbq := hide hbq
        have Hwfa := hide hwfa
        have Hcap : Hid (Capd (.slice oa (encs acc).length oc)) := hide (fun g n cap e => by
          have := row_capU hI.buf
          simp at e
          omega)
        clear hI hR hO hRok hTS1 hbq hwfa hie
        go_wp2_with fail
        refine (unhide C).mono ?_
        intro y w1 hP
        cases hP with
        | found r hr hl hk hd he ho =>
          subst he
          have hJl : liveS (J1 r) = true := by rw [← (unhide HR).live hr]; exact hl
          have hJk : (J1 r).kd = 2 := by rw [← ((unhide HR) r hr).2.1]; exact hk
          have hJd : (J1 r).dat = encs acc := by rw [← ((unhide HR) r hr).2.2]; exact hd
          have hfin := fin_found (unhide HT).inv (unhide HRok) hr hJl hJk hJd
          have q := ((unhide HT).tab.keep ho (fun h => h)).kind r (by have := hr.2; omega)
          rw [kindJ_live hr hJl, hJk] at q
          have q1 : w1.cell? ⟨t, 1 + r, none⟩ = some (.int .i64 2) := q.1
          have RR := hide ((unhide HI).wrt.own (S := fun _ => False) ho (fun y hy => hy.elim))
          have Hfin := hide ((unhide Hbq).trans hfin)
          have r49 : (r : Int) < 49 := by have := hr.2; omega
          have htl1 := Has.lt ((unhide HT).tab.keep ho (fun h => h))
          clear hl hk hd ho hJl hJk hJd hfin q HI HR HO HRok HT C Hbq
          go_wp2_with fail
          go_ret2
          rw [unhide Hfin]
          exact ⟨rfl, _, _, unhide RR⟩
        | full hno hf he ho =>
          subst he
          have hfin : finJ J1 l acc = (J1, 0, 5) := by
            unfold finJ
            rw [fin_none (unhide HT).inv (unhide HRok) (fun j hj hl => by
              have := hno j hj (by rw [(unhide HR).live hj]; exact hl)
              rw [((unhide HR) j hj).2.1, ((unhide HR) j hj).2.2] at this
              exact this), lowJ_full (fun j hj => by rw [← ((unhide HR) j hj).1]; exact hf j hj)]
          have RR := hide ((unhide HI).wrt.own (S := fun _ => False) ho (fun y hy => hy.elim))
          have Hfin := hide ((unhide Hbq).trans hfin)
          clear hno hf ho hfin HI HR HO HRok HT C Hbq
          go_wp2_with fail
          go_ret2
          rw [unhide Hfin]
          exact ⟨rfl, _, _, unhide RR⟩
        | new k Lb hno hki h0 hlow hLl hLb he hs ho =>
          subst he
          have hj0 : (J1 k).st = 0 := by rw [← ((unhide HR) k hki).1]; exact h0
          have hnone := fin_none (unhide HT).inv (unhide HRok) (fun j hj hl => by
              have := hno j hj (by rw [(unhide HR).live hj]; exact hl)
              rw [((unhide HR) j hj).2.1, ((unhide HR) j hj).2.2] at this
              exact this)
          have hfin : finJ J1 l acc = (updT J1 k ⟨1, 2, encs acc, l, acc⟩, k, 0) := by
            unfold finJ
            rw [hnone, lowJ_eq hki hj0 (fun j hj hlt => by rw [← ((unhide HR) j hj).1]; exact hlow j hj hlt)]
          have hINV := ((unhide HT).inv.add hki hj0 (s := ⟨1, 2, encs acc, l, acc⟩) rfl ⟨by simp, by simp⟩ (fun _ => (unhide HRok).tree (unhide Hf)) (fun e => absurd rfl e) (unhide HRok).lv (fun _ => findT_none hnone)).1
          have hS : ∀ y, (y = s ∨ F1 y) → y ≠ t := fun y hy e => by
            rcases hy with e1 | e1
            · exact (unhide HT).ts (e.symm.trans e1)
            · exact (unhide HT).tF (e ▸ e1)
          have hT1 := (unhide HT).tab.keep ho (fun e => hS t e rfl)
          have k48 := hki.2
          have q := hT1.kind k (by omega)
          have hk0 : kindJ J1 k = 0 := by unfold kindJ; rw [if_neg (fun e => by have := e.2; rw [liveS_iff] at this; omega)]
          rw [hk0] at q
          have q1 : w1.cell? ⟨t, 1 + k, none⟩ = some (.int .i64 0) := q.1
          have q2 := q.2
          have o1 := only1 (w := w1) (p := t) (1 + k) (.int .i64 2)
          have hT2 : TAt (w1.setCell ⟨t, 1 + k, none⟩ (.int .i64 2)) t s (kindJ (updT J1 k ⟨1, 2, encs acc, l, acc⟩)) (cntZ J1) := (hT1.setKind k (by omega) 2).congr (fun j _ => kindJ_upd hki rfl j) (fun _ _ => rfl)
          have hbuf1 : OwnU (w1.setCell ⟨t, 1 + k, none⟩ (.int .i64 2)) (.slice oa (encs acc).length oc) (encs acc) := ((unhide HI).buf.keep ho (fun y hy e => by
            have := (unhide HI).bb y hy
            rcases e with e | e
            · exact this.2.2.1 e
            · exact this.2.2.2 e)).keep o1 (fun y hy e => ((unhide HI).bb y hy).2.1 e)
          have CT := hide (tally_any hT2 hbuf1.at_ (unhide Hcap) (unhide Hwfa) (by omega) 1 (.inl rfl) (fun j _ => by have := (unhide HT).inv.cntZ_le j; omega))
          have HN := hide (fun (w3 : World) (hT3 : TAt w3 t s (kindJ (updT J1 k ⟨1, 2, encs acc, l, acc⟩)) (ctAdd (cntZ J1) 1 acc)) (ho3 : Only (fun y => y = t) (w1.setCell ⟨t, 1 + k, none⟩ (.int .i64 2)) w3) => (unhide HI).wrt.trans ((unhide HT).new (unhide HR) (unhide HO) hki h0 hLl (by omega) hLb hs ho (x := ⟨1, 2, encs acc, l, acc⟩) rfl rfl rfl hINV (hT3.congr (fun _ _ => rfl) (fun j _ => by
            unfold cntZ ctAdd
            rw [cntJ_upd hki hj0 rfl j 49, if_pos (by omega)]
            push_cast
            omega)) (o1.trans ho3 (fun _ _ h => h))))
          have Hfin := hide ((unhide Hbq).trans hfin)
          have r49 : (k : Int) < 49 := by omega
          have htl1 := Has.lt hT1
          clear hno h0 hlow hLl hLb hs ho hj0 hnone hfin hINV hS hT1 q hk0 o1 hT2 hbuf1 HI HR HO HRok HT C Hbq hki
          go_wp2_with fail
          refine (unhide CT).mono ?_
          rintro y w3 ⟨rfl, hT3, ho3⟩
          have RR := hide (unhide HN w3 hT3 ho3)
          clear hT3 ho3 CT HN
          go_wp2_with fail
          go_ret2
          rw [unhide Hfin]
          exact ⟨rfl, _, _, unhide RR⟩
      | cons e r =>
        obtain ⟨hiL, hih, hLi, hrest⟩ := range_head (l := l) hI.rng hh
        have a1 : decide ((i : Int) < (hi : Int)) = true := decide_eq_true (by omega)
        have a1n : decide (i < hi) = true := decide_eq_true hih
        have a2 : (i : Int) < (L.length : Int) := by omega
        obtain ⟨g, rfl, hcell⟩ := (by obtain ⟨a, cap, e, h⟩ := unhide HE; simp at e; obtain ⟨rfl, rfl⟩ := e; exact h (by omega) : ∃ g, la = some ⟨g, 0, none⟩ ∧ _)
        obtain ⟨c0, c1, c2⟩ := hcell i hiL
        have hgl : g < w.heap.size := World.block_lt_of_cell? w _ c0
        have hgn := unhide Hlv g rfl
        have hblk := hI.wrt.only.block g hgl (fun e => by
          rcases e with e | e | e
          · exact hgn.1 e
          · exact hgn.2.1 e
          · exact hgn.2.2 e)
        have hws := hI.wrt.only.size
        have hgw : g < wr.heap.size := by omega
        rw [hLi] at c0 c1 c2
        have x0 := (World.cell?_of_block (a := ⟨g, i * 3, none⟩) hblk).trans c0
        have x1 := (World.cell?_of_block (a := ⟨g, i * 3 + 1, none⟩) hblk).trans c1
        have x2 := (World.cell?_of_block (a := ⟨g, i * 3 + 2, none⟩) hblk).trans c2
        have hel := hI.mem e (by simp)
        have hlen12 := (unhide Hf).len e hel
        obtain ⟨hacc, henc, hwfa⟩ := hI.len (unhide Hf)
        have x0' : wr.cell? ⟨g, i * 3, none⟩ = some (.string (sb (pre ++ e.path))) := x0
        have x1' : wr.cell? ⟨g, i * 3 + 1, none⟩ = some (.int .i64 e.id) := x1
        have x2' : wr.cell? ⟨g, i * 3 + 2, none⟩ = some (.int .i64 e.mode) := x2
        have hsz : (sb (pre ++ e.path)).size = pre.length + e.path.length := by rw [sb_size, List.length_append]
        have C1 := slashFrom_any (sb (pre ++ e.path)) pre.length (by omega) (by omega) wr
        rw [ls_sb, slashI_pre] at C1
        have hids := (unhide Hf).ids e hel
        have hmd := (unhide Hf).md e hel
        obtain ⟨mo, hmo⟩ : ∃ mo : Nat, e.mode = mo := ⟨e.mode.toNat, by omega⟩
        obtain ⟨eid, heid⟩ : ∃ eid : Nat, e.id = eid := ⟨e.id.toNat, by omega⟩
        clear x0 x1 x2 c0 c1 c2 hcell hblk
        cases hc : cutS e.path with
        | none =>
          rw [hc] at C1
          simp only at C1
          have C1 := hide C1
          have hx1 : (sb (pre ++ e.path)).extract pre.length (sb (pre ++ e.path)).size = sb e.path := by rw [hsz, ← List.length_append]; exact sb_drop pre e.path
          have own1 := hI.buf
          obtain ⟨oa, oc, rfl⟩ := ownsRow_shape own1
          have C2 := hide (fun (W : World) (hW : Only (fun _ => False) wr W) => appendRow_int (own1.keep hW (fun _ _ h => h)) ((mo : Int) * 2) (eid : Int) (mo * 2) eid e.path (by omega) rfl (by omega) (by omega) (by omega) (by omega))
          have hfr : enc (fileR e) = (mo * 2) :: eid :: e.path.length :: e.path.map (fun c => c.toNat) := by
            unfold enc fileR
            rw [hmo, heid]
            rfl
          have HF := hide (fun (v' : Value) (w1 : World) (hu : UI wr (.slice oa (encs acc).length oc) v' (encs acc ++ enc (fileR e)) w1) => hI.file (unhide Hf) hh hc hu)
          rw [hfr] at HF
          have HI := hide hI
          rw [hmo] at x2'
          rw [heid] at x1'
          have hwm : IntKind.i64.wrap ((mo : Int) * 2) = (mo : Int) * 2 := by rw [IntKind.wrap_i64]; omega
          clear hfr hI own1 hrest hil hLi hc hmo heid hmd hids
          generalize hP : sb (pre ++ e.path) = P at *
          clear hP
          generalize e.path = ep at *
          generalize encs acc = ea at *
          have k1 : (pre.length : Int) ≤ (P.size : Int) := by omega
          have k0 : (0 : Int) ≤ (pre.length : Int) := by omega
          clear hsz
          go_wp2_with fail
          refine (unhide C1).mono ?_
          rintro y w0 ⟨rfl, rfl⟩
          go_upto_region 7 with fail
          have C3 := hide (unhide C2 wr.drew ((Only.refl _ wr).drew))
          go_region_with (go_at_call 185; refine (unhide C3).mono ?_; rintro y w1 ⟨v', rfl, hu⟩)
          all_goals
            have HN := hide (unhide HF v' w1 ⟨hu.own, hu.hb, (Only.refl _ wr).drew.trans hu.ho (fun _ _ h => h)⟩)
            clear hu
            go_wp2_with fail
            go_roundw
            case rel => exact ⟨i + 1, r, J1, _, news, F1, by go_num, unhide HN⟩
            case measure => simp [intOf]; omega
        | some ab =>
          obtain ⟨a, b⟩ := ab
          rw [hc] at C1
          simp only at C1
          obtain ⟨hcp, hca⟩ := cutS_some.1 hc
          obtain ⟨hmem, hrg, hrs, hjle⟩ := hI.group hh hc
          have hpath12 : (pre ++ e.path).length ≤ 12 := by
            have := hLp L[i] (List.getElem_mem hiL)
            rw [hLi] at this
            exact this
          obtain ⟨sub, hsub⟩ : ∃ sub, sub = ((e :: r).takeWhile (hasP a)).map (strip (a.length + 1)) := ⟨_, rfl⟩
          rw [← hsub] at hmem hrg
          obtain ⟨hfs, ha0, ha12, _, hsne⟩ := (unhide Hf).sub hmem
          have hds := (unhide Hd).sub hmem
          have hm1 : 1 ≤ m := by
            obtain ⟨x, q, hx⟩ := List.exists_cons_of_ne_nil hsne
            have := hds x (by rw [hx]; simp)
            omega
          have hK : (pre ++ e.path).length = pre.length + a.length + 1 + b.length := by rw [hcp]; simp; omega
          have hx1 : (sb (pre ++ e.path)).extract pre.length (pre.length + a.length) = sb a := by rw [hcp]; exact sb_mid pre a (47 :: b)
          have hx2 : (sb (pre ++ e.path)).extract 0 (pre.length + a.length + 1) = sb (pre ++ a ++ [47]) := by
            have e1 : pre ++ e.path = (pre ++ a ++ [47]) ++ b := by rw [hcp]; simp
            have e2 : pre.length + a.length + 1 = (pre ++ a ++ [47]).length := by simp; omega
            rw [e1, e2]
            exact sb_head _ _
          have hpref : ∀ k (hk : k < (e :: r).length) (hl : i + k < L.length), preB (pre ++ a ++ [47]) L[i + k].path = hasP a (e :: r)[k] := fun k hk hl => by
            obtain ⟨hl', hx⟩ := range_at hI.rng hh hI.le k hk
            rw [hx]
            show preB (pre ++ a ++ [47]) (pre ++ (e :: r)[k].path) = _
            rw [List.append_assoc, preB_app]
            rfl
          obtain ⟨gl, hgl2⟩ : ∃ gl, gl = ((e :: r).takeWhile (hasP a)).length := ⟨_, rfl⟩
          have hgl1 : 1 ≤ gl := by rw [hgl2, List.takeWhile_cons, if_pos (hasP_cut hc)]; simp
          have hstep : ∀ k, k < gl → ∃ hl : i + k < L.length, i + k < hi ∧ preB (pre ++ a ++ [47]) L[i + k].path = true := fun k hk => by
            rw [hgl2] at hk
            obtain ⟨h1, h2⟩ := takeW_step hk
            have hl : i + k < L.length := by omega
            exact ⟨hl, by omega, by rw [hpref k h1 hl]; exact h2⟩
          have hstop : i + gl < hi → ∃ hl : i + gl < L.length, preB (pre ++ a ++ [47]) L[i + gl].path = false := fun hlt => by
            have h1 : gl < (e :: r).length := by omega
            have hl : i + gl < L.length := by omega
            refine ⟨hl, ?_⟩
            rw [hpref gl h1 hl]
            subst hgl2
            exact takeW_stop h1
          rw [← hgl2] at hrg hrs hjle
          have hBk := bld_ok m J1 sub hI.wrt.ts.inv hfs hds (hI.blb.sub hmem)
          obtain ⟨JB, idn, ern, hbq⟩ : ∃ JB idn ern, bld m J1 sub = (JB, idn, ern) := ⟨_, _, _, rfl⟩
          have hpot1 : (recs ++ news).length + 3 * frJ J1 ≤ 900 := by
            have := hI.wrt.pot
            have := unhide Hpot
            rw [List.length_append]
            omega
          have hlv1 : ∀ y, (Value.slice (some ⟨g, 0, none⟩) L.length lc).ownBlock = some y → y ≠ t ∧ y ≠ s ∧ ¬ F1 y := fun y hy => by
            simp [Value.ownBlock] at hy
            subst hy
            refine ⟨hgn.1, hgn.2.1, fun hF => ?_⟩
            rcases hI.wrt.ext g hF with e | e
            · exact hgn.2.2 e
            · omega
          have hE1 : EntsIn wr (.slice (some ⟨g, 0, none⟩) L.length lc) L := (unhide HE).keep hI.wrt.only (fun y hy hS => by
            simp [Value.ownBlock] at hy
            subst hy
            rcases hS with e | e | e
            · exact hgn.1 e
            · exact hgn.2.1 e
            · exact hgn.2.2 e)
          have CB := hide (fun (W : World) (hW : Only (fun _ => False) wr W) (sk : Int) (hsk : sk = ((pre ++ a ++ [47]).length : Int)) => unhide IH W (replayB D news) (recs ++ news) J1 F1 sub i (i + gl) (pre ++ a ++ [47]) sk hsk (hI.wrt.ts.quiet hW) (hE1.keep hW (fun _ _ h => h)) hlv1 hrg (by omega) (by omega) (by simp; omega) hfs hds hm1 (hI.blb.sub hmem) hpot1)
          rw [hbq] at CB hBk
          have hid : ern = 0 → idn ≤ 48 := fun h0 => (hBk.ok h0).1.2
          have hern : ern ≤ 5 := by
            have h5 : ern = 0 ∨ (ern = 5 ∧ idn = 0) := hBk.err
            omega
          obtain ⟨oa, oc, hov⟩ := ownsRow_shape hI.buf
          subst hov
          have HD := hide (fun (w1 w2 : World) (v' : Value) (n2 : List Rec) (F2 : Nat → Prop) (he : ern = 0) (hW : Wrote wr w1 t s d (replayB D news) B (recs ++ news) J1 JB rt F1 n2 F2) (hu : UI w1 (.slice oa (encs acc).length oc) v' (encs acc ++ enc ⟨true, 0, idn, a⟩) w2) => (by
            have := hI.dir (w1 := w1) (w2 := w2) (v' := v') (n2 := n2) (F2 := F2) (unhide Hf) hh hc hsub (by rw [hbq]; exact hBk) (by rw [hbq]; exact he) (by rw [hbq]; exact hW) (by rw [hbq]; exact hu)
            rw [hbq, ← hgl2] at this
            exact this : BLI w t s d D B recs J rt F L l hi m pre (i + gl) v' ((e :: r).dropWhile (hasP a)) JB (acc ++ [⟨true, 0, idn, a⟩]) (news ++ n2) F2 w2))
          have HFl := hide (fun (he : ern ≠ 0) => (by
            have := hI.fail hc hsub (by rw [hbq]; exact he)
            rw [hbq] at this
            exact this : bld (m + 1) J l = (JB, 0, ern)))
          have HWr := hide hI.wrt
          have Hbuf := hide hI.buf
          have Hbb := hide hI.bb
          have HE1 := hide hE1
          have Hstep := hide hstep
          have Hstop := hide hstop
          have C1 := hide C1
          have Kb : pre.length + a.length + 1 ≤ (sb (pre ++ e.path)).size := by rw [sb_size]; omega
          have Kb2 : pre.length + a.length ≤ 12 := by omega
          have ha256 : a.length < 256 := by omega
          have hplen : (pre ++ a ++ [47]).length = pre.length + a.length + 1 := by simp; omega
          have Hplen := hide hplen
          clear hcp hca hmem hrg hrs hpath12 hsub hfs ha0 ha12 hsne hds hm1 hK hpref hgl2 hstep hstop hBk hbq hpot1 hlv1 hE1 hI hlen12 hsz hids hmd hmo heid hc hrest hLi hel hplen x1' x2' hil
          generalize hP : sb (pre ++ e.path) = P at *
          clear hP
          generalize pre ++ a ++ [47] = pfx at *
          generalize hKK : pre.length + a.length = K at *
          generalize wr = W at *
          generalize encs acc = ea at *
          have kneg : decide ((K : Int) < 0) = false := decide_eq_false (by omega)
          have k1 : (K : Int) + 1 ≤ (P.size : Int) := by omega
          have k2 : (0 : Int) ≤ (K : Int) + 1 := by omega
          have k3 : ((K : Int) + 1).toNat = K + 1 := by omega
          have k4 : (K : Int) ≤ (P.size : Int) := by omega
          have k5 : (pre.length : Int) ≤ (K : Int) := by omega
          have k6 : (0 : Int) ≤ (pre.length : Int) := by omega
          clear hKK
          go_wp2_with fail
          refine (unhide C1).mono ?_
          rintro y w0 ⟨rfl, rfl⟩
          go_wp2_with fail
          go_loopw [16] (fun jv wx => ∃ j : Nat, jv = .int .i64 j ∧ i + 1 ≤ j ∧ j ≤ i + gl ∧ Only (fun _ => False) W wx) (fun jv _ => (i + gl) - (intOf jv).toNat)
          case atStart => exact ⟨i + 1, by go_num, by omega, by omega, Only.refl _ _⟩
          case round =>
            obtain ⟨j, rfl, hj1, hj2, hoj⟩ := hrel
            go_upto_region 10 with fail
            go_cut [70] (fun v wx => v = .bool (decide (j < i + gl)) ∧ Only (fun _ => False) W wx)
            case first =>
              obtain ⟨_, _, he2, hE2⟩ := (unhide HE1).keep hoj (fun _ _ h => h)
              obtain ⟨g2, hg2, hcell2⟩ := hE2 (by omega)
              simp at he2
              obtain ⟨he3, he4⟩ := he2
              subst he4
              have hgg : g = g2 := by rw [← he3] at hg2; simpa using hg2
              subst hgg
              have hosz := hoj.size
              have hgwr : g < wr.heap.size := by omega
              have hpz : (sb pfx).size ≤ 1000000 := by
                rw [sb_size]
                have := unhide Hplen
                omega
              by_cases hjl : j < i + gl
              · obtain ⟨k, hk⟩ : ∃ k, j = i + k := ⟨j - i, by omega⟩
                obtain ⟨hlL, hlh, hpr⟩ := unhide Hstep k (by omega)
                have hjL : j < L.length := by omega
                have hpr2 : preB pfx L[j].path = true := by subst hk; exact hpr
                obtain ⟨y0, _, _⟩ := hcell2 j hjL
                have C := fun (n : Nat) => (hasPrefix_any (sb L[j].path) (sb pfx) (wr.drewN n)).mono (R' := fun e w' => e = .returned (.bool true) ∧ w' = wr.drewN n) (fun e w' h => ⟨by rw [h.1, ls_sb, ls_sb, hpr2], h.2.symm⟩)
                have C := hide C
                have b1 : decide ((j : Int) < (hi : Int)) = true := decide_eq_true (by omega)
                have b1n : decide (j < hi) = true := decide_eq_true (by omega)
                have b2 : (j : Int) < (L.length : Int) := by omega
                have b3 : decide (j < i + gl) = true := decide_eq_true hjl
                have B3 := hide b3
                clear b3
                have HO := hide hoj
                clear hpr hpr2 hk hcell2 hE2 hoj he3 hg2
                generalize L[j].path = pj at *
                go_quiet (first | (go_at_call 186; refine Calls.quiet_of_same ((unhide C) _)))
                go_wp2_with fail
                go_meet
                exact ⟨by rw [unhide B3], (unhide HO).drewO _⟩
              · have hje : j = i + gl := by omega
                have b3 : decide (j < i + gl) = false := decide_eq_false hjl
                have B3 := hide b3
                clear b3
                by_cases hjh : j < hi
                · obtain ⟨hlL, hpr⟩ := unhide Hstop (by omega)
                  have hjL : j < L.length := by omega
                  have hpr2 : preB pfx L[j].path = false := by subst hje; exact hpr
                  obtain ⟨y0, _, _⟩ := hcell2 j hjL
                  have C := fun (n : Nat) => (hasPrefix_any (sb L[j].path) (sb pfx) (wr.drewN n)).mono (R' := fun e w' => e = .returned (.bool false) ∧ w' = wr.drewN n) (fun e w' h => ⟨by rw [h.1, ls_sb, ls_sb, hpr2], h.2.symm⟩)
                  have C := hide C
                  have b1 : decide ((j : Int) < (hi : Int)) = true := decide_eq_true (by omega)
                  have b1n : decide (j < hi) = true := decide_eq_true (by omega)
                  have b2 : (j : Int) < (L.length : Int) := by omega
                  have HO := hide hoj
                  clear hpr hpr2 hje hcell2 hE2 hoj he3 hg2 hjl
                  generalize L[j].path = pj at *
                  go_quiet (first | (go_at_call 186; refine Calls.quiet_of_same ((unhide C) _)))
                  go_wp2_with fail
                  go_meet
                  exact ⟨by rw [unhide B3], (unhide HO).drewO _⟩
                · have b1 : decide ((j : Int) < (hi : Int)) = false := decide_eq_false (by omega)
                  have b1n : decide (j < hi) = false := decide_eq_false hjh
                  have HO := hide hoj
                  clear hje hcell2 hE2 hoj he3 hg2 hjl
                  go_quiet (fail)
                  go_wp2_with fail
                  go_meet
                  exact ⟨by rw [unhide B3], (unhide HO).drewO _⟩
            case rest =>
            obtain ⟨rfl, hoc⟩ := hcut
            clear hoj
            by_cases hjl : j < i + gl
            · have b3 : decide (j < i + gl) = true := decide_eq_true hjl
              rw [b3]
              have HO := hide hoc
              clear hoc b3
              go_wp2_with fail
              go_roundw
              case rel => exact ⟨j + 1, by go_num, by omega, by omega, unhide HO⟩
              case measure => simp [intOf]; omega
            · have b3 : decide (j < i + gl) = false := decide_eq_false hjl
              rw [b3]
              have hje : j = i + gl := by omega
              have CB2 := unhide CB wc hoc ((K : Int) + 1) (by rw [unhide Hplen]; omega)
              rw [← hje] at CB2
              have CB2 := hide CB2
              have HO := hide hoc
              have Hje := hide hje
              clear hoc b3 CB hje
              go_wp2_with fail
              refine (unhide CB2).mono ?_
              rintro y w1 ⟨rfl, n2, F2, hW2⟩
              have hWr := Wrote.first (unhide HO) hW2
              by_cases h0 : ern = 0
              · subst h0
                have hid2 : idn ≤ 48 := hid rfl
                have hs1 := hWr.only.size
                have hown : OwnU w1 (.slice oa ea.length oc) ea := (unhide Hbuf).keep hWr.only (fun y hy hS => by
                  have := unhide Hbb y hy
                  rcases hS with e | e | e
                  · exact this.2.1 e
                  · exact this.2.2.1 e
                  · exact this.2.2.2 e)
                have C3 := hide (appendRow_int hown 1 (idn : Int) 1 idn a rfl rfl (by omega) (by omega) ha256 (by omega))
                have HD2 := hide (fun (w2 : World) (v' : Value) hu => unhide HD w1 w2 v' n2 F2 rfl hWr hu)
                clear hW2 hWr hown CB2 HO HD
                go_wp2_with fail
                refine (unhide C3).mono ?_
                rintro y w2 ⟨v', rfl, hu⟩
                have HN := hide (unhide HD2 w2 v' hu)
                clear hu
                go_wp2_with fail
                go_roundw
                case rel => exact ⟨i + gl, _, JB, _, _, F2, by rw [unhide Hje], unhide HN⟩
                case measure => have := unhide Hje; simp [intOf]; omega
              · have e1 : ((ern : Int) != 0) = true := by simp; omega
                have hfl := unhide HFl h0
                have RR := hide ((unhide HWr).trans hWr)
                have Hfl := hide hfl
                clear hW2 hWr CB2 HO HD hfl
                go_wp2_with fail
                go_ret2
                rw [unhide Hfl]
                exact ⟨rfl, _, _, unhide RR⟩
end
end Go.Proofs.Qxb6500417aGreat
