/-
  OWN WORK. THE GRAPH: Branches, Head, Node.
-/
import Derived.Test.Qxb6500417aGreatGObs
namespace Go.Proofs.Qxb6500417aGreat
open Go.RowKit Go.PlainAid
set_option linter.unusedSimpArgs false
set_option linter.unusedVariables false

theorem refs_take (J : Nat → Sl) (T : Gt) {i : Nat} (hi : i < T.nb) : ((absG J T).refs.take (i + 1)) = (absG J T).refs.take i ++ [⟨(T.b i).name, (T.c (T.b i).id).seq⟩] := by
  have hl : i < (absG J T).refs.length := by simp [absG, bs_len, hi]
  rw [List.take_succ_eq_append_getElem hl]
  congr 2
  simp [absG, Gt.bs, refJ]
def hdV (A : GA) : Value := .agg #[.string A.hn, .int .i64 (A.hs : Int), .int .i64 (A.hm : Int)]
/-- A commit that was made: its lists. -/
structure NM (w : World) (fv pv : Value) (x : Nd) (w' : World) : Prop where
  of : OwnF w' fv x.files
  op : OwnI w' pv (x.par.map Int.ofNat)
  bf : ∀ y, fv.ownBlock = some y → w.heap.size ≤ y
  bp : ∀ y, pv.ownBlock = some y → w.heap.size ≤ y
  ho : Only (fun _ => False) w w'
def ndV (seq : Int) (fv pv : Value) (msg : ByteArray) : Value := .agg #[.int .i64 seq, fv, pv, .string msg]
section
variable {w : World} {g t s d : Nat} {D B : Nat → Nat} {recs : List Rec} {J : Nat → Sl} {rt : Nat} {F : Nat → Prop} {T : Gt} {S : GA}
set_option maxRecDepth 100000 in
set_option maxHeartbeats 4000000 in
theorem gbrs_any (h : GH w g t T) (hR : RefI T.c T.b T.nb T.name T.at_ T.mg) (h0 : T.c 0 = Cr.zero) :
    Calls Tryz.prog 78 #[.pointer (some ⟨g, 0, none⟩)] w fun e w' => ∃ v, e = .returned v ∧ RM w v (absG J T).refs w' := by
  obtain ⟨i0, hi0, hz0, hz1, hz2⟩ := info_parts Tryz.infoRef
  have H0 := hide h
  have HR := hide hR
  have hn := hR.b4
  clear h hR
  go_enter Tryz.func78, Tryz.ntmps78
  go_wp2_with fail
  go_loopw [3, 4] (fun ov iv wr => ∃ i : Nat, iv = .int .i64 i ∧ i ≤ T.nb ∧ RM w ov ((absG J T).refs.take i) wr) (fun _ iv _ => T.nb - (intOf iv).toNat)
  case atStart => exact ⟨0, rfl, by omega, by simpa using RM.nil w⟩
  case round =>
    obtain ⟨i, rfl, hi, hM⟩ := hrel
    have hG := (unhide H0).quiet hM.ho
    have cn := hG.nb_.1
    by_cases hil : i < T.nb
    · have a1 : decide ((i : Int) < (T.nb : Int)) = true := decide_eq_true (by omega)
      have a1n : decide (i < T.nb) = true := decide_eq_true hil
      have a4 : (i : Int) < 4 := by omega
      have hb := (unhide HR).bn i hil
      have c1 := (hG.bri i (by omega)).1
      have c2 := (hG.brn i (by omega)).1
      have C1 := hide (gseqOf_any hG (T.b i).id (by have := hb.2.1.2; omega) h0)
      have hsn := refs_take J T hil
      have hlen : ((absG J T).refs.take i).length ≤ 4 := by rw [List.length_take]; omega
      have own2 : wr.ownsRow 0 158 2 _ _ _ := hM.own
      obtain ⟨oa, oc, rfl⟩ := ownsRow_shape hM.own
      have Hsn := hide hsn
      have HM := hide hM
      clear hM hsn hG
      generalize (T.c (T.b i).id).seq = sq at *
      generalize (T.b i).name = nm at *
      generalize hL2 : (absG J T).refs.take i = L2 at *
      clear hL2
      go_wp2_with fail
      refine (unhide C1).mono ?_
      rintro e w2 ⟨rfl, rfl⟩
      clear C1
      go_wp2_with (at_builtin; refine wpList_append2 _ rfl _ _ 56 rfl 158 i0 _ 2 24 Tryz.underlying56 hi0 hz0 hz1 hz2 rfl (by decide) _ _ _ rfl (own2.alloc _) ⟨wr.heap.size, 0, none⟩ 1 1 [.string nm, .int .i64 (sq : Int)] rfl rfl ?d1 ?d2 ?d3 ?d4 ?_)
      try (case d1 => exact news_ok _ _ _ _ rfl)
      case d2 => intro u hu; simp at hu; rcases hu with rfl | rfl <;> rfl
      case d3 => unfold maxLen; omega
      case d4 => omega
      intro v2 w2 hown hgrow hwhere
      have h2' := (unhide HM).push2 (f := ⟨nm, sq⟩) hown rfl hgrow hwhere
      have H2 := hide h2'
      clear hown hgrow hwhere own2 HM h2'
      go_wp2_with fail
      go_roundw
      case rel => exact ⟨i + 1, by go_num, by omega, by rw [unhide Hsn]; exact unhide H2⟩
      case measure => simp [intOf]; omega
    · have a1 : decide ((i : Int) < (T.nb : Int)) = false := decide_eq_false (by omega)
      have a1n : decide (i < T.nb) = false := decide_eq_false hil
      have e2 : (absG J T).refs.take i = (absG J T).refs := List.take_of_length_le (by simp [absG, bs_len]; omega)
      rw [e2] at hM
      have RR := hide hM
      clear hM e2 hG
      go_wp2_with fail
      go_ret
      exact ⟨_, rfl, unhide RR⟩
set_option maxRecDepth 100000 in
set_option maxHeartbeats 2000000 in
theorem ghd_any (h : GH w g t T) (hR : RefI T.c T.b T.nb T.name T.at_ T.mg) (h0 : T.c 0 = Cr.zero) :
    Calls Tryz.prog 82 #[.pointer (some ⟨g, 0, none⟩)] w fun e w' => e = .returned (hdV (absG J T)) ∧ Only (fun _ => False) w w' := by
  have hat : T.at_ < 49 := by
    by_cases hz : T.name.size = 0
    · have := (hR.h0 hz).1.2; omega
    · rw [(hR.hn hz).2]; omega
  have hmg : T.mg < 49 := by
    rcases hR.mg with e | e
    · omega
    · have := e.1.2; omega
  have oA := (Only.refl (fun _ => False) w).alloc (.cells #[.string ⟨#[]⟩, .int .i64 0, .int .i64 0] 58)
  have hGA := h.quiet oA
  have hgl := h.lt
  have c1 := hGA.at__.1
  have c2 := hGA.mg_.1
  have c3 := hGA.name_.1
  have C1 := hide (gseqOf_any hGA T.at_ hat h0)
  have C2 := hide (gseqOf_any hGA T.mg hmg h0)
  have hK := Has.new w #[.string ⟨#[]⟩, .int .i64 0, .int .i64 0] 58
  have e0 : (w.alloc (.cells #[.string ⟨#[]⟩, .int .i64 0, .int .i64 0] 58)).cell? ⟨w.heap.size, 0, none⟩ = some (.string ⟨#[]⟩) := hK.cell 0
  have e1 : (w.alloc (.cells #[.string ⟨#[]⟩, .int .i64 0, .int .i64 0] 58)).cell? ⟨w.heap.size, 1, none⟩ = some (.int .i64 0) := hK.cell 1
  have e2 : (w.alloc (.cells #[.string ⟨#[]⟩, .int .i64 0, .int .i64 0] 58)).cell? ⟨w.heap.size, 2, none⟩ = some (.int .i64 0) := hK.cell 2
  have HOA := hide oA
  have hA : hdV (absG J T) = .agg #[.string T.name, .int .i64 ((T.c T.at_).seq : Int), .int .i64 ((T.c T.mg).seq : Int)] := rfl
  rw [hA]
  clear h hR hGA hA oA hat hmg
  generalize (T.c T.at_).seq = sa at *
  generalize (T.c T.mg).seq = sm at *
  go_enter Tryz.func82, Tryz.ntmps82
  go_wp2_with fail
  refine (unhide C1).mono ?_
  rintro e w1 ⟨rfl, rfl⟩
  clear C1
  go_wp2_with fail
  refine (unhide C2).mono ?_
  rintro e w1 ⟨rfl, rfl⟩
  clear C2
  go_wp2_with fail
  refine bodyPost_ret (v := .agg #[.string T.name, .int .i64 (sa : Int), .int .i64 (sm : Int)]) (by simp [results, Tryz.results82, go_sem, e0, e1, e2]) rfl ⟨rfl, ?_⟩
  exact (Only.refl _ w).alloc _
theorem nodes_at (J : Nat → Sl) (T : Gt) {k : Nat} (hk : k < T.n) : (absG J T).nodes[k]? = some (nodeJ J T.c (T.o k)) := by
  simp [absG, Gt.os, hk]
set_option maxRecDepth 100000 in
set_option maxHeartbeats 8000000 in
theorem gnode_any (h : GR w g t s d D B recs J rt F T S) (seq : Int) :
    Calls Tryz.prog 95 #[.pointer (some ⟨g, 0, none⟩), .int .i64 seq] w fun e w' => (fG T seq = 0 ∧ e = .returned (.tuple #[ndV 0 (.slice none 0 0) (.slice none 0 0) ⟨#[]⟩, .int .i64 17]) ∧ Only (fun _ => False) w w') ∨ (fG T seq ≠ 0 ∧ ∃ fv pv, e = .returned (.tuple #[ndV seq fv pv (nodeJ J T.c (fG T seq)).msg, .int .i64 0]) ∧ NM w fv pv (nodeJ J T.c (fG T seq)) w') := by
  have hZ := Has.new w #[.int .i64 0, .slice none 0 0, .slice none 0 0, .string ⟨#[]⟩] 128
  have oA := (Only.refl (fun _ => False) w).alloc (.cells #[.int .i64 0, .slice none 0 0, .slice none 0 0, .string ⟨#[]⟩] 128)
  have hgi := h.gi
  have C1 := gfind_any (h.gh.quiet oA) hgi.ord (fun k hk => by have := (hgi.tab.cs k hk).2; have := hgi.nx; omega) seq
  have hhas := hgi.has seq
  have H0 := hide h
  have HZ := hide hZ
  have HOA := hide oA
  have hgl := h.gh.lt
  obtain ⟨id, hid⟩ : ∃ id, fG T seq = id := ⟨_, rfl⟩
  rw [hid] at C1 hhas ⊢
  have C1 := hide C1
  obtain ⟨j0, hj0, hy0, hy1, hy2⟩ := info_parts Tryz.infoIntU
  clear h hZ oA hgi hid
  go_enter Tryz.func95, Tryz.ntmps95
  go_wp2_with fail
  generalize hWA : w.alloc (.cells #[.int .i64 0, .slice none 0 0, .slice none 0 0, .string ⟨#[]⟩] 128) = WA at *
  clear hWA
  refine (unhide C1).mono ?_
  rintro e w1 ⟨rfl, hO1⟩
  have hZ1 := (unhide HZ).keep hO1 (fun h => h)
  have hO1' := (unhide HOA).trans hO1 (fun _ _ h => h)
  have HZ1 := hide hZ1
  have HO1 := hide hO1'
  clear C1 hO1 hZ1 hO1' HZ HOA
  rcases hhas with ⟨rfl, hno⟩ | ⟨hC, hsq, hyes⟩
  · have q0 : w1.cell? ⟨w.heap.size, 0, none⟩ = some (.int .i64 0) := (unhide HZ1).cell 0
    have q1 : w1.cell? ⟨w.heap.size, 1, none⟩ = some (.slice none 0 0) := (unhide HZ1).cell 1
    have q2 : w1.cell? ⟨w.heap.size, 2, none⟩ = some (.slice none 0 0) := (unhide HZ1).cell 2
    have q3 : w1.cell? ⟨w.heap.size, 3, none⟩ = some (.string ⟨#[]⟩) := (unhide HZ1).cell 3
    have z0 := (unhide HZ1).free 0
    have z1 := (unhide HZ1).free 1
    have z2 := (unhide HZ1).free 2
    have z3 := (unhide HZ1).free 3
    go_wp2_with fail
    refine bodyPost_ret (v := .tuple #[ndV 0 (.slice none 0 0) (.slice none 0 0) ⟨#[]⟩, .int .i64 17]) (by simp [results, Tryz.results95, go_sem, q0, q1, q2, q3, ndV]) rfl ⟨rfl, ?_⟩
    have o := unhide HO1
    exact (((o.setCell (fun h => by simp at h) _).setCell (fun h => by simp at h) _).setCell (fun h => by simp at h) _).setCell (fun h => by simp at h) _
  · have hid0 : id ≠ 0 := by have := hC.1.1; omega
    have hid49 : id < 49 := by have := hC.1.2; omega
    have b1 : ((id : Int) == 0) = false := ne_intO (by omega)
    have b2 : (id : Int) < 49 := by omega
    have hT1 := (unhide H0).ts.quiet (unhide HO1)
    have hG1 := (unhide H0).gh.quiet (unhide HO1)
    have hgi := (unhide H0).gi
    have hw := hgi.tab.cw id hC
    obtain ⟨msg, hm, hd⟩ := hgi.tab.cd id hC
    obtain ⟨hl, hkd⟩ := (hgi.tab.cu id hC.1).1 hC.2
    have hmsg : (nodeJ J T.c id).msg = msg := by
      show msgOf (T.c id) (J id).dat = msg
      rw [hd, msgOf_cdat hw.np]
    have C2 : ∀ W, Only (fun _ => False) w1 W → Calls Tryz.prog 121 #[.pointer (some ⟨t, 0, none⟩), .int .i64 (id : Int)] W fun e w' => ∃ v, e = .returned (.tuple #[.int .i64 3, v, .int .i64 0]) ∧ GotB W v (cdat (T.c id) msg) w' ∧ Only (fun _ => False) W w' := fun W hx => by
      have := tget_any (hT1.quiet hx) (id : Int)
      unfold tgK tgE tgD at this
      have hknat : ((id : Int)).toNat = id := by simp
      rw [liveJ_nat hC.1, hl, hknat, hkd, if_pos rfl, if_pos rfl, if_pos ⟨rfl, by omega⟩, hd] at this
      exact this
    have C2 := hide C2
    have y0 := (hG1.com0 id hid49).1
    have y1 : w1.cell? ⟨g, 1 + id * 6 + 1, none⟩ = some (.int .i64 ((T.c id).seq : Int)) := (hG1.com id 1 hid49 (by omega)).1
    have y2 : w1.cell? ⟨g, 1 + id * 6 + 2, none⟩ = some (.int .i64 ((T.c id).tree : Int)) := (hG1.com id 2 hid49 (by omega)).1
    have y3 : w1.cell? ⟨g, 1 + id * 6 + 3, none⟩ = some (.int .i64 ((T.c id).np : Int)) := (hG1.com id 3 hid49 (by omega)).1
    have y4 : w1.cell? ⟨g, 1 + id * 6 + 4, none⟩ = some (.int .i64 ((T.c id).p0 : Int)) := (hG1.com id 4 hid49 (by omega)).1
    have y5 : w1.cell? ⟨g, 1 + id * 6 + 5, none⟩ = some (.int .i64 ((T.c id).p1 : Int)) := (hG1.com id 5 hid49 (by omega)).1
    have c0 := hG1.tr.1
    have Hm := hide hmsg
    have Hw := hide hw
    have hcl := cdat_len (T.c id) hw.np msg
    have hnp := hw.np
    have Hcl : Hid ((cdat (T.c id) msg).length ≤ 1000) := hide (by omega)
    have Htr := hide (hgi.tab.ct id hC)
    have hgw1 := hG1.lt
    clear hT1 hG1 hw hd hmsg hl hkd hcl hsq hyes
    have hR1 := Has.new w1 (crA (T.c id)) 82
    have oB := (Only.refl (fun _ => False) w1).alloc (.cells (crA (T.c id)) 82)
    have HR1 := hide hR1
    have HOB := hide oB
    unfold crA at HR1 HOB
    clear hR1 oB
    go_wp2_with fail
    generalize hWB : w1.alloc (.cells #[.bool (T.c id).used, .int .i64 ((T.c id).seq : Int), .int .i64 ((T.c id).tree : Int), .int .i64 ((T.c id).np : Int), .int .i64 ((T.c id).p0 : Int), .int .i64 ((T.c id).p1 : Int)] 82) = WB at *
    clear hWB y0 y1 y2 y3 y4 y5 c0
    refine (unhide C2 WB (unhide HOB)).mono ?_
    rintro e w2 ⟨v2, rfl, hB2, hO2⟩
    have hcap := hB2.cap (unhide Hcl)
    have C3 := hide (decode_any v2 (T.c id) (unhide Hw) msg hm _ rfl hB2.at_ hcap)
    obtain ⟨va, vc, rfl⟩ := hB2.shape
    have HO2 := hide ((unhide HOB).trans hO2 (fun _ _ h => h))
    have HR2 := hide ((unhide HR1).keep hO2 (fun h => h))
    unfold crV at C3
    clear C2 hB2 hO2 hcap HR1
    go_wp2_with fail
    refine (unhide C3).mono ?_
    rintro e w3 ⟨rfl, hO3⟩
    have HO3 := hide ((unhide HO2).trans hO3 (fun _ _ h => h))
    have HR3 := hide ((unhide HR2).keep hO3 (fun h => h))
    have oC := (Only.refl (fun _ => False) w3).alloc (.cells (crA (T.c id)) 82)
    have hR4 := (unhide HR3).keep oC (fun h => h)
    have hO4 := (unhide HO3).trans oC (fun _ _ h => h)
    unfold crA at hR4 hO4
    have HR4 := hide hR4
    have HO4 := hide hO4
    have C4 := hide (gsnap_any ((unhide H0).ts.quiet ((unhide HO1).trans hO4 (fun _ _ h => h))) ((unhide H0).gh.quiet ((unhide HO1).trans hO4 (fun _ _ h => h))) (T.c id).tree (unhide Htr))
    have x2 := hR4.cell 2
    have hk7 := Has.lt (unhide HR3)
    clear C3 hO3 HO2 HR2 HR3 oC hR4 hO4
    go_wp2_with fail
    generalize hWC : w3.alloc (.cells #[.bool (T.c id).used, .int .i64 ((T.c id).seq : Int), .int .i64 ((T.c id).tree : Int), .int .i64 ((T.c id).np : Int), .int .i64 ((T.c id).p0 : Int), .int .i64 ((T.c id).p1 : Int)] 82) = WC at *
    clear hWC x2
    refine (unhide C4).mono ?_
    rintro e w5 ⟨fv, rfl, hM5⟩
    have HM5 := hide hM5
    have HR5 := hide ((unhide HR4).keep hM5.ho (fun h => h))
    obtain ⟨fa, fc, rfl⟩ := ownsRow_shape hM5.own
    have HO5 := hide ((unhide HO4).trans hM5.ho (fun _ _ h => h))
    clear C4 hM5 HR4
    have hpl := (T.c id).pars_len hnp
    go_wp2_with fail
    go_loopw [15, 16] (fun ov iv wr => ∃ i : Nat, iv = .int .i64 i ∧ i ≤ (T.c id).np ∧ II w5 ov (((T.c id).pars.take i).map (fun p => ((T.c p).seq : Int))) wr) (fun _ iv _ => (T.c id).np - (intOf iv).toNat)
    case atStart => exact ⟨0, rfl, by omega, by simpa using II.nil w5⟩
    case round =>
      obtain ⟨i, rfl, hi, hM⟩ := hrel
      have hR := (unhide HR5).keep hM.ho (fun h => h)
      have x3 : wr.cell? ⟨w1.heap.size, 3, none⟩ = some (.int .i64 ((T.c id).np : Int)) := hR.cell 3
      by_cases hil : i < (T.c id).np
      · have a1 : decide ((i : Int) < ((T.c id).np : Int)) = true := decide_eq_true (by omega)
        have a1n : decide (i < (T.c id).np) = true := decide_eq_true hil
        have a4 : (i : Int) < 2 := by omega
        have x4 := parCell (r := T.c id) hR i (by omega)
        have hpt := pars_take hnp hil
        have hpC : IsC T.c (parN (T.c id) i) := by
          have hm2 : parN (T.c id) i ∈ (T.c id).pars := List.mem_of_mem_take (i := i + 1) (by rw [hpt]; simp)
          exact ((unhide H0).gi.tab.cp id hC _ hm2).1
        have C5 := hide (gseqOf_any ((unhide H0).gh.quiet (((unhide HO1).trans (unhide HO5) (fun _ _ h => h)).trans hM.ho (fun _ _ h => h))) (parN (T.c id) i) (by have := hpC.1.2; omega) (unhide H0).gi.tab.c0)
        have hsn : ((T.c id).pars.take (i + 1)).map (fun p => ((T.c p).seq : Int)) = ((T.c id).pars.take i).map (fun p => ((T.c p).seq : Int)) ++ [((T.c (parN (T.c id) i)).seq : Int)] := by
          rw [hpt, List.map_append, List.map_singleton]
        have hlen : (((T.c id).pars.take i).map (fun p => ((T.c p).seq : Int))).length ≤ 2 := by rw [List.length_map, List.length_take]; omega
        have own2 : wr.ownsRow 0 3 1 _ _ _ := hM.own
        obtain ⟨oa, oc, rfl⟩ := ownsRow_shape hM.own
        have Hsn := hide hsn
        have HM := hide hM
        clear hM hsn hR hpC hpt
        generalize (T.c (parN (T.c id) i)).seq = sq at *
        generalize parN (T.c id) i = pn at *
        generalize hL2 : ((T.c id).pars.take i).map (fun p => ((T.c p).seq : Int)) = L2 at *
        clear hL2
        go_wp2_with fail
        refine (unhide C5).mono ?_
        rintro e w6 ⟨rfl, rfl⟩
        clear C5
        go_wp2_with (at_builtin; refine wpList_append2 _ rfl _ _ 91 rfl 3 j0 _ 1 8 Tryz.underlying91 hj0 hy0 hy1 hy2 rfl (by decide) _ _ _ rfl (own2.alloc _) ⟨wr.heap.size, 0, none⟩ 1 1 [.int .i64 (sq : Int)] rfl rfl ?d1 ?d2 ?d3 ?d4 ?_)
        try (case d1 => exact news_ok _ _ _ _ rfl)
        case d2 => intro u hu; simp at hu; subst hu; rfl
        case d3 => unfold maxLen; omega
        case d4 => omega
        intro v7 w7 hown hgrow hwhere
        have h7 := (unhide HM).push2 hown rfl hgrow hwhere
        have H7 := hide h7
        clear hown hgrow hwhere own2 HM h7
        go_wp2_with fail
        go_roundw
        case rel => exact ⟨i + 1, by go_num, by omega, by rw [unhide Hsn]; exact unhide H7⟩
        case measure => simp [intOf]; omega
      · have a1 : decide ((i : Int) < ((T.c id).np : Int)) = false := decide_eq_false (by omega)
        have a1n : decide (i < (T.c id).np) = false := decide_eq_false hil
        have e2 : (T.c id).pars.take i = (T.c id).pars := List.take_of_length_le (by omega)
        rw [e2] at hM
        have hZr := (unhide HZ1).keep ((unhide HO5).trans hM.ho (fun _ _ h => h)) (fun h => h)
        obtain ⟨pa, pc, rfl⟩ := ownsRow_shape hM.own
        have q0 : wr.cell? ⟨w.heap.size, 0, none⟩ = some (.int .i64 0) := hZr.cell 0
        have q1 : wr.cell? ⟨w.heap.size, 1, none⟩ = some (.slice none 0 0) := hZr.cell 1
        have q2 : wr.cell? ⟨w.heap.size, 2, none⟩ = some (.slice none 0 0) := hZr.cell 2
        have q3 : wr.cell? ⟨w.heap.size, 3, none⟩ = some (.string ⟨#[]⟩) := hZr.cell 3
        have z0 := hZr.free 0
        have z1 := hZr.free 1
        have z2 := hZr.free 2
        have z3 := hZr.free 3
        have hne0 : ∀ y, (Value.slice fa (snapJ J (T.c id).tree).length fc).ownBlock = some y → y ≠ w.heap.size := fun y hy e => by
          have := (unhide HM5).hb y hy
          have := (unhide HO4).size
          have := Has.lt (unhide HZ1)
          omega
        have hne1 : ∀ y, (Value.slice pa (List.map (fun p => ((T.c p).seq : Int)) (T.c id).pars).length pc).ownBlock = some y → y ≠ w.heap.size := fun y hy e => by
          have := hM.hb y hy
          have := (unhide HO5).size
          have := Has.lt (unhide HZ1)
          omega
        have hN : ∀ wx, Only (fun y => y = w.heap.size) wr wx → NM w (.slice fa (snapJ J (T.c id).tree).length fc) (.slice pa (List.map (fun p => ((T.c p).seq : Int)) (T.c id).pars).length pc) (nodeJ J T.c id) wx := fun wx hx => by
          have h15 := (unhide HO1).trans (unhide HO5) (fun _ _ h => h)
          have s1 := (unhide HO1).size
          have s4 := (unhide HO4).size
          have s5 := (unhide HO5).size
          refine ⟨((unhide HM5).own.keep hM.ho (fun _ _ h => h)).keep hx (fun y hy e => hne0 y hy e), ?_, fun y hy => by have := (unhide HM5).hb y hy; omega, fun y hy => by have := hM.hb y hy; omega, (h15.trans hM.ho (fun _ _ h => h)).trans hx (fun y hy e => by have e' : y = w.heap.size := e; omega)⟩
          have e3 : (nodeJ J T.c id).par.map Int.ofNat = (T.c id).pars.map (fun p => ((T.c p).seq : Int)) := by
            show ((T.c id).pars.map (fun p => (T.c p).seq)).map Int.ofNat = _
            rw [List.map_map]; rfl
          rw [e3]
          exact hM.own.keep hx (fun y hy e => hne1 y hy e)
        have HN := hide hN
        clear hM hR hZr hN e2 hne0 hne1
        generalize (snapJ J (T.c id).tree).length = n1 at *
        generalize (List.map (fun p => ((T.c p).seq : Int)) (T.c id).pars).length = n2 at *
        go_wp2_with fail
        have hmm := unhide Hm
        refine bodyPost_ret (v := .tuple #[ndV seq (.slice fa n1 fc) (.slice pa n2 pc) msg, .int .i64 0]) (by simp [results, Tryz.results95, go_sem, q0, q1, q2, q3, ndV]) rfl (.inr ⟨hid0, _, _, by rw [hmm], unhide HN _ ?_⟩)
        have o := Only.refl (fun y => y = w.heap.size) wr
        exact (((o.setCell (fun _ => rfl) _).setCell (fun _ => rfl) _).setCell (fun _ => rfl) _).setCell (fun _ => rfl) _
end
end Go.Proofs.Qxb6500417aGreat
