/-
  OWN WORK. QUERY: check (written by tools/gen_s27.py).
-/
import Derived.Test.Qxb6500412aGreatS28
import Derived.BigQuiet
namespace Go.Proofs.Qxb6500412aGreat
open Go.RowKit Go.PlainAid
set_option linter.unusedSimpArgs false
set_option linter.unusedVariables false

/-- The schema's and the statement's copies, the lists. -/
structure CqI (w : World) (H : Nat) (sc sv : Array Value) (cv : Value) (cols : List Cl) (v6 v7 v8 : Value) (st : St) (wr : World) : Prop where
  sc : Has wr H sc 79
  sv : Has wr (H + 1) sv 173
  oc : OwnC wr cv cols
  o6 : wr.ownsRow 0 9 1 v6 st.list.length (st.list.map Value.string)
  o7 : OwnM wr v7 st.sets
  o8 : OwnM wr v8 st.wh
  on : Only (fun _ => False) w wr
theorem CqI.quiet {w wr wx : World} {H : Nat} {sc sv : Array Value} {cv : Value} {cols : List Cl} {v6 v7 v8 : Value} {st : St} (h : CqI w H sc sv cv cols v6 v7 v8 st wr) (o : Only (fun _ => False) wr wx) : CqI w H sc sv cv cols v6 v7 v8 st wx :=
  ⟨h.sc.keep o (fun e => e), h.sv.keep o (fun e => e), h.oc.keep o (fun _ _ e => e), ownsRow_keep h.o6 o (fun _ _ e => e), h.o7.quiet o, h.o8.quiet o, h.on.trans o (fun _ _ e => e)⟩
theorem strs_at {w : World} {a : Option Addr} {n cap : Nat} {l : List ByteArray} (h : w.ownsRow 0 9 1 (.slice a n cap) l.length (l.map Value.string)) {i : Nat} {x : ByteArray} (hx : l[i]? = some x) : ∃ g, a = some ⟨g, 0, none⟩ ∧ w.cell? ⟨g, i, none⟩ = some (.string x) := by
  have hi := (List.getElem?_eq_some_iff.1 hx).1
  rcases h.2 with ⟨he, h0⟩ | ⟨g, cap', cur, he, _⟩
  · omega
  · obtain ⟨rfl, _⟩ : a = some ⟨g, 0, none⟩ ∧ True := by
      have := he
      simp at this
      exact ⟨this.1, trivial⟩
    refine ⟨g, rfl, ?_⟩
    have hc := World.ownsRow.cells h (g := g) (by first | exact rfl | simp [Value.ownBlock])
    have a0 : (l.map Value.string)[i]? = some (.string x) := by rw [List.getElem?_map, hx]; rfl
    have b0 := hc _ _ a0
    rw [addr_add] at b0
    simpa using b0
section
variable {w w' : World} {ca : Option Addr} {cn cc : Nat} {cols : List Cl} {tn : ByteArray} {pk ix : Int} {lo : Nat} {S : Sq} {st : St}
set_option maxRecDepth 100000 in
set_option maxHeartbeats 8000000 in
theorem sqcheck_any (hC : OwnC w (.slice ca cn cc) cols) (hcl : cols.length ≤ 100) (hL : SQL lo w S) (hO : SqOf S st) (hB : StB st) : Calls Tryz.prog 171 #[schU tn (.slice ca cn cc) pk ix, .agg (tabV 13 S.cell)] w fun e w' => e = .returned (.int .i64 (chkD cols pk st)) ∧ Only (fun _ => False) w w' := by
  unfold schU
  obtain ⟨a2, n2, c2, a4, n4, c4, a6, n6, c6, a7, n7, c7, a8, n8, c8, hcs⟩ := hO.cells_ hL
  have x6 := hL.own 6 (by unfold sqj; omega)
  have x7 := hL.own 7 (by unfold sqj; omega)
  have x8 := hL.own 8 (by unfold sqj; omega)
  have q6 : S.cell 6 = .slice a6 n6 c6 := by
    have := congrArg (·[6]?) hcs
    simpa [tabV_get] using this
  have q7 : S.cell 7 = .slice a7 n7 c7 := by
    have := congrArg (·[7]?) hcs
    simpa [tabV_get] using this
  have q8 : S.cell 8 = .slice a8 n8 c8 := by
    have := congrArg (·[8]?) hcs
    simpa [tabV_get] using this
  rw [q6, hO.x6.1, hO.x6.2] at x6
  rw [q7, hO.x7.1, hO.x7.2] at x7
  rw [q8, hO.x8.1, hO.x8.2] at x8
  rw [hcs]
  have x6 : w.ownsRow 0 9 1 (.slice a6 n6 c6) st.list.length (st.list.map Value.string) := x6
  have x7 : OwnM w (.slice a7 n7 c7) st.sets := x7
  have x8 : OwnM w (.slice a8 n8 c8) st.wh := x8
  have h6 : n6 = st.list.length := by obtain ⟨_, _, e⟩ := ownsRow_shape x6; cases e; rfl
  have h7 : n7 = st.sets.length := by obtain ⟨_, _, e⟩ := x7.shape; cases e; rfl
  have h8 : n8 = st.wh.length := by obtain ⟨_, _, e⟩ := x8.shape; cases e; rfl
  subst h6 h7 h8
  have o0 : Only (fun _ => False) w (w.alloc (.cells #[.string tn, .slice ca cn cc, .int .i64 pk, .int .i64 ix] 79)) := (Only.refl _ w).alloc _
  have N0 := Has.new w #[.string tn, .slice ca cn cc, .int .i64 pk, .int .i64 ix] 79
  have o1 : Only (fun _ => False) (w.alloc (.cells #[.string tn, .slice ca cn cc, .int .i64 pk, .int .i64 ix] 79)) ((w.alloc (.cells #[.string tn, .slice ca cn cc, .int .i64 pk, .int .i64 ix] 79)).alloc (.cells #[.int .i64 st.kind, .string st.table, .slice a2 n2 c2, .int .i64 st.pk, .slice a4 n4 c4, .bool st.star, .slice a6 st.list.length c6, .slice a7 st.sets.length c7, .slice a8 st.wh.length c8, .string st.order, .bool st.desc, .bool st.hasL, .int .i64 st.lim] 173)) := (Only.refl _ _).alloc _
  have N1 := Has.new (w.alloc (.cells #[.string tn, .slice ca cn cc, .int .i64 pk, .int .i64 ix] 79)) #[.int .i64 st.kind, .string st.table, .slice a2 n2 c2, .int .i64 st.pk, .slice a4 n4 c4, .bool st.star, .slice a6 st.list.length c6, .slice a7 st.sets.length c7, .slice a8 st.wh.length c8, .string st.order, .bool st.desc, .bool st.hasL, .int .i64 st.lim] 173
  have sz : (w.alloc (.cells #[.string tn, .slice ca cn cc, .int .i64 pk, .int .i64 ix] 79)).heap.size = w.heap.size + 1 := by simp
  rw [sz] at N1
  have oA := o0.trans o1 (fun _ _ e => e)
  have HA := hide (show CqI w w.heap.size #[.string tn, .slice ca cn cc, .int .i64 pk, .int .i64 ix] #[.int .i64 st.kind, .string st.table, .slice a2 n2 c2, .int .i64 st.pk, .slice a4 n4 c4, .bool st.star, .slice a6 st.list.length c6, .slice a7 st.sets.length c7, .slice a8 st.wh.length c8, .string st.order, .bool st.desc, .bool st.hasL, .int .i64 st.lim] (.slice ca cn cc) cols (.slice a6 st.list.length c6) (.slice a7 st.sets.length c7) (.slice a8 st.wh.length c8) st ((w.alloc (.cells #[.string tn, .slice ca cn cc, .int .i64 pk, .int .i64 ix] 79)).alloc (.cells #[.int .i64 st.kind, .string st.table, .slice a2 n2 c2, .int .i64 st.pk, .slice a4 n4 c4, .bool st.star, .slice a6 st.list.length c6, .slice a7 st.sets.length c7, .slice a8 st.wh.length c8, .string st.order, .bool st.desc, .bool st.hasL, .int .i64 st.lim] 173)) from ⟨N0.keep o1 (fun e => e), N1, hC.keep oA (fun _ _ e => e), ownsRow_keep x6 oA (fun _ _ e => e), x7.quiet oA, x8.quiet oA, oA⟩)
  have hb6 := hB.list
  have hb7 := hB.sets
  have hb8 := hB.wh
  clear o0 N0 o1 N1 sz oA hC hL hO hB x6 x7 x8 q6 q7 q8 hcs
  go_enter Tryz.func171, Tryz.ntmps171
  go_upto_region 1 with fail
  generalize (w.alloc (.cells #[.string tn, .slice ca cn cc, .int .i64 pk, .int .i64 ix] 79)).alloc (.cells #[.int .i64 st.kind, .string st.table, .slice a2 n2 c2, .int .i64 st.pk, .slice a4 n4 c4, .bool st.star, .slice a6 st.list.length c6, .slice a7 st.sets.length c7, .slice a8 st.wh.length c8, .string st.order, .bool st.desc, .bool st.hasL, .int .i64 st.lim] 173) = w1 at *
  generalize hH : w.heap.size = H at *
  go_cut [5, 6, 7, 8] from 14 to 23 (fun f5 f6 f7 f8 wx => f5 = .bool (ck0 cols st).no ∧ f6 = .bool false ∧ f7 = .bool false ∧ f8 = .bool false ∧ Only (fun _ => False) w1 wx)
  case first =>
    have s0 : w1.cell? ⟨H, 0, none⟩ = some (.string tn) := (unhide HA).sc.cell 0
    have s1 : w1.cell? ⟨H, 1, none⟩ = some (.slice ca cn cc) := (unhide HA).sc.cell 1
    have s2 : w1.cell? ⟨H, 2, none⟩ = some (.int .i64 pk) := (unhide HA).sc.cell 2
    have s3 : w1.cell? ⟨H, 3, none⟩ = some (.int .i64 ix) := (unhide HA).sc.cell 3
    have sl := (unhide HA).sc.lt
    have t9 : w1.cell? ⟨H + 1, 9, none⟩ = some (.string st.order) := (unhide HA).sv.cell 9
    have tl := (unhide HA).sv.lt
    by_cases ho : st.order = ⟨#[]⟩
    · have HB := hide (show (ck0 cols st).no = false by unfold ck0; simp [ho])
      rw [ho] at t9
      clear ho
      go_wp2_with fail
      go_meet
      exact ⟨by rw [unhide HB], rfl, rfl, rfl, Only.refl _ _⟩
    · have C1 := sqcolOf_any (tn := tn) (pk := pk) (ix := ix) (unhide HA).oc hcl st.order
      unfold schU at C1
      have C1 := hide C1
      have HB := hide (show (ck0 cols st).no = decide (qcol cols st.order < 0) by unfold ck0 noC; simp [ho])
      have q0 : (st.order.toList == []) = false := by
        have h2 := seq_f (a := st.order) (b := ⟨#[]⟩) ho
        rwa [show (⟨#[]⟩ : ByteArray).toList = [] from by simp] at h2
      clear ho
      go_wp2_with fail
      refine (unhide C1).mono ?_
      rintro e w2 ⟨rfl, o2⟩
      have HO2 := hide o2
      clear C1 o2
      go_wp2_with fail
      go_meet
      exact ⟨by rw [unhide HB], rfl, rfl, rfl, unhide HO2⟩
  case rest =>
  obtain ⟨rfl, rfl, rfl, rfl, hoW⟩ := hcut
  have HA1 := hide ((unhide HA).quiet hoW)
  clear hoW HA
  generalize wc = w2 at *
  go_upto_region 3 with fail
  go_loopg [5, 9] (st.list.length + 1) (fun gk f5 jv wr => ∃ i : Nat, gk + i = st.list.length + 1 ∧ jv = .int .i64 i ∧ i ≤ st.list.length ∧ f5 = .bool ((st.list.take i).foldl (ckL cols) (ck0 cols st)).no ∧ CqI w H #[.string tn, .slice ca cn cc, .int .i64 pk, .int .i64 ix] #[.int .i64 st.kind, .string st.table, .slice a2 n2 c2, .int .i64 st.pk, .slice a4 n4 c4, .bool st.star, .slice a6 st.list.length c6, .slice a7 st.sets.length c7, .slice a8 st.wh.length c8, .string st.order, .bool st.desc, .bool st.hasL, .int .i64 st.lim] (.slice ca cn cc) cols (.slice a6 st.list.length c6) (.slice a7 st.sets.length c7) (.slice a8 st.wh.length c8) st wr)
  case atStart => exact ⟨0, rfl, rfl, Nat.zero_le _, rfl, unhide HA1⟩
  case round =>
    obtain ⟨i, hgk, rfl, hi, rfl, hI⟩ := hrel
    clear HA1
    have t6 : wr.cell? ⟨H + 1, 6, none⟩ = some (.slice a6 st.list.length c6) := hI.sv.cell 6
    have tl := hI.sv.lt
    by_cases hs : i < st.list.length
    · have a1 : decide ((i : Int) < (st.list.length : Int)) = true := decide_eq_true (by omega)
      have a1p : (i : Int) < (st.list.length : Int) := by omega
      obtain ⟨x, hx⟩ := getE hs
      obtain ⟨g6, ha, d0⟩ := strs_at hI.o6 hx
      subst ha
      obtain ⟨b, hb⟩ : ∃ b, ((st.list.take i).foldl (ckL cols) (ck0 cols st)).no = b := ⟨_, rfl⟩
      rw [hb]
      have hstep : ((st.list.take (i + 1)).foldl (ckL cols) (ck0 cols st)).no = (b || noC cols x) := by
        rw [List.take_add_one, hx, Option.toList_some, List.foldl_append]
        show (_ || noC cols x) = _
        rw [hb]
      have HK := hide hstep
      clear hb hstep hx
      cases b with
      | true =>
        have HI := hide (hI.quiet ((Only.refl _ wr).drew))
        clear hI
        go_upto_region 5 with fail
        go_region
        go_wp2_with fail
        go_roundg (gk - 1)
        case measure => omega
        case rel => exact ⟨i + 1, by omega, by go_num, by omega, by rw [unhide HK]; rfl, unhide HI⟩
      | false =>
        have oD : Only (fun _ => False) wr wr.drew := (Only.refl _ wr).drew
        have s0 : wr.cell? ⟨H, 0, none⟩ = some (.string tn) := hI.sc.cell 0
        have s1 : wr.cell? ⟨H, 1, none⟩ = some (.slice ca cn cc) := hI.sc.cell 1
        have s2 : wr.cell? ⟨H, 2, none⟩ = some (.int .i64 pk) := hI.sc.cell 2
        have s3 : wr.cell? ⟨H, 3, none⟩ = some (.int .i64 ix) := hI.sc.cell 3
        have sl := hI.sc.lt
        have C1 := sqcolOf_any (tn := tn) (pk := pk) (ix := ix) (hI.oc.keep oD (fun _ _ e => e)) hcl x
        unfold schU at C1
        obtain ⟨cx, hcx⟩ : ∃ z, qcol cols x = z := ⟨_, rfl⟩
        rw [hcx] at C1
        have HX := hide (show (false || noC cols x) = decide (cx < 0) by unfold noC; rw [hcx]; rfl)
        have C1 := hide C1
        have HI := hide (hI.quiet oD)
        clear hI oD hcx
        go_upto_region 5 with fail
        go_region_with (go_at_call 111; refine (unhide C1).mono ?_; rintro e w3 ⟨rfl, o3⟩; have HO3 := hide ((unhide HI).quiet o3); clear o3)
        all_goals
          go_wp2_with fail
          go_roundg (gk - 1)
          case measure => omega
          case rel => exact ⟨i + 1, by omega, by go_num, by omega, by rw [unhide HK, unhide HX], unhide HO3⟩
    · have a1 : decide ((i : Int) < (st.list.length : Int)) = false := decide_eq_false (by omega)
      have a1p : ¬ (i : Int) < (st.list.length : Int) := by omega
      have hil : i = st.list.length := by omega
      rw [hil, List.take_length]
      obtain ⟨k1, hk1⟩ : ∃ k, st.list.foldl (ckL cols) (ck0 cols st) = k := ⟨_, rfl⟩
      have hz := foldL_o (cols := cols) st.list (ck0 cols st)
      rw [hk1] at hz
      obtain ⟨z1, z2, z3⟩ := hz
      have z1 : false = k1.ty := z1.symm
      have z2 : false = k1.pk := z2.symm
      have z3 : false = k1.ln := z3.symm
      rw [hk1]
      have HK1 := hide hk1
      have HZ := hide (And.intro z1 (And.intro z2 z3))
      have HA1 := hide hI
      clear hI hgk hil hk1 z1 z2 z3
      go_upto_region 7 with fail
      go_loopg [5, 6, 7, 8, 10, 11] (st.sets.length + 1) (fun gk f5 f6 f7 f8 jv _ wr => ∃ (i : Nat) (k : Ck), gk + i = st.sets.length + 1 ∧ jv = .int .i64 i ∧ i ≤ st.sets.length ∧ (st.sets.take i).foldl (ckS cols pk) k1 = k ∧ f5 = .bool k.no ∧ f6 = .bool k.pk ∧ f7 = .bool k.ty ∧ f8 = .bool k.ln ∧ CqI w H #[.string tn, .slice ca cn cc, .int .i64 pk, .int .i64 ix] #[.int .i64 st.kind, .string st.table, .slice a2 n2 c2, .int .i64 st.pk, .slice a4 n4 c4, .bool st.star, .slice a6 st.list.length c6, .slice a7 st.sets.length c7, .slice a8 st.wh.length c8, .string st.order, .bool st.desc, .bool st.hasL, .int .i64 st.lim] (.slice ca cn cc) cols (.slice a6 st.list.length c6) (.slice a7 st.sets.length c7) (.slice a8 st.wh.length c8) st wr)
      case atStart => exact ⟨0, k1, rfl, rfl, Nat.zero_le _, rfl, rfl, by rw [← (unhide HZ).2.1], by rw [← (unhide HZ).1], by rw [← (unhide HZ).2.2], unhide HA1⟩
      case round =>
        obtain ⟨i, k, hgk, rfl, hi, hk, rfl, rfl, rfl, rfl, hI⟩ := hrel
        clear HA1
        have t7 : wr.cell? ⟨H + 1, 7, none⟩ = some (.slice a7 st.sets.length c7) := hI.sv.cell 7
        have tl := hI.sv.lt
        by_cases hs : i < st.sets.length
        · have a1 : decide ((i : Int) < (st.sets.length : Int)) = true := decide_eq_true (by omega)
          have a1p : (i : Int) < (st.sets.length : Int) := by omega
          obtain ⟨c, hx⟩ := getE hs
          obtain ⟨gw, ha, d0, d1, d2, d3, d4⟩ := hI.o7.at_ hx
          subst ha
          have HK := hide (show (st.sets.take (i + 1)).foldl (ckS cols pk) k1 = (ckS cols pk) k c by rw [List.take_add_one, hx, Option.toList_some, List.foldl_append, hk]; rfl)
          have s0 : wr.cell? ⟨H, 0, none⟩ = some (.string tn) := hI.sc.cell 0
          have s1 : wr.cell? ⟨H, 1, none⟩ = some (.slice ca cn cc) := hI.sc.cell 1
          have s2 : wr.cell? ⟨H, 2, none⟩ = some (.int .i64 pk) := hI.sc.cell 2
          have s3 : wr.cell? ⟨H, 3, none⟩ = some (.int .i64 ix) := hI.sc.cell 3
          have sl := hI.sc.lt
          have oD : Only (fun _ => False) wr wr.drew := (Only.refl _ wr).drew
          have C1 := sqcolOf_any (tn := tn) (pk := pk) (ix := ix) (hI.oc.keep oD (fun _ _ e => e)) hcl c.col
          unfold schU at C1
          obtain ⟨cx, hcx⟩ : ∃ z, qcol cols c.col = z := ⟨_, rfl⟩
          rw [hcx] at C1
          have hqr := qcol_rng cols c.col
          rw [hcx] at hqr
          have HX := hide hcx
          have C1 := hide C1
          have HI := hide hI
          clear hI hx oD hcx hk
          go_upto_region 9 with fail
          refine wp_region_held_drew (S := (fun w' => w'.cell? ⟨H, 0, none⟩ = some (.string tn) ∧ w'.cell? ⟨H, 1, none⟩ = some (.slice ca cn cc) ∧ w'.cell? ⟨H, 2, none⟩ = some (.int .i64 pk) ∧ w'.cell? ⟨H, 3, none⟩ = some (.int .i64 ix) ∧ w'.cell? ⟨H + 1, 7, none⟩ = some (.slice (some ⟨gw, 0, none⟩) st.sets.length c7) ∧ w'.cell? ⟨gw, i * 5, none⟩ = some (.string c.col))) (by kernel_rfl) ⟨s0, s1, s2, s3, t7, d0⟩ (fun hH0 => ?_)
          refine takeH 0 49 (v := ?vq21) rfl rfl (by kernel_rfl) (by kernel_rfl) (by kernel_rfl) (fun _ _ _ h => h) (Or.inl ⟨by rfl, ?hq21⟩) hH0 ?rq21
          case hq21 => (intro w hSw; obtain ⟨s0, s1, s2, s3, s4, s5⟩ := hSw; go_simp; (try with_reducible rfl))
          case rq21 =>
          try simp only [Act.put, List.setIfInBounds_toArray, List.set_cons_zero, List.set_cons_succ]
          refine takeH 1 50 (v := ?vq22) rfl rfl (by kernel_rfl) (by kernel_rfl) (by kernel_rfl) (fun _ _ _ h => h) (Or.inl ⟨by rfl, ?hq22⟩) hH0 ?rq22
          case hq22 => (intro w hSw; clear hSw; go_simp; (try with_reducible rfl))
          case rq22 =>
          try simp only [Act.put, List.setIfInBounds_toArray, List.set_cons_zero, List.set_cons_succ]
          refine takeH 2 51 (v := ?vq23) rfl rfl (by kernel_rfl) (by kernel_rfl) (by kernel_rfl) (fun _ _ _ h => h) (Or.inl ⟨by rfl, ?hq23⟩) hH0 ?rq23
          case hq23 => (intro w hSw; obtain ⟨s0, s1, s2, s3, s4, s5⟩ := hSw; go_simp; (try with_reducible rfl))
          case rq23 =>
          try simp only [Act.put, List.setIfInBounds_toArray, List.set_cons_zero, List.set_cons_succ]
          refine takeH 3 52 (v := ?vq24) rfl rfl (by kernel_rfl) (by kernel_rfl) (by kernel_rfl) (fun _ _ _ h => h) (Or.inl ⟨by rfl, ?hq24⟩) hH0 ?rq24
          case hq24 => (intro w hSw; clear hSw; go_simp; (try with_reducible rfl))
          case rq24 =>
          try simp only [Act.put, List.setIfInBounds_toArray, List.set_cons_zero, List.set_cons_succ]
          refine takeH 4 53 (v := ?vq25) rfl rfl (by kernel_rfl) (by kernel_rfl) (by kernel_rfl) (fun _ _ _ h => h) (Or.inl ⟨by rfl, ?hq25⟩) hH0 ?rq25
          case hq25 => (intro w hSw; clear hSw; go_simp; (try with_reducible rfl))
          case rq25 =>
          try simp only [Act.put, List.setIfInBounds_toArray, List.set_cons_zero, List.set_cons_succ]
          refine takeH 5 54 (v := ?vq26) rfl rfl (by kernel_rfl) (by kernel_rfl) (by kernel_rfl) (fun _ _ _ h => h) (Or.inl ⟨by rfl, ?hq26⟩) hH0 ?rq26
          case hq26 => (intro w hSw; clear hSw; go_simp; (try with_reducible rfl))
          case rq26 =>
          try simp only [Act.put, List.setIfInBounds_toArray, List.set_cons_zero, List.set_cons_succ]
          refine takeH 6 55 (v := ?vq27) rfl rfl (by kernel_rfl) (by kernel_rfl) (by kernel_rfl) (fun _ _ _ h => h) (Or.inl ⟨by rfl, ?hq27⟩) hH0 ?rq27
          case hq27 => (intro w hSw; obtain ⟨s0, s1, s2, s3, s4, s5⟩ := hSw; go_simp; (try with_reducible rfl))
          case rq27 =>
          try simp only [Act.put, List.setIfInBounds_toArray, List.set_cons_zero, List.set_cons_succ]
          refine callH 7 (by kernel_rfl) rfl 56 rfl rfl 111 Tryz.func111 (by kernel_rfl) (by kernel_rfl) #[.tmp 49, .tmp 55] #[79, 9] rfl #[.agg #[.string tn, .slice ca cn cc, .int .i64 pk, .int .i64 ix], .string c.col] (by simp [Act.eval]) (R := fun v w' => v = .int .i64 cx ∧ Only (fun _ => False) wr.drew w') ((unhide C1).mono (by rintro en w' ⟨rfl, o⟩; exact ⟨_, rfl, rfl, o⟩)) ?kq2
          case kq2 =>
          rintro _ w6 ⟨rfl, o6⟩
          have S6 : w6.cell? ⟨H, 0, none⟩ = some (.string tn) ∧ w6.cell? ⟨H, 1, none⟩ = some (.slice ca cn cc) ∧ w6.cell? ⟨H, 2, none⟩ = some (.int .i64 pk) ∧ w6.cell? ⟨H, 3, none⟩ = some (.int .i64 ix) ∧ w6.cell? ⟨H + 1, 7, none⟩ = some (.slice (some ⟨gw, 0, none⟩) st.sets.length c7) ∧ w6.cell? ⟨gw, i * 5, none⟩ = some (.string c.col) := ⟨o6.cellS hH0.1, o6.cellS hH0.2.1, o6.cellS hH0.2.2.1, o6.cellS hH0.2.2.2.1, o6.cellS hH0.2.2.2.2.1, o6.cellS hH0.2.2.2.2.2⟩
          refine ⟨S6, ?_⟩
          try simp only [Act.put, List.setIfInBounds_toArray, List.set_cons_zero, List.set_cons_succ]
          refine takeH 8 11 (v := ?vq28) rfl rfl (by kernel_rfl) (by kernel_rfl) (by kernel_rfl) (fun _ _ _ h => h) (Or.inl ⟨by rfl, ?hq28⟩) S6 ?rq28
          case hq28 => (intro w hSw; clear hSw; go_simp; (try with_reducible rfl))
          case rq28 =>
          try simp only [Act.put, List.setIfInBounds_toArray, List.set_cons_zero, List.set_cons_succ]
          refine wpAnyH_done (by kernel_rfl) ?_ _
          have oD : Only (fun _ => False) wr w6 := (Only.refl _ wr).drew.trans o6 (fun _ _ e => e)
          have HF := hide oD
          clear hH0 S6 o6 oD
          have HI2 := hide ((unhide HI).quiet (unhide HF))
          have d2 := (unhide HF).cellS d2
          have d4 := (unhide HF).cellS d4
          have s1 := (unhide HF).cellS s1
          have s2 := (unhide HF).cellS s2
          have t7 := (unhide HF).cellS t7
          have tl : H + 1 < w6.heap.size := (unhide HI2).sv.lt
          have sl : H < w6.heap.size := (unhide HI2).sc.lt
          clear HF C1 HI d0 d1 d3 s0 s3
          generalize w6 = w3 at *
          by_cases hcn : cx < 0
          · have b1 : decide (cx < 0) = true := decide_eq_true hcn
            have HN := hide (show (ckS cols pk) k c = { k with no := true } by have e1 : noC cols c.col = true := by { unfold noC; rw [unhide HX]; exact b1 }; unfold ckS tyB pkB lnB; rw [e1]; simp)
            go_wp2_with fail
            go_roundg (gk - 1)
            case measure => omega
            case rel => exact ⟨i + 1, _, by omega, by go_num, by omega, (unhide HK).trans (unhide HN), rfl, rfl, rfl, rfl, unhide HI2⟩
          · have b1 : decide (cx < 0) = false := decide_eq_false hcn
            obtain ⟨m, hm⟩ : ∃ m : Nat, cx = (m : Int) := ⟨cx.toNat, by omega⟩
            subst hm
            have hml : m < cols.length := by omega
            obtain ⟨cl, hcl2⟩ := getE hml
            obtain ⟨gc, ha2, e0, e1⟩ := (unhide HI2).oc.at_ hcl2
            subst ha2
            have hcnn : cn = cols.length := by obtain ⟨_, _, e⟩ := (unhide HI2).oc.shape; cases e; rfl
            subst hcnn
            have mlp : (m : Int) < (cols.length : Int) := by omega
            have HN := hide (show noC cols c.col = false by unfold noC; rw [unhide HX]; exact b1)
            have HT := hide (show tyB cols c = (c.lit.str != cl.2) by unfold tyB; rw [unhide HN, unhide HX, colS_get hcl2]; rfl)
            clear hcl2 e0 hcn
            obtain ⟨kp, hkp⟩ : ∃ b, k.pk = b := ⟨_, rfl⟩
            have HP := hide (show (kp || decide ((m : Int) = pk)) = (k.pk || pkB cols pk c) by rw [hkp]; unfold pkB; rw [unhide HN, unhide HX]; rfl)
            rw [hkp]
            clear hkp
            go_upto_region 12 with fail
            go_cut [6] from 59 to 65 (fun f6 wx => f6 = .bool (k.pk || pkB cols pk c) ∧ w3 = wx)
            case first =>
              cases kp with
              | true =>
                have HP2 := hide ((unhide HP).symm)
                go_wp2_with fail
                go_meet
                exact ⟨by rw [unhide HP2]; rfl, rfl⟩
              | false =>
                have HP2 := hide (show decide ((m : Int) = pk) = (k.pk || pkB cols pk c) by rw [← unhide HP]; rfl)
                have e2 : ((m : Int) == pk) = decide ((m : Int) = pk) := by rw [Bool.eq_iff_iff]; simp
                go_wp2_with fail
                go_meet
                exact ⟨by rw [← unhide HP2], rfl⟩
            case rest =>
            obtain ⟨rfl, rfl⟩ := hcut
            obtain ⟨kt, hkt⟩ : ∃ b, k.ty = b := ⟨_, rfl⟩
            have HP := hide (show (kt || (c.lit.str != cl.2)) = (k.ty || tyB cols c) by rw [hkt, unhide HT])
            rw [hkt]
            clear hkt
            go_upto_region 13 with fail
            go_cut [7] from 66 to 82 (fun f7 wx => f7 = .bool (k.ty || tyB cols c) ∧ Only (fun _ => False) w3 wx)
            case first =>
              cases kt with
              | true =>
                have HP2 := hide ((unhide HP).symm)
                go_quiet (fail)
                go_wp2_with fail
                go_meet
                exact ⟨by rw [unhide HP2]; rfl, onlyQ _ _⟩
              | false =>
                have HP2 := hide (show (c.lit.str != cl.2) = (k.ty || tyB cols c) by rw [← unhide HP]; rfl)
                go_quiet (fail)
                go_wp2_with fail
                go_meet
                exact ⟨by rw [← unhide HP2]; rfl, onlyQ _ _⟩
            case rest =>
            obtain ⟨rfl, oC⟩ := hcut
            have HI3 := hide ((unhide HI2).quiet oC)
            have d4 := oC.cellS d4
            have t7 := oC.cellS t7
            have tl : H + 1 < wc.heap.size := (unhide HI3).sv.lt
            clear HI2 oC d2 e1 s1 s2
            generalize wc = w4 at *
            obtain ⟨kl, hkl⟩ : ∃ b, k.ln = b := ⟨_, rfl⟩
            have HP := hide (show (kl || decide ((c.lit.s.size : Int) > 7)) = (k.ln || lnB cols c) by rw [hkl]; unfold lnB; rw [unhide HN]; congr 1; rw [Bool.eq_iff_iff]; simp; omega)
            rw [hkl]
            clear hkl
            have HNO := hide (show (k.no || noC cols c.col) = k.no by rw [unhide HN]; simp)
            cases kl with
            | true =>
              go_wp2_with fail
              go_roundg (gk - 1)
              case measure => omega
              case rel => exact ⟨i + 1, _, by omega, by go_num, by omega, unhide HK, (by show _ = Value.bool (k.no || noC cols c.col); rw [unhide HNO]), rfl, rfl, (by show _ = Value.bool (k.ln || lnB cols c); rw [← unhide HP]; rfl), unhide HI3⟩
            | false =>
              go_wp2_with fail
              go_roundg (gk - 1)
              case measure => omega
              case rel => exact ⟨i + 1, _, by omega, by go_num, by omega, unhide HK, (by show _ = Value.bool (k.no || noC cols c.col); rw [unhide HNO]), rfl, rfl, (by show _ = Value.bool (k.ln || lnB cols c); rw [← unhide HP]; rfl), unhide HI3⟩
        · have a1 : decide ((i : Int) < (st.sets.length : Int)) = false := decide_eq_false (by omega)
          have a1p : ¬ (i : Int) < (st.sets.length : Int) := by omega
          have hil : i = st.sets.length := by omega
          rw [hil, List.take_length] at hk
          have HA1 := hide hI
          clear hI hgk hil
          have HK2 := hide hk
          clear hk
          obtain ⟨k2, hk2⟩ : ∃ k2, k2 = k := ⟨_, rfl⟩
          rw [← hk2] at HK2 ⊢
          clear hk2 k
          go_upto_region 16 with fail
          go_loopg [5, 7, 12, 13] (st.wh.length + 1) (fun gk f5 f7 jv _ wr => ∃ (i : Nat) (k : Ck), gk + i = st.wh.length + 1 ∧ jv = .int .i64 i ∧ i ≤ st.wh.length ∧ (st.wh.take i).foldl (ckW cols) k2 = k ∧ f5 = .bool k.no ∧ f7 = .bool k.ty ∧ CqI w H #[.string tn, .slice ca cn cc, .int .i64 pk, .int .i64 ix] #[.int .i64 st.kind, .string st.table, .slice a2 n2 c2, .int .i64 st.pk, .slice a4 n4 c4, .bool st.star, .slice a6 st.list.length c6, .slice a7 st.sets.length c7, .slice a8 st.wh.length c8, .string st.order, .bool st.desc, .bool st.hasL, .int .i64 st.lim] (.slice ca cn cc) cols (.slice a6 st.list.length c6) (.slice a7 st.sets.length c7) (.slice a8 st.wh.length c8) st wr)
          case atStart => exact ⟨0, k2, rfl, rfl, Nat.zero_le _, rfl, rfl, rfl, unhide HA1⟩
          case round =>
            obtain ⟨i, k, hgk, rfl, hi, hk, rfl, rfl, hI⟩ := hrel
            clear HA1
            have t7 : wr.cell? ⟨H + 1, 8, none⟩ = some (.slice a8 st.wh.length c8) := hI.sv.cell 8
            have tl := hI.sv.lt
            by_cases hs : i < st.wh.length
            · have a1 : decide ((i : Int) < (st.wh.length : Int)) = true := decide_eq_true (by omega)
              have a1p : (i : Int) < (st.wh.length : Int) := by omega
              obtain ⟨c, hx⟩ := getE hs
              obtain ⟨gw, ha, d0, d1, d2, d3, d4⟩ := hI.o8.at_ hx
              subst ha
              have HK := hide (show (st.wh.take (i + 1)).foldl (ckW cols) k2 = (ckW cols) k c by rw [List.take_add_one, hx, Option.toList_some, List.foldl_append, hk]; rfl)
              have s0 : wr.cell? ⟨H, 0, none⟩ = some (.string tn) := hI.sc.cell 0
              have s1 : wr.cell? ⟨H, 1, none⟩ = some (.slice ca cn cc) := hI.sc.cell 1
              have s2 : wr.cell? ⟨H, 2, none⟩ = some (.int .i64 pk) := hI.sc.cell 2
              have s3 : wr.cell? ⟨H, 3, none⟩ = some (.int .i64 ix) := hI.sc.cell 3
              have sl := hI.sc.lt
              have oD : Only (fun _ => False) wr wr.drew := (Only.refl _ wr).drew
              have C1 := sqcolOf_any (tn := tn) (pk := pk) (ix := ix) (hI.oc.keep oD (fun _ _ e => e)) hcl c.col
              unfold schU at C1
              obtain ⟨cx, hcx⟩ : ∃ z, qcol cols c.col = z := ⟨_, rfl⟩
              rw [hcx] at C1
              have hqr := qcol_rng cols c.col
              rw [hcx] at hqr
              have HX := hide hcx
              have C1 := hide C1
              have HI := hide hI
              clear hI hx oD hcx hk
              go_upto_region 18 with fail
              refine wp_region_held_drew (S := (fun w' => w'.cell? ⟨H, 0, none⟩ = some (.string tn) ∧ w'.cell? ⟨H, 1, none⟩ = some (.slice ca cn cc) ∧ w'.cell? ⟨H, 2, none⟩ = some (.int .i64 pk) ∧ w'.cell? ⟨H, 3, none⟩ = some (.int .i64 ix) ∧ w'.cell? ⟨H + 1, 8, none⟩ = some (.slice (some ⟨gw, 0, none⟩) st.wh.length c8) ∧ w'.cell? ⟨gw, i * 5, none⟩ = some (.string c.col))) (by kernel_rfl) ⟨s0, s1, s2, s3, t7, d0⟩ (fun hH0 => ?_)
              refine takeH 0 102 (v := ?vq31) rfl rfl (by kernel_rfl) (by kernel_rfl) (by kernel_rfl) (fun _ _ _ h => h) (Or.inl ⟨by rfl, ?hq31⟩) hH0 ?rq31
              case hq31 => (intro w hSw; obtain ⟨s0, s1, s2, s3, s4, s5⟩ := hSw; go_simp; (try with_reducible rfl))
              case rq31 =>
              try simp only [Act.put, List.setIfInBounds_toArray, List.set_cons_zero, List.set_cons_succ]
              refine takeH 1 103 (v := ?vq32) rfl rfl (by kernel_rfl) (by kernel_rfl) (by kernel_rfl) (fun _ _ _ h => h) (Or.inl ⟨by rfl, ?hq32⟩) hH0 ?rq32
              case hq32 => (intro w hSw; clear hSw; go_simp; (try with_reducible rfl))
              case rq32 =>
              try simp only [Act.put, List.setIfInBounds_toArray, List.set_cons_zero, List.set_cons_succ]
              refine takeH 2 104 (v := ?vq33) rfl rfl (by kernel_rfl) (by kernel_rfl) (by kernel_rfl) (fun _ _ _ h => h) (Or.inl ⟨by rfl, ?hq33⟩) hH0 ?rq33
              case hq33 => (intro w hSw; obtain ⟨s0, s1, s2, s3, s4, s5⟩ := hSw; go_simp; (try with_reducible rfl))
              case rq33 =>
              try simp only [Act.put, List.setIfInBounds_toArray, List.set_cons_zero, List.set_cons_succ]
              refine takeH 3 105 (v := ?vq34) rfl rfl (by kernel_rfl) (by kernel_rfl) (by kernel_rfl) (fun _ _ _ h => h) (Or.inl ⟨by rfl, ?hq34⟩) hH0 ?rq34
              case hq34 => (intro w hSw; clear hSw; go_simp; (try with_reducible rfl))
              case rq34 =>
              try simp only [Act.put, List.setIfInBounds_toArray, List.set_cons_zero, List.set_cons_succ]
              refine takeH 4 106 (v := ?vq35) rfl rfl (by kernel_rfl) (by kernel_rfl) (by kernel_rfl) (fun _ _ _ h => h) (Or.inl ⟨by rfl, ?hq35⟩) hH0 ?rq35
              case hq35 => (intro w hSw; clear hSw; go_simp; (try with_reducible rfl))
              case rq35 =>
              try simp only [Act.put, List.setIfInBounds_toArray, List.set_cons_zero, List.set_cons_succ]
              refine takeH 5 107 (v := ?vq36) rfl rfl (by kernel_rfl) (by kernel_rfl) (by kernel_rfl) (fun _ _ _ h => h) (Or.inl ⟨by rfl, ?hq36⟩) hH0 ?rq36
              case hq36 => (intro w hSw; clear hSw; go_simp; (try with_reducible rfl))
              case rq36 =>
              try simp only [Act.put, List.setIfInBounds_toArray, List.set_cons_zero, List.set_cons_succ]
              refine takeH 6 108 (v := ?vq37) rfl rfl (by kernel_rfl) (by kernel_rfl) (by kernel_rfl) (fun _ _ _ h => h) (Or.inl ⟨by rfl, ?hq37⟩) hH0 ?rq37
              case hq37 => (intro w hSw; obtain ⟨s0, s1, s2, s3, s4, s5⟩ := hSw; go_simp; (try with_reducible rfl))
              case rq37 =>
              try simp only [Act.put, List.setIfInBounds_toArray, List.set_cons_zero, List.set_cons_succ]
              refine callH 7 (by kernel_rfl) rfl 109 rfl rfl 111 Tryz.func111 (by kernel_rfl) (by kernel_rfl) #[.tmp 102, .tmp 108] #[79, 9] rfl #[.agg #[.string tn, .slice ca cn cc, .int .i64 pk, .int .i64 ix], .string c.col] (by simp [Act.eval]) (R := fun v w' => v = .int .i64 cx ∧ Only (fun _ => False) wr.drew w') ((unhide C1).mono (by rintro en w' ⟨rfl, o⟩; exact ⟨_, rfl, rfl, o⟩)) ?kq3
              case kq3 =>
              rintro _ w6 ⟨rfl, o6⟩
              have S6 : w6.cell? ⟨H, 0, none⟩ = some (.string tn) ∧ w6.cell? ⟨H, 1, none⟩ = some (.slice ca cn cc) ∧ w6.cell? ⟨H, 2, none⟩ = some (.int .i64 pk) ∧ w6.cell? ⟨H, 3, none⟩ = some (.int .i64 ix) ∧ w6.cell? ⟨H + 1, 8, none⟩ = some (.slice (some ⟨gw, 0, none⟩) st.wh.length c8) ∧ w6.cell? ⟨gw, i * 5, none⟩ = some (.string c.col) := ⟨o6.cellS hH0.1, o6.cellS hH0.2.1, o6.cellS hH0.2.2.1, o6.cellS hH0.2.2.2.1, o6.cellS hH0.2.2.2.2.1, o6.cellS hH0.2.2.2.2.2⟩
              refine ⟨S6, ?_⟩
              try simp only [Act.put, List.setIfInBounds_toArray, List.set_cons_zero, List.set_cons_succ]
              refine takeH 8 13 (v := ?vq38) rfl rfl (by kernel_rfl) (by kernel_rfl) (by kernel_rfl) (fun _ _ _ h => h) (Or.inl ⟨by rfl, ?hq38⟩) S6 ?rq38
              case hq38 => (intro w hSw; clear hSw; go_simp; (try with_reducible rfl))
              case rq38 =>
              try simp only [Act.put, List.setIfInBounds_toArray, List.set_cons_zero, List.set_cons_succ]
              refine wpAnyH_done (by kernel_rfl) ?_ _
              have oD : Only (fun _ => False) wr w6 := (Only.refl _ wr).drew.trans o6 (fun _ _ e => e)
              have HF := hide oD
              clear hH0 S6 o6 oD
              have HI2 := hide ((unhide HI).quiet (unhide HF))
              have d2 := (unhide HF).cellS d2
              have d4 := (unhide HF).cellS d4
              have s1 := (unhide HF).cellS s1
              have s2 := (unhide HF).cellS s2
              have t7 := (unhide HF).cellS t7
              have tl : H + 1 < w6.heap.size := (unhide HI2).sv.lt
              have sl : H < w6.heap.size := (unhide HI2).sc.lt
              clear HF C1 HI d0 d1 d3 s0 s3
              generalize w6 = w3 at *
              by_cases hcn : cx < 0
              · have b1 : decide (cx < 0) = true := decide_eq_true hcn
                have HN := hide (show (ckW cols) k c = { k with no := true } by have e1 : noC cols c.col = true := by { unfold noC; rw [unhide HX]; exact b1 }; unfold ckW tyB; rw [e1]; simp)
                go_wp2_with fail
                go_roundg (gk - 1)
                case measure => omega
                case rel => exact ⟨i + 1, _, by omega, by go_num, by omega, (unhide HK).trans (unhide HN), rfl, rfl, unhide HI2⟩
              · have b1 : decide (cx < 0) = false := decide_eq_false hcn
                obtain ⟨m, hm⟩ : ∃ m : Nat, cx = (m : Int) := ⟨cx.toNat, by omega⟩
                subst hm
                have hml : m < cols.length := by omega
                obtain ⟨cl, hcl2⟩ := getE hml
                obtain ⟨gc, ha2, e0, e1⟩ := (unhide HI2).oc.at_ hcl2
                subst ha2
                have hcnn : cn = cols.length := by obtain ⟨_, _, e⟩ := (unhide HI2).oc.shape; cases e; rfl
                subst hcnn
                have mlp : (m : Int) < (cols.length : Int) := by omega
                have HN := hide (show noC cols c.col = false by unfold noC; rw [unhide HX]; exact b1)
                have HT := hide (show tyB cols c = (c.lit.str != cl.2) by unfold tyB; rw [unhide HN, unhide HX, colS_get hcl2]; rfl)
                clear hcl2 e0 hcn
                obtain ⟨kt, hkt⟩ : ∃ b, k.ty = b := ⟨_, rfl⟩
                have HP := hide (show (kt || (c.lit.str != cl.2)) = (k.ty || tyB cols c) by rw [hkt, unhide HT])
                rw [hkt]
                clear hkt
                have HNO := hide (show (k.no || noC cols c.col) = k.no by rw [unhide HN]; simp)
                go_upto_region 21 with fail
                cases kt with
                | true =>
                  go_quiet (fail)
                  go_wp2_with fail
                  go_roundg (gk - 1)
                  case measure => omega
                  case rel => exact ⟨i + 1, _, by omega, by go_num, by omega, unhide HK, (by show _ = Value.bool (k.no || noC cols c.col); rw [unhide HNO]), (by show _ = Value.bool (k.ty || tyB cols c); rw [← unhide HP]; rfl), (unhide HI2).quiet (onlyQ _ _)⟩
                | false =>
                  go_quiet (fail)
                  go_wp2_with fail
                  go_roundg (gk - 1)
                  case measure => omega
                  case rel => exact ⟨i + 1, _, by omega, by go_num, by omega, unhide HK, (by show _ = Value.bool (k.no || noC cols c.col); rw [unhide HNO]), (by show _ = Value.bool (k.ty || tyB cols c); rw [← unhide HP]; rfl), (unhide HI2).quiet (onlyQ _ _)⟩
            · have a1 : decide ((i : Int) < (st.wh.length : Int)) = false := decide_eq_false (by omega)
              have a1p : ¬ (i : Int) < (st.wh.length : Int) := by omega
              have hil : i = st.wh.length := by omega
              rw [hil, List.take_length] at hk
              have HA1 := hide hI
              clear hI hgk hil
              have HE := hide (show chkD cols pk st = ckE k by unfold chkD ckD; rw [unhide HK1, unhide HK2, hk])
              have HO := hide (unhide HA1).on
              have HK3 := hide hk
              clear HA1 hk
              obtain ⟨b1, e1⟩ : ∃ b, k.no = b := ⟨_, rfl⟩
              have p2 := foldW_pk (cols := cols) st.wh k2
              have p4 := foldW_ln (cols := cols) st.wh k2
              rw [unhide HK3] at p2 p4
              obtain ⟨b2, e2⟩ : ∃ b, k2.pk = b := ⟨_, rfl⟩
              obtain ⟨b3, e3⟩ : ∃ b, k.ty = b := ⟨_, rfl⟩
              obtain ⟨b4, e4⟩ : ∃ b, k2.ln = b := ⟨_, rfl⟩
              have HF := hide (show chkD cols pk st = (if b1 = true then 14 else if b2 = true then 18 else if b3 = true then 15 else if b4 = true then 16 else 0) by rw [unhide HE]; unfold ckE; rw [e1, p2, e2, e3, p4, e4])
              rw [e1, e2, e3, e4]
              clear e1 e2 e3 e4 HE p2 p4
              cases b1 with
              | true =>
                go_wp2_with fail
                go_ret
                exact ⟨by rw [unhide HF]; rfl, unhide HO⟩
              | false =>
              cases b2 with
              | true =>
                go_wp2_with fail
                go_ret
                exact ⟨by rw [unhide HF]; rfl, unhide HO⟩
              | false =>
              cases b3 with
              | true =>
                go_wp2_with fail
                go_ret
                exact ⟨by rw [unhide HF]; rfl, unhide HO⟩
              | false =>
              cases b4 with
              | true =>
                go_wp2_with fail
                go_ret
                exact ⟨by rw [unhide HF]; rfl, unhide HO⟩
              | false =>
                go_wp2_with fail
                go_ret
                exact ⟨by rw [unhide HF]; rfl, unhide HO⟩
end
end Go.Proofs.Qxb6500412aGreat
