/-
  OWN WORK. THE GRAPH's MODEL: the observers (written by tools/gen_hmd4.py).
-/
import Derived.Test.Qxb6500417aGreatHMd3
namespace Go.Proofs.Qxb6500417aGreat
open Go.RowKit Go.PlainAid
set_option linter.unusedSimpArgs false
set_option linter.unusedVariables false

theorem FnP.has {A : GA} {q r : Int} (h : FnP A.nodes q r) : decide (0 ≤ r) = hasN A q := by
  rcases h with ⟨rfl, hn⟩ | ⟨j, b, rfl, hj, he⟩
  · have e : hasN A q = false := by
      cases hh : hasN A q with
      | false => rfl
      | true =>
        unfold hasN at hh
        rw [List.any_eq_true] at hh
        obtain ⟨x, hx, e⟩ := hh
        obtain ⟨j, hj⟩ := List.getElem?_of_mem hx
        exact absurd (of_decide_eq_true e) (hn j x hj)
    rw [e]; rfl
  · have e : hasN A q = true := by
      unfold hasN
      rw [List.any_eq_true]
      exact ⟨b, List.mem_of_getElem? hj, decide_eq_true he⟩
    rw [e]
    exact decide_eq_true (by omega)
section
variable {w w' : World} {nv rv av : Value} {A S : GA} {O P H : Nat → Prop} {m : Nat} {lx hz : Bool} {r sr : Int}

theorem hhas_any (h : MG w m lx A r S sr hz H) (hA : ASm A) (q : Int) :
    Calls Tryz.prog 142 #[.pointer (some ⟨m, 0, none⟩), .int .i64 q] w fun e w' => e = .returned (.bool (hasN A q)) ∧ w = w' := by
  obtain ⟨na, nc, ra, rc, aa, ac, c0, c1, c2, c3, c4, c5, c6, c7, c16, hV⟩ := h.cur
  have C1 := hide (afindN_any hV.nin (by have := hA.n; omega) q)
  clear h hV c1 c2 c3 c4 c5 c6 c7 c16 hA
  obtain ⟨bb, hbb⟩ : ∃ b, hasN A q = b := ⟨_, rfl⟩
  rw [hbb]
  have HB := hide hbb
  clear hbb
  go_enter Tryz.func142, Tryz.ntmps142
  go_wp2_with fail
  refine (unhide C1).mono ?_
  rintro e w1 ⟨x, rfl, hF, rfl⟩
  have hd := hF.has
  rw [unhide HB] at hd
  clear C1 hF HB
  go_wp2_with fail
  go_ret
  exact ⟨rfl, rfl⟩
set_option maxRecDepth 100000 in
set_option maxHeartbeats 4000000 in
theorem hseqs_any (h : MG w m lx A r S sr hz H) (hA : ASm A) :
    Calls Tryz.prog 72 #[.pointer (some ⟨m, 0, none⟩)] w fun e w' => ∃ v, e = .returned v ∧ II w v (seqsA A) w' := by
  obtain ⟨i0, hi0, hz0, hz1, hz2⟩ := info_parts Tryz.infoIntU
  obtain ⟨na, nc, ra, rc, aa, ac, c0, c1, c2, c3, c4, c5, c6, c7, c16, hV⟩ := h.cur
  have hn := hA.n
  have hml := h.lt
  have H0 := hide hV.nin
  obtain ⟨L, hL⟩ : ∃ L, A.nodes = L := ⟨_, rfl⟩
  have hseq : seqsA A = L.map (fun x => (x.seq : Int)) := by unfold seqsA; rw [hL]
  rw [hseq]
  rw [hL] at H0 c0 hn
  clear h hV c1 c2 c3 c4 c5 c6 c7 c16 hA hL hseq
  have Hc := hide c0
  clear c0
  go_enter Tryz.func72, Tryz.ntmps72
  go_wp2_with fail
  go_loopw [3, 4] (fun ov iv wr => ∃ i : Nat, i ≤ L.length ∧ iv = .int .i64 i ∧ II w ov ((L.map (fun x => (x.seq : Int))).take i) wr) (fun _ iv _ => L.length - (intOf iv).toNat)
  case atStart => exact ⟨0, by omega, rfl, II.nil w⟩
  case round =>
    obtain ⟨i, hi, rfl, hM⟩ := hrel
    have c0 := (World.cell?_of_block (a := ⟨m, 0, none⟩) (hM.ho.block m hml (fun h => h))).trans (unhide Hc)
    have hmr : m < wr.heap.size := by have := hM.ho.size; omega
    by_cases hil : i < L.length
    · obtain ⟨g, _, he, hgl, hN⟩ := ((unhide H0).quiet hM.ho).cellAt hil
      obtain ⟨rfl, rfl⟩ := slice_eq he
      have k0 := hN.sq
      have a1 : decide ((i : Int) < (L.length : Int)) = true := decide_eq_true (by omega)
      have a1n : decide (i < L.length) = true := decide_eq_true hil
      have a2 : (i : Int) < (L.length : Int) := by omega
      have hlt : ((L.map (fun x => (x.seq : Int))).take i).length ≤ 1000 := by rw [List.length_take]; omega
      have hsn := take_snoc (l := L.map (fun x => (x.seq : Int))) (i := i) (by simpa using hil)
      rw [List.getElem_map] at hsn
      have Hsn := hide hsn
      have HM := hide hM
      have own2 : wr.ownsRow 0 3 1 _ _ _ := hM.own
      obtain ⟨oa, oc, rfl⟩ := ownsRow_shape hM.own
      clear hM he hN hsn
      generalize (L.map (fun x => (x.seq : Int))).take i = pre at *
      generalize (L[i]).seq = sq at *
      go_wp2_with (at_builtin; refine wpList_append2 _ rfl _ _ 91 rfl 3 i0 _ 1 8 Tryz.underlying91 hi0 hz0 hz1 hz2 rfl (by decide) _ _ _ rfl (own2.alloc _) ⟨wr.heap.size, 0, none⟩ 1 1 [.int .i64 (sq : Int)] rfl rfl ?d1 ?d2 ?d3 ?d4 ?_)
      try (case d1 => exact news_ok _ _ _ _ rfl)
      case d2 => first | (intro u hu; simp at hu; subst hu; rfl) | exact ⟨rfl, rfl⟩ | rfl
      case d3 => unfold maxLen; omega
      case d4 => omega
      intro v7 w7 hown hgrow hwhere
      have H7 := hide ((unhide HM).push2 hown rfl hgrow hwhere)
      clear hown hgrow hwhere own2 HM
      go_wp2_with fail
      go_roundw
      case rel => exact ⟨i + 1, by omega, by go_num, by rw [← unhide Hsn]; exact unhide H7⟩
      case measure => simp [intOf]; omega
    · have a1 : decide ((i : Int) < (L.length : Int)) = false := decide_eq_false (by omega)
      have a1n : decide (i < L.length) = false := decide_eq_false hil
      have e1 : (L.map (fun x => (x.seq : Int))).take i = L.map (fun x => (x.seq : Int)) := List.take_of_length_le (by rw [List.length_map]; omega)
      rw [e1] at hM
      have HM := hide hM
      obtain ⟨oa, oc, rfl⟩ := ownsRow_shape hM.own
      clear hM e1
      go_wp2_with fail
      go_ret
      exact ⟨_, rfl, unhide HM⟩
theorem hbrs_any (h : MG w m lx A r S sr hz H) (hA : ASm A) :
    Calls Tryz.prog 79 #[.pointer (some ⟨m, 0, none⟩)] w fun e w' => ∃ v, e = .returned v ∧ RM w v A.refs w' := by
  obtain ⟨na, nc, ra, rc, aa, ac, c0, c1, c2, c3, c4, c5, c6, c7, c16, hV⟩ := h.cur
  have C1 := hide (acopyRefs_any hV.rf.in_ (by have := hA.r; omega))
  clear h hV c1 c0 c3 c4 c5 c6 c7 c16 hA
  go_enter Tryz.func79, Tryz.ntmps79
  go_wp2_with fail
  refine (unhide C1).mono ?_
  rintro e w1 ⟨v, rfl, hM⟩
  have HM := hide hM
  obtain ⟨oa, oc, rfl⟩ := ownsRow_shape hM.own
  clear C1 hM
  go_wp2_with fail
  go_ret
  exact ⟨_, rfl, unhide HM⟩
theorem haux_any (h : MG w m lx A r S sr hz H) (hA : ASm A) :
    Calls Tryz.prog 85 #[.pointer (some ⟨m, 0, none⟩)] w fun e w' => ∃ v, e = .returned v ∧ FM w v A.aux w' := by
  obtain ⟨na, nc, ra, rc, aa, ac, c0, c1, c2, c3, c4, c5, c6, c7, c16, hV⟩ := h.cur
  have C1 := hide (copyFiles_any _ A.aux hV.ax.in_ (by have := hA.aux; omega))
  clear h hV c1 c0 c3 c4 c5 c2 c7 c16 hA
  go_enter Tryz.func85, Tryz.ntmps85
  go_wp2_with fail
  refine (unhide C1).mono ?_
  rintro e w1 ⟨v, rfl, h1, h2, h3⟩
  have HM : Hid (FM w v A.aux w1) := hide ⟨h1, h2, h3⟩
  obtain ⟨oa, oc, rfl⟩ := ownsRow_shape h1
  clear C1 h1 h2 h3
  go_wp2_with fail
  go_ret
  exact ⟨_, rfl, unhide HM⟩
set_option maxRecDepth 100000 in
theorem hhead_any (h : MG w m lx A r S sr hz H) :
    Calls Tryz.prog 83 #[.pointer (some ⟨m, 0, none⟩)] w fun e w' => e = .returned (hdV A) ∧ Only (fun _ => False) w w' := by
  have oA := (Only.refl (fun _ => False) w).alloc (.cells #[.string ⟨#[]⟩, .int .i64 0, .int .i64 0] 58)
  have hZ := Has.new w #[.string ⟨#[]⟩, .int .i64 0, .int .i64 0] 58
  have h1 := h.quiet oA
  obtain ⟨na, nc, ra, rc, aa, ac, c0, c1, c2, c3, c4, c5, c6, c7, c16, hV⟩ := h1.cur
  have hml := h.lt
  have hsz : w.heap.size < (w.alloc (.cells #[.string ⟨#[]⟩, .int .i64 0, .int .i64 0] 58)).heap.size := hZ.lt
  have HZ := hide hZ
  have HO := hide oA
  clear h hV h1 c0 c1 c2 c6 c7 c16 hZ oA
  go_enter Tryz.func83, Tryz.ntmps83
  go_upto_region 1 with fail
  generalize w.alloc (.cells #[.string ⟨#[]⟩, .int .i64 0, .int .i64 0] 58) = W at *
  obtain ⟨b, hb⟩ : ∃ b, w.heap.size = b := ⟨_, rfl⟩
  rw [hb] at HZ hml hsz ⊢
  have q0 : W.cell? ⟨b, 0, none⟩ = some (.string ⟨#[]⟩) := (unhide HZ).cell 0
  have q1 : W.cell? ⟨b, 1, none⟩ = some (.int .i64 0) := (unhide HZ).cell 1
  have q2 : W.cell? ⟨b, 2, none⟩ = some (.int .i64 0) := (unhide HZ).cell 2
  have z0 := (unhide HZ).free 0
  have z1 := (unhide HZ).free 1
  have z2 := (unhide HZ).free 2
  have HF := hide (fun (W9 : World) (h9 : Only (fun y => y = b) W W9) => (unhide HO).trans h9 (fun y hy e => by omega))
  clear HZ HO hb
  go_wp2_with fail
  refine bodyPost_ret (v := hdV A) (by simp [results, Tryz.results83, go_sem, q0, q1, q2, hdV]) rfl ?_
  exact ⟨rfl, unhide HF _ (onlyS (onlyS (onlyS (Only.refl (fun y => y = b) W) _ _) _ _) _ _)⟩
/-- What Node answers. -/
def NdP (A : GA) (q : Int) (w : World) (e : Ending) (w' : World) : Prop := (hasN A q = false ∧ e = .returned (.tuple #[ndV 0 (.slice none 0 0) (.slice none 0 0) ⟨#[]⟩, .int .i64 17]) ∧ Only (fun _ => False) w w') ∨ (∃ x fv pv, x ∈ A.nodes ∧ (x.seq : Int) = q ∧ e = .returned (.tuple #[ndV q fv pv x.msg, .int .i64 0]) ∧ NM w fv pv x w')
theorem gnode2_any {g t s d : Nat} {D B : Nat → Nat} {recs : List Rec} {J : Nat → Sl} {rt : Nat} {F : Nat → Prop} {T : Gt} (h : GR w g t s d D B recs J rt F T S) (seq : Int) :
    Calls Tryz.prog 95 #[.pointer (some ⟨g, 0, none⟩), .int .i64 seq] w (NdP (absG J T) seq w) := by
  refine (gnode_any h seq).mono ?_
  rcases h.gi.has seq with ⟨h0, hn⟩ | ⟨hC, hs, hy⟩
  · rintro e w' (⟨_, he, ho⟩ | ⟨hx, _⟩)
    · exact .inl ⟨hn, he, ho⟩
    · exact absurd h0 hx
  · rintro e w' (⟨hx, _⟩ | ⟨_, fv, pv, he, hM⟩)
    · rw [hx] at hC; exact absurd hC.1.1 (by omega)
    · exact .inr ⟨_, fv, pv, List.mem_map.2 ⟨_, h.gi.os_iff.2 hC, rfl⟩, hs, he, hM⟩
set_option maxRecDepth 100000 in
set_option maxHeartbeats 4000000 in
theorem hnode_any (h : MG w m lx A r S sr hz H) (hA : ASm A) (q : Int) :
    Calls Tryz.prog 96 #[.pointer (some ⟨m, 0, none⟩), .int .i64 q] w (NdP A q w) := by
  have hZ := Has.new w #[.int .i64 0, .slice none 0 0, .slice none 0 0, .string ⟨#[]⟩] 128
  have oA := (Only.refl (fun _ => False) w).alloc (.cells #[.int .i64 0, .slice none 0 0, .slice none 0 0, .string ⟨#[]⟩] 128)
  have h1 := h.quiet oA
  obtain ⟨na, nc, ra, rc, aa, ac, c0, c1, c2, c3, c4, c5, c6, c7, c16, hV⟩ := h1.cur
  have hN := hV.nin
  have C1 := hide (afindN_any hN (by have := hA.n; omega) q)
  have hml := h.lt
  have HZ := hide hZ
  have HO := hide oA
  have HN := hide hN
  have Hs := hide hA.sml
  clear h hV h1 c1 c2 c3 c4 c5 c6 c7 c16 hZ oA hN hA
  go_enter Tryz.func96, Tryz.ntmps96
  go_upto_region 1 with fail
  generalize hW : w.alloc (.cells #[.int .i64 0, .slice none 0 0, .slice none 0 0, .string ⟨#[]⟩] 128) = W at *
  clear hW
  obtain ⟨b, hb⟩ : ∃ b, w.heap.size = b := ⟨_, rfl⟩
  rw [hb] at HZ hml ⊢
  have hbl := (unhide HZ).lt
  go_wp2_with fail
  refine (unhide C1).mono ?_
  rintro e w1 ⟨x, rfl, hF, rfl⟩
  clear C1
  rcases hF with ⟨rfl, hn⟩ | ⟨j, x, rfl, hj, he⟩
  · have hno : hasN A q = false := by
      have := FnP.has (A := A) (q := q) (r := -1) (.inl ⟨rfl, hn⟩)
      rw [← this]; rfl
    have q0 : W.cell? ⟨b, 0, none⟩ = some (.int .i64 0) := (unhide HZ).cell 0
    have q1 : W.cell? ⟨b, 1, none⟩ = some (.slice none 0 0) := (unhide HZ).cell 1
    have q2 : W.cell? ⟨b, 2, none⟩ = some (.slice none 0 0) := (unhide HZ).cell 2
    have q3 : W.cell? ⟨b, 3, none⟩ = some (.string ⟨#[]⟩) := (unhide HZ).cell 3
    have z0 := (unhide HZ).free 0
    have z1 := (unhide HZ).free 1
    have z2 := (unhide HZ).free 2
    have z3 := (unhide HZ).free 3
    have HF := hide (fun (W9 : World) (h9 : Only (fun y => y = b) W W9) => (unhide HO).trans h9 (fun y hy e => by omega))
    have Hno := hide hno
    clear hn hno HN
    go_wp2_with fail
    refine bodyPost_ret (v := .tuple #[ndV 0 (.slice none 0 0) (.slice none 0 0) ⟨#[]⟩, .int .i64 17]) (by simp [results, Tryz.results96, go_sem, q0, q1, q2, q3, ndV]) rfl (.inl ⟨unhide Hno, rfl, ?_⟩)
    refine unhide HF _ ?_
    iterate 4 (refine onlyS ?_ _ _)
    exact Only.refl _ _
  · obtain ⟨hjl, hjx⟩ := List.getElem?_eq_some_iff.1 hj
    obtain ⟨g, _, hge, hgl, hNd⟩ := (unhide HN).cellAt hjl
    obtain ⟨rfl, rfl⟩ := slice_eq hge
    rw [hjx] at hNd
    have hsm := unhide Hs x (List.mem_of_getElem? hj)
    have k0 := hNd.sq
    have k3 := hNd.ms
    obtain ⟨fv, k1, hFf, _⟩ := hNd.fs
    obtain ⟨pv, k2, hI, _⟩ := hNd.ps
    have C2 := hide (acopyNode_any (x := x) hFf hI hsm.1 (by rw [parI_len]; exact hsm.2))
    obtain ⟨fa, fc, rfl, _⟩ := hFf
    obtain ⟨pa, pc, rfl⟩ := hI.shape
    have a2 : (j : Int) < (A.nodes.length : Int) := by omega
    have d1 : decide ((j : Int) < 0) = false := decide_eq_false (by omega)
    have Hm := hide (List.mem_of_getElem? hj)
    have He := hide he
    clear hj hjx hge hNd hsm hI he Hs HN
    go_wp2_with fail
    refine (unhide C2).mono ?_
    rintro e w2 ⟨fv', pv', rfl, hNM⟩
    have hZ2 := (unhide HZ).keep hNM.ho (fun h => h)
    have q0 : w2.cell? ⟨b, 0, none⟩ = some (.int .i64 0) := hZ2.cell 0
    have q1 : w2.cell? ⟨b, 1, none⟩ = some (.slice none 0 0) := hZ2.cell 1
    have q2 : w2.cell? ⟨b, 2, none⟩ = some (.slice none 0 0) := hZ2.cell 2
    have q3 : w2.cell? ⟨b, 3, none⟩ = some (.string ⟨#[]⟩) := hZ2.cell 3
    have z0 := hZ2.free 0
    have z1 := hZ2.free 1
    have z2 := hZ2.free 2
    have z3 := hZ2.free 3
    have hb2 := hZ2.lt
    obtain ⟨fa', fc', hfe⟩ := ownsRow_shape hNM.of
    subst hfe
    obtain ⟨pa', pc', hpe⟩ := ownsRow_shape hNM.op
    subst hpe
    have HF : Hid (∀ W9, Only (fun y => y = b) w2 W9 → NM w (.slice fa' x.files.length fc') (.slice pa' (x.par.map Int.ofNat).length pc') x W9) := hide (fun W9 h9 => by
      refine ⟨hNM.of.keep h9 (fun y hy e => ?_), hNM.op.keep h9 (fun y hy e => ?_), fun y hy => ?_, fun y hy => ?_, ((unhide HO).trans hNM.ho (fun _ _ h => h)).trans h9 (fun y hy e => by omega)⟩
      · have := hNM.bf y hy; omega
      · have := hNM.bp y hy; omega
      · have := hNM.bf y hy; omega
      · have := hNM.bp y hy; omega)
    have He2 := unhide He
    clear C2 hNM hZ2 HO HZ k0 k1 k2 k3 He
    subst He2
    go_wp2_with fail
    refine bodyPost_ret (v := .tuple #[ndV (x.seq : Int) (.slice fa' x.files.length fc') (.slice pa' (x.par.map Int.ofNat).length pc') x.msg, .int .i64 0]) (by simp [results, Tryz.results96, go_sem, q0, q1, q2, q3, ndV]) rfl (.inr ⟨x, _, _, unhide Hm, rfl, rfl, ?_⟩)
    refine unhide HF _ ?_
    iterate 4 (refine onlyS ?_ _ _)
    exact Only.refl _ _
theorem hbase_any (h : MG w m lx A r S sr hz H) (hA : ASm A) (p q : Int) :
    Calls Tryz.prog 110 #[.pointer (some ⟨m, 0, none⟩), .int .i64 p, .int .i64 q] w fun e w' => e = .returned (.tuple #[.int .i64 ((baseV A p q).1 : Nat), .int .i64 ((baseV A p q).2 : Nat)]) ∧ Only (fun _ => False) w w' := by
  obtain ⟨na, nc, ra, rc, aa, ac, c0, c1, c2, c3, c4, c5, c6, c7, c16, hV⟩ := h.cur
  have C1 := hide (hhas_any h hA p)
  have C2 := hide (hhas_any h hA q)
  have C3 := abaseOf_any hV.nin (by have := hA.n; omega) hA.s hA.p p q
  obtain ⟨X, hX⟩ : ∃ X, baseV A p q = X := ⟨_, rfl⟩
  rw [hX]
  unfold baseV at hX
  cases hp : hasN A p with
  | false =>
    rw [if_neg (by rw [hp]; simp)] at hX
    subst hX
    rw [hp] at C1
    clear h hV c0 c1 c2 c3 c4 c5 c6 c7 c16 C2 C3 hp
    go_enter Tryz.func110, Tryz.ntmps110
    go_wp2_with fail
    refine (unhide C1).mono ?_
    rintro e w1 ⟨rfl, rfl⟩
    clear C1
    go_wp2_with fail
    go_ret2
    exact ⟨rfl, Only.refl _ _⟩
  | true =>
    rw [hp] at C1
    cases hq : hasN A q with
    | false =>
      rw [if_neg (by rw [hq]; simp)] at hX
      subst hX
      rw [hq] at C2
      clear h hV c0 c1 c2 c3 c4 c5 c6 c7 c16 C3 hp hq
      go_enter Tryz.func110, Tryz.ntmps110
      go_wp2_with fail
      refine (unhide C1).mono ?_
      rintro e w1 ⟨rfl, rfl⟩
      clear C1
      go_wp2_with fail
      refine (unhide C2).mono ?_
      rintro e w1 ⟨rfl, rfl⟩
      clear C2
      go_wp2_with fail
      go_ret2
      exact ⟨rfl, Only.refl _ _⟩
    | true =>
      rw [if_pos ⟨hp, hq⟩] at hX
      subst hX
      rw [hq] at C2
      have hba : baseD A.nodes (fun j => reachN A.nodes A.nodes.length (root1 A.nodes p) j && reachN A.nodes A.nodes.length (root1 A.nodes q) j) A.nodes.length = baseA A p q := rfl
      rw [hba] at C3
      generalize baseA A p q = bs at *
      have C3 := hide C3
      clear h hV c1 c2 c3 c4 c5 c6 c7 c16 hp hq hba
      go_enter Tryz.func110, Tryz.ntmps110
      go_wp2_with fail
      refine (unhide C1).mono ?_
      rintro e w1 ⟨rfl, rfl⟩
      clear C1
      go_wp2_with fail
      refine (unhide C2).mono ?_
      rintro e w1 ⟨rfl, rfl⟩
      clear C2
      go_wp2_with fail
      refine (unhide C3).mono ?_
      rintro e w1 ⟨rfl, hO⟩
      clear C3
      go_wp2_with fail
      go_ret2
      exact ⟨rfl, hO⟩
theorem hlog_any (h : MG w m lx A r S sr hz H) (hA : ASm A) (q : Int) :
    Calls Tryz.prog 112 #[.pointer (some ⟨m, 0, none⟩), .int .i64 q] w fun e w' => ∃ v, e = .returned (.tuple #[v, .int .i64 ((logV A q).2 : Nat)]) ∧ II w v (logV A q).1 w' := by
  obtain ⟨na, nc, ra, rc, aa, ac, c0, c1, c2, c3, c4, c5, c6, c7, c16, hV⟩ := h.cur
  have C1 := hide (hhas_any h hA q)
  have C3 := alogOf_any hV.nin (by have := hA.n; omega) hA.s hA.p q
  obtain ⟨X, hX⟩ : ∃ X, logV A q = X := ⟨_, rfl⟩
  rw [hX]
  unfold logV at hX
  cases hp : hasN A q with
  | false =>
    rw [if_neg (by rw [hp]; simp)] at hX
    subst hX
    rw [hp] at C1
    clear h hV c0 c1 c2 c3 c4 c5 c6 c7 c16 C3 hp
    go_enter Tryz.func112, Tryz.ntmps112
    go_wp2_with fail
    refine (unhide C1).mono ?_
    rintro e w1 ⟨rfl, rfl⟩
    clear C1
    go_wp2_with fail
    go_ret2
    exact ⟨_, rfl, II.nil w⟩
  | true =>
    rw [if_pos hp] at hX
    subst hX
    rw [hp] at C1
    have hba : logD A.nodes (reachN A.nodes A.nodes.length (root1 A.nodes q)) A.nodes.length = logA A q := rfl
    rw [hba] at C3
    generalize logA A q = lg at *
    have C3 := hide C3
    clear h hV c1 c2 c3 c4 c5 c6 c7 c16 hp hba
    go_enter Tryz.func112, Tryz.ntmps112
    go_wp2_with fail
    refine (unhide C1).mono ?_
    rintro e w1 ⟨rfl, rfl⟩
    clear C1
    go_wp2_with fail
    refine (unhide C3).mono ?_
    rintro e w1 ⟨v, rfl, hI⟩
    have HI := hide hI
    obtain ⟨oa, oc, rfl⟩ := ownsRow_shape hI.own
    clear C3 hI
    go_wp2_with fail
    go_ret2
    exact ⟨_, rfl, unhide HI⟩
end
end Go.Proofs.Qxb6500417aGreat
