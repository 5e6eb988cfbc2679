/-
  OWN WORK. THE GRAPH: the bytes of the refs object.
-/
import Derived.Test.Qxb6500417aGreatGCod2
namespace Go.Proofs.Qxb6500417aGreat
open Go.RowKit Go.PlainAid
set_option linter.unusedSimpArgs false
set_option linter.unusedVariables false

theorem bs_take (T : Gt) {i : Nat} (hi : i < T.nb) : (T.bs.take (i + 1)).flatMap bdat = (T.bs.take i).flatMap bdat ++ (nameB (T.b i).name ++ [(T.b i).id]) := by
  have hl : i < T.bs.length := by rw [bs_len]; exact hi
  rw [List.take_succ_eq_append_getElem hl, List.flatMap_append]
  simp [Gt.bs, bdat]
/-- What the refs object needs of the tables. -/
structure RefW (T : Gt) : Prop where
  b4 : T.nb ≤ 4
  bn : ∀ k, k < T.nb → (T.b k).name.size ≤ 6 ∧ (T.b k).id ≤ 48
  nm : T.name.size ≤ 6
  at_ : T.at_ ≤ 48
  mg : T.mg ≤ 48
  aux : T.aux ≤ 48
  nx : T.nx < 4611686018427387904
theorem GI.refW {J : Nat → Sl} {rt : Nat} {T : Gt} (h : GI J rt T) : RefW T := by
  refine ⟨h.ref.b4, fun k hk => ⟨(goodN_size (h.ref.bn k hk).1).2, (h.ref.bn k hk).2.1.2⟩, ?_, ?_, ?_, h.ax.1.2, h.nx⟩
  · by_cases h0 : T.name.size = 0
    · omega
    · exact (goodN_size (h.ref.hn h0).1).2
  · by_cases h0 : T.name.size = 0
    · exact (h.ref.h0 h0).1.2
    · have := (h.ref.hn h0).2; omega
  · rcases h.ref.mg with e | e
    · omega
    · exact e.1.2
theorem RefW.len {T : Gt} (h : RefW T) : (rdat T).length ≤ 51 := rdat_len T h.b4 (fun b hb => by
  obtain ⟨k, hk, rfl⟩ := mem_bs.1 hb
  exact (h.bn k hk).1) h.nm
theorem RefW.lt {T : Gt} (h : RefW T) : ∀ x ∈ rdat T, x < 256 := rdat_lt T h.b4 (fun b hb => by
  obtain ⟨k, hk, rfl⟩ := mem_bs.1 hb
  exact h.bn k hk) h.nm h.aux h.mg h.at_
theorem UI.fresh {w w1 : World} {v : Value} {l : List Nat} (h : UI w (.slice none 0 0) v l w1) : Only (fun _ => False) w w1 := h.made.ho
set_option maxRecDepth 100000 in
set_option maxHeartbeats 4000000 in
theorem refsBytes_any {w : World} {g t : Nat} {T : Gt} (h : GH w g t T) (hR : RefW T) :
    Calls Tryz.prog 118 #[.pointer (some ⟨g, 0, none⟩)] w fun e w' => ∃ v', e = .returned v' ∧ UM w v' (rdat T) w' := by
  obtain ⟨j0, hj0, hy0, hy1, hy2⟩ := info_parts Tryz.tinfoU8
  have C1 := hide (putSeq_any (OwnU.nil w) T.nx hR.nx (by simp))
  have c1 := h.nx_.1
  have hg := h.lt
  have H0 := hide h
  have r1 := hR.b4
  have r2 := hR.nm
  have r3 := hR.at_
  have r4 := hR.mg
  have r5 := hR.aux
  have HR := hide hR
  have x1 : IntKind.u8.wrap (T.aux : Int) = (T.aux : Int) := by rw [IntKind.wrap_u8]; omega
  have x2 : IntKind.u8.wrap (T.at_ : Int) = (T.at_ : Int) := by rw [IntKind.wrap_u8]; omega
  have x3 : IntKind.u8.wrap (T.mg : Int) = (T.mg : Int) := by rw [IntKind.wrap_u8]; omega
  have x4 : IntKind.u8.wrap (T.nb : Int) = (T.nb : Int) := by rw [IntKind.wrap_u8]; omega
  clear h hR
  go_enter Tryz.func118, Tryz.ntmps118
  go_wp2_with fail
  refine (unhide C1).mono ?_
  rintro e w2 ⟨v2, rfl, hU2⟩
  have hG2 := (unhide H0).quiet hU2.fresh
  have c2 := hG2.aux_.1
  have own2 : w2.ownsRow 0 5 1 v2 _ _ := hU2.own
  obtain ⟨a2, k2, rfl⟩ := ownsRow_shape hU2.own
  have HU2 := hide hU2
  have hlen2 : ([] ++ seq8 T.nx).length = 8 := by simp [seq8_len]
  rw [hlen2] at own2 HU2
  clear C1 hU2 c1 hG2
  rw [hlen2]
  clear hlen2
  go_wp2_with (at_builtin; refine wpList_append2 _ rfl _ _ 90 rfl 5 j0 _ 1 1 Tryz.underlying90 hj0 hy0 hy1 hy2 rfl (by decide) _ _ _ rfl (own2.alloc _) ⟨w2.heap.size, 0, none⟩ 1 1 (uV [T.aux]) rfl rfl ?d1 ?d2 ?d3 ?d4 ?_)
  try (case d1 => exact news_ok _ _ _ _ rfl)
  case d2 => intro u hu; simp [uV] at hu; subst hu; rfl
  case d3 => unfold maxLen; omega
  case d4 => omega
  intro v3 w3 hown hgrow hwhere
  have h3 := (unhide HU2).push (m := [T.aux]) hown rfl hgrow hwhere
  have hG3 := (unhide H0).quiet h3.fresh
  have c3 := hG3.name_.1
  have C3 := hide (putName_any h3.own T.name (by omega) (by simp [seq8_len]))
  have HU3 := hide h3
  obtain ⟨a3, k3, rfl⟩ := ownsRow_shape h3.own
  clear hown hgrow hwhere own2 HU2 c2 h3 hG3
  go_wp2_with fail
  refine (unhide C3).mono ?_
  rintro e w4 ⟨v4, rfl, hU4⟩
  have h4 := (unhide HU3).trans hU4
  have hG4 := (unhide H0).quiet h4.fresh
  obtain ⟨L, hL⟩ : ∃ L, L = [] ++ seq8 T.nx ++ [T.aux] ++ nameB T.name := ⟨_, rfl⟩
  have hLl : L.length ≤ 20 := by rw [hL]; simp [seq8_len, nameB_len]; omega
  rw [← hL] at h4
  have own4 : w4.ownsRow 0 5 1 v4 _ _ := h4.own
  obtain ⟨a4, k4, rfl⟩ := ownsRow_shape h4.own
  have hs4 := h4.ho.size
  have hne : (Value.slice a4 L.length k4).ownBlock ≠ some g := fun e => by
    rcases h4.hb g e with e | e
    · simp [Value.ownBlock] at e
    · omega
  have k0 : Only (fun _ => False) w4 (w4.alloc (.cells #[.int .u8 (T.at_ : Int), .int .u8 (T.mg : Int), .int .u8 (T.nb : Int)] 5)).drew := ((Only.refl _ w4).alloc _).drew
  have hG5 := hG4.quiet k0
  have d1 := hG5.at__.1
  have d2 := hG5.mg_.1
  have d3 := hG5.nb_.1
  have hGd := hG4.quiet (Only.refl (fun _ => False) w4).drew
  have e1 := hGd.at__.1
  have e2 := hGd.mg_.1
  have e3 := hGd.nb_.1
  have e1' := hG4.at__.1
  have e2' := hG4.mg_.1
  have e3' := hG4.nb_.1
  have hg4 := hG4.lt
  have HG4 := hide hG4
  have H4 := hide h4
  have HL := hide hL
  have l5 : L.length + 3 ≤ maxLen := by unfold maxLen; omega
  clear C3 hU4 hG4 h4 HU3 c3 hGd hG5 k0 hL
  go_upto_region 5 with fail
  go_region_held3 (fun w' => w'.cell? ⟨g, 354, none⟩ = some (.int .i64 (T.at_ : Int)) ∧ w'.cell? ⟨g, 355, none⟩ = some (.int .i64 (T.mg : Int)) ∧ w'.cell? ⟨g, 352, none⟩ = some (.int .i64 (T.nb : Int))) (first | exact ⟨e1', e2', e3'⟩ | exact ⟨e1, e2, e3⟩ | exact ⟨d1, d2, d3⟩ | exact ⟨y1, y2, y3⟩)
    ((refine step_append_lies _ (by rfl) _ _ _ (by rfl) 0 5 j0 _ 1 1 Tryz.underlying90 hj0 hy0 hy1 hy2 rfl (by omega) (.slice a4 L.length k4) L.length (uV L) (by rfl) ((own4.alloc _).drew) ⟨w4.heap.size, 0, none⟩ 3 3 (uV [T.at_, T.mg, T.nb]) (by rfl) (by rfl) (World.news_of_block (cs := #[.int .u8 (T.at_ : Int), .int .u8 (T.mg : Int), .int .u8 (T.nb : Int)]) (t := 5) (fr := (0, 0)) (heap_alloc_new w4 _)) (by simp [Value.oneCell', uV]) (by omega) l5 (by omega) (by simp) (w4.heap.size + 1) (by simp) ?_; intro gg cap w3 hown1 hgrow hat hlt3; have y1 := (hgrow.cell_far ⟨g, 354, none⟩ (by simp; omega) (Ne.symm hne)).trans d1; have y2 := (hgrow.cell_far ⟨g, 355, none⟩ (by simp; omega) (Ne.symm hne)).trans d2; have y3 := (hgrow.cell_far ⟨g, 352, none⟩ (by simp; omega) (Ne.symm hne)).trans d3))
  have oG : Only (fun y => (Value.slice a4 L.length k4).ownBlock = some y) w4 w3 := ((Only.refl (fun y => (Value.slice a4 L.length k4).ownBlock = some y) w4).alloc _).drew.grown hgrow (fun y hy _ => hy)
  have hU5 : UI w4 (.slice a4 L.length k4) (.slice (some ⟨gg, 0, none⟩) (L.length + 3) cap) (L ++ [T.at_, T.mg, T.nb]) w3 := by
    refine ⟨?_, fun y hy => ?_, oG⟩
    · unfold OwnU
      rw [← uV_app, List.length_append]
      exact hown1
    · simp [Value.ownBlock] at hy
      subst hy
      rcases hat with e | e
      · exact .inl e
      · exact .inr (by omega)
  have h5 := (unhide H4).trans hU5
  have H5 := hide h5
  have hLs : seq8 T.nx ++ T.aux :: nameB T.name = L := by rw [unhide HL]; simp
  have HLs := hide hLs
  clear hown1 hgrow hat hlt3 y1 y2 y3 oG hU5 h5 own4 hne e1 e2 e3 e1' e2' e3' d1 d2 d3 H4 HG4 HL hLs hg4
  generalize hM : L ++ [T.at_, T.mg, T.nb] = M at *
  have hMl : M.length ≤ 23 := by rw [← hM]; simp; omega
  have HM := hide hM
  clear hM
  go_wp2_with fail
  go_loopw [3, 4] (fun ov iv wr => ∃ i : Nat, iv = .int .i64 i ∧ i ≤ T.nb ∧ UI w (.slice none 0 0) ov (M ++ (T.bs.take i).flatMap bdat) wr) (fun _ iv _ => T.nb - (intOf iv).toNat)
  case atStart => exact ⟨0, rfl, by omega, by simpa using unhide H5⟩
  case round =>
    clear H5
    obtain ⟨i, rfl, hi, hI⟩ := hrel
    have hG := (unhide H0).quiet hI.fresh
    have b0 := hG.nb_.1
    by_cases hil : i < T.nb
    · have a1 : decide ((i : Int) < (T.nb : Int)) = true := decide_eq_true (by omega)
      have a1n : decide (i < T.nb) = true := decide_eq_true hil
      have a2 : (i : Int) < 4 := by omega
      have b1 := (hG.brn i (by omega)).1
      obtain ⟨hn6, hid⟩ := (unhide HR).bn i hil
      have hsn := bs_take T hil
      have hlen : (M ++ (T.bs.take i).flatMap bdat).length ≤ 1000 := by
        have q := bdat_len (T.bs.take i) (fun b hb => by
          obtain ⟨k, hk, rfl⟩ := mem_bs.1 (List.mem_of_mem_take hb)
          exact ((unhide HR).bn k hk).1)
        rw [List.length_take, bs_len] at q
        rw [List.length_append]
        omega
      have C6 := hide (putName_any hI.own (T.b i).name (by omega) (by omega))
      obtain ⟨oa, oc, rfl⟩ := ownsRow_shape hI.own
      have HI := hide hI
      have Hsn := hide hsn
      clear hI hsn hG
      generalize hL2 : M ++ (T.bs.take i).flatMap bdat = L2 at *
      have HL2 := hide hL2
      clear hL2
      go_wp2_with fail
      refine (unhide C6).mono ?_
      rintro e w6 ⟨v6, rfl, hU6⟩
      have h6 := (unhide HI).trans hU6
      have hG6 := (unhide H0).quiet h6.fresh
      have b2 := (hG6.bri i (by omega)).1
      have x6 : IntKind.u8.wrap ((T.b i).id : Int) = ((T.b i).id : Int) := by rw [IntKind.wrap_u8]; omega
      have hlen6 : (L2 ++ nameB (T.b i).name).length ≤ 1010 := by rw [List.length_append, nameB_len]; omega
      have own6 : w6.ownsRow 0 5 1 v6 _ _ := h6.own
      obtain ⟨a6, k6, rfl⟩ := ownsRow_shape h6.own
      have H6 := hide h6
      clear C6 hU6 h6 hG6 HI b1
      generalize hL3 : L2 ++ nameB (T.b i).name = L3 at *
      have HL3 := hide hL3
      clear hL3
      go_wp2_with (at_builtin; refine wpList_append2 _ rfl _ _ 90 rfl 5 j0 _ 1 1 Tryz.underlying90 hj0 hy0 hy1 hy2 rfl (by decide) _ _ _ rfl (own6.alloc _) ⟨w6.heap.size, 0, none⟩ 1 1 (uV [(T.b i).id]) rfl rfl ?d1 ?d2 ?d3 ?d4 ?_)
      try (case d1 => exact news_ok _ _ _ _ rfl)
      case d2 => intro u hu; simp [uV] at hu; subst hu; rfl
      case d3 => unfold maxLen; omega
      case d4 => omega
      intro v7 w7 hown hgrow hwhere
      have h7 := (unhide H6).push (m := [(T.b i).id]) hown rfl hgrow hwhere
      have H7 := hide h7
      clear hown hgrow hwhere own6 H6 h7 b2
      go_wp2_with fail
      go_roundw
      case rel => exact ⟨i + 1, by go_num, by omega, by
        rw [unhide Hsn, ← List.append_assoc, unhide HL2, ← List.append_assoc, unhide HL3]
        exact unhide H7⟩
      case measure => simp [intOf]; omega
    · have a1 : decide ((i : Int) < (T.nb : Int)) = false := decide_eq_false (by omega)
      have a1n : decide (i < T.nb) = false := decide_eq_false hil
      have e1 : i = T.nb := by omega
      have ht : T.bs.take i = T.bs := by rw [e1, ← bs_len T, List.take_length]
      rw [ht] at hI
      have HI := hide hI
      clear hI ht hG
      go_wp2_with fail
      go_ret
      refine ⟨_, rfl, ?_⟩
      have q := (unhide HI).made
      have e2 : M ++ T.bs.flatMap bdat = rdat T := by
        rw [← unhide HM, ← unhide HLs]
        simp [rdat]
      rw [e2] at q
      exact q
end Go.Proofs.Qxb6500417aGreat
