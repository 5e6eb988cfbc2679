/-
  OWN WORK. THE GRAPH: the bytes of a commit.
-/
import Derived.Test.Qxb6500417aGreatGCod
import Derived.Test.Qxb6500417aGreatGMm
namespace Go.Proofs.Qxb6500417aGreat
open Go.RowKit Go.PlainAid
set_option linter.unusedSimpArgs false
set_option linter.unusedVariables false

def crV (r : Cr) : Value := .agg #[.bool r.used, .int .i64 (r.seq : Int), .int .i64 (r.tree : Int), .int .i64 (r.np : Int), .int .i64 (r.p0 : Int), .int .i64 (r.p1 : Int)]
def crA (r : Cr) : Array Value := #[.bool r.used, .int .i64 (r.seq : Int), .int .i64 (r.tree : Int), .int .i64 (r.np : Int), .int .i64 (r.p0 : Int), .int .i64 (r.p1 : Int)]
theorem OwnU.nil (w : World) : OwnU w (.slice none 0 0) [] := World.ownsRow_nil _ _ _ _
/-- Bytes that were made. -/
structure UM (w : World) (v : Value) (l : List Nat) (w' : World) : Prop where
  own : OwnU w' v l
  hb : ∀ y, v.ownBlock = some y → w.heap.size ≤ y
  ho : Only (fun _ => False) w w'
theorem UI.made {w w1 : World} {v : Value} {l : List Nat} (h : UI w (.slice none 0 0) v l w1) : UM w v l w1 :=
  ⟨h.own, fun y hy => by
    rcases h.hb y hy with e | e
    · simp [Value.ownBlock] at e
    · exact e, h.ho.mono (fun y _ hy => by simp [Value.ownBlock] at hy)⟩
def parN (r : Cr) (i : Nat) : Nat := if i = 0 then r.p0 else r.p1
theorem pars_take {r : Cr} (h : r.np ≤ 2) {i : Nat} (hi : i < r.np) : r.pars.take (i + 1) = r.pars.take i ++ [parN r i] := by
  have hl := r.pars_len h
  have hl' : i < r.pars.length := by omega
  rw [List.take_succ_eq_append_getElem hl']
  congr 2
  unfold parN
  by_cases h1 : r.np = 1
  · have : i = 0 := by omega
    subst this
    simp [Cr.pars, h1]
  · have h2 : r.np = 2 := by omega
    have e : r.pars = [r.p0, r.p1] := by simp [Cr.pars, h2]
    have hi2 : i = 0 ∨ i = 1 := by omega
    rcases hi2 with rfl | rfl
    · simp [e]
    · simp [e]
theorem parCell {w : World} {k : Nat} {r : Cr} (h : Has w k (crA r) 82) (i : Nat) (hi : i < 2) : w.cell? ⟨k, 4 + i, none⟩ = some (.int .i64 (parN r i : Int)) := by
  have hi2 : i = 0 ∨ i = 1 := by omega
  rcases hi2 with rfl | rfl
  · rw [h.cell]; rfl
  · rw [h.cell]; rfl
set_option maxRecDepth 100000 in
set_option maxHeartbeats 2000000 in
theorem commitBytes_any (r : Cr) (hr : r.Wf) (msg : ByteArray) (hm : msg.size ≤ 16) (w : World) :
    Calls Tryz.prog 141 #[crV r, .string msg] w fun e w' => ∃ v', e = .returned v' ∧ UM w v' (cdat r msg) w' := by
  obtain ⟨j0, hj0, hy0, hy1, hy2⟩ := info_parts Tryz.tinfoU8
  have hA : Has (w.alloc (.cells (crA r) 82)) w.heap.size (crA r) 82 := Has.new w _ _
  have oA : Only (fun _ => False) w (w.alloc (.cells (crA r) 82)) := (Only.refl _ w).alloc _
  have C1 := hide (putSeq_any (OwnU.nil (w.alloc (.cells (crA r) 82))) r.seq hr.sq (by simp))
  have c1 := hA.cell 1
  have hp2 := hr.np
  have hq0 := hr.q0
  have hq1 := hr.q1
  have htr := hr.tr
  have hbt := get_bt msg
  have hbl := byL_len msg
  have w1 : IntKind.u8.wrap (r.tree : Int) = (r.tree : Int) := by rw [IntKind.wrap_u8]; omega
  have w2 : IntKind.u8.wrap (r.np : Int) = (r.np : Int) := by rw [IntKind.wrap_u8]; omega
  have HA := hide hA
  have OA := hide oA
  have hpl := r.pars_len hp2
  have Hr := hide hr
  unfold crA at c1 C1
  unfold crV
  clear hA oA hr
  go_enter Tryz.func141, Tryz.ntmps141
  go_wp2_with fail
  refine (unhide C1).mono ?_
  rintro e w2 ⟨v2, rfl, hU2⟩
  have hA2 := (unhide HA).keep (hU2.ho.mono (T := fun _ => False) (fun y _ hy => by simp [Value.ownBlock] at hy)) (fun h => h)
  have c2 := hA2.cell 2
  have c3 := hA2.cell 3
  have own2 : w2.ownsRow 0 5 1 v2 _ _ := hU2.own
  obtain ⟨a2, k2, rfl⟩ := ownsRow_shape hU2.own
  have HU2 := hide hU2
  have HA2 := hide hA2
  have hlen2 : ([] ++ seq8 r.seq).length = 8 := by simp [seq8_len]
  rw [hlen2] at own2 HU2
  unfold crA at c2 c3
  clear C1 hA2 hU2 c1
  rw [hlen2]
  clear hlen2
  go_wp2_with (at_builtin; refine wpList_append2 _ rfl _ _ 90 rfl 5 j0 _ 1 1 Tryz.underlying90 hj0 hy0 hy1 hy2 rfl (by decide) _ _ _ rfl (own2.alloc _) ⟨w2.heap.size, 0, none⟩ 2 2 (uV [r.tree, r.np]) rfl rfl ?d1 ?d2 ?d3 ?d4 ?_)
  try (case d1 => exact news_ok _ _ _ _ rfl)
  case d2 => intro u hu; simp [uV] at hu; rcases hu with rfl | rfl <;> rfl
  case d3 => unfold maxLen; omega
  case d4 => omega
  intro v3 w3 hown hgrow hwhere
  have h3' := (unhide HU2).push (m := [r.tree, r.np]) hown rfl hgrow hwhere
  have hm3 := h3'.made
  have H3 := hide h3'
  have HA3 : Hid (Has w3 w.heap.size (crA r) 82) := hide (by
    have := (unhide HA2)
    have := (unhide HU2).ho.size
    refine (unhide HA).keep hm3.ho (fun h => h))
  clear hown hgrow hwhere own2 HU2 HA2 h3' hm3 c2 c3 HA
  have hL0 : ([] ++ seq8 r.seq) ++ [r.tree, r.np] = seq8 r.seq ++ [r.tree, r.np] := by simp
  rw [hL0] at H3
  clear hL0
  generalize hW : w.alloc (.cells #[.bool r.used, .int .i64 (r.seq : Int), .int .i64 (r.tree : Int), .int .i64 (r.np : Int), .int .i64 (r.p0 : Int), .int .i64 (r.p1 : Int)] 82) = wA at *
  go_wp2_with fail
  go_loopw [5, 6] (fun ov iv wr => ∃ i : Nat, iv = .int .i64 i ∧ i ≤ r.np ∧ UI wA (.slice none 0 0) ov ((seq8 r.seq ++ [r.tree, r.np]) ++ r.pars.take i) wr ∧ Has wr w.heap.size (crA r) 82) (fun _ iv _ => r.np - (intOf iv).toNat)
  case atStart => exact ⟨0, rfl, by omega, by simpa using unhide H3, unhide HA3⟩
  case round =>
    clear H3 HA3
    obtain ⟨i, rfl, hi, hI, hA⟩ := hrel
    have b3 := hA.cell 3
    have HA := hide hA
    unfold crA at b3
    by_cases hil : i < r.np
    · have a1 : decide ((i : Int) < (r.np : Int)) = true := decide_eq_true (by omega)
      have a1n : decide (i < r.np) = true := decide_eq_true hil
      have a2 : (i : Int) < 2 := by omega
      have b4 := parCell hA i (by omega)
      have hsn := pars_take hp2 hil
      have hpp : parN r i ≤ 48 := by unfold parN; split <;> omega
      have hw8 : IntKind.u8.wrap (parN r i : Int) = (parN r i : Int) := by rw [IntKind.wrap_u8]; omega
      have hlen : ((seq8 r.seq ++ [r.tree, r.np]) ++ r.pars.take i).length ≤ 20 := by simp [seq8_len]; omega
      have own2 : wr.ownsRow 0 5 1 _ _ _ := hI.own
      obtain ⟨oa, oc, rfl⟩ := ownsRow_shape hI.own
      have HI := hide hI
      have Hsn := hide hsn
      clear hI hsn hA
      generalize hL : (seq8 r.seq ++ [r.tree, r.np]) ++ r.pars.take i = L at *
      generalize hP : parN r i = pp at *
      have HL := hide hL
      have HP := hide hP
      clear hL hP
      go_wp2_with (at_builtin; refine wpList_append2 _ rfl _ _ 90 rfl 5 j0 _ 1 1 Tryz.underlying90 hj0 hy0 hy1 hy2 rfl (by decide) _ _ _ rfl (own2.alloc _) ⟨wr.heap.size, 0, none⟩ 1 1 (uV [pp]) rfl rfl ?d1 ?d2 ?d3 ?d4 ?_)
      try (case d1 => exact news_ok _ _ _ _ rfl)
      case d2 => intro u hu; simp [uV] at hu; subst hu; rfl
      case d3 => unfold maxLen; omega
      case d4 => omega
      intro v2 w2 hown hgrow hwhere
      have h2' := (unhide HI).push (m := [pp]) hown rfl hgrow hwhere
      have HA2 : Hid (Has w2 w.heap.size (crA r) 82) := hide (by
        have e1 := ((Only.refl (fun y => (Value.slice oa L.length oc).ownBlock = some y) wr).alloc _).grown hgrow (fun y hy _ => hy)
        refine (unhide HA).keep e1 (fun e => ?_)
        rcases (unhide HI).hb _ e with e | e
        · simp [Value.ownBlock] at e
        · rw [← hW] at e
          simp at e
          omega)
      have H2 := hide h2'
      clear hown hgrow hwhere own2 HI h2' HA b4 b3
      go_wp2_with fail
      go_roundw
      case rel => exact ⟨i + 1, by go_num, by omega, by rw [unhide Hsn, ← List.append_assoc, unhide HL]; exact unhide H2, unhide HA2⟩
      case measure => simp [intOf]; omega
    · have a1 : decide ((i : Int) < (r.np : Int)) = false := decide_eq_false (by omega)
      have a1n : decide (i < r.np) = false := decide_eq_false hil
      have e1 : i = r.np := by omega
      have ht : r.pars.take i = r.pars := by rw [e1, ← hpl, List.take_length]
      rw [ht] at hI
      have HI := hide hI
      clear hI ht hA HA
      go_wp2_with fail
      go_loopw [5, 7] (fun ov iv wr => ∃ i : Nat, iv = .int .i64 i ∧ i ≤ msg.size ∧ UI wA (.slice none 0 0) ov ((seq8 r.seq ++ [r.tree, r.np] ++ r.pars) ++ (byL msg).take i) wr) (fun _ iv _ => msg.size - (intOf iv).toNat)
      case atStart => exact ⟨0, rfl, by omega, by simpa using unhide HI⟩
      case round =>
        clear HI b3 e1 hil hi a1 a1n
        obtain ⟨i, rfl, hi, hI⟩ := hrel
        by_cases hil : i < msg.size
        · have a1 : decide ((i : Int) < (msg.size : Int)) = true := decide_eq_true (by omega)
          have a1n : decide (i < msg.size) = true := decide_eq_true hil
          have a2 : (i : Int) < (msg.size : Int) := by omega
          obtain ⟨c, hc, hsn⟩ := byL_take msg i hil
          have hlen : ((seq8 r.seq ++ [r.tree, r.np] ++ r.pars) ++ (byL msg).take i).length ≤ 1000000 + 3 + 256 := by simp [seq8_len]; omega
          have own2 : wr.ownsRow 0 5 1 _ _ _ := hI.own
          obtain ⟨oa, oc, rfl⟩ := ownsRow_shape hI.own
          have HI := hide hI
          have Hsn := hide hsn
          clear hI hsn
          generalize hL : (seq8 r.seq ++ [r.tree, r.np] ++ r.pars) ++ (byL msg).take i = L at *
          have HL := hide hL
          clear hL
          go_wp2_with (at_builtin; refine wpList_append2 _ rfl _ _ 90 rfl 5 j0 _ 1 1 Tryz.underlying90 hj0 hy0 hy1 hy2 rfl (by decide) _ _ _ rfl (own2.alloc _) ⟨wr.heap.size, 0, none⟩ 1 1 (uV [c.toNat]) rfl rfl ?d1 ?d2 ?d3 ?d4 ?_)
          try (case d1 => exact news_ok _ _ _ _ rfl)
          case d2 => intro u hu; simp [uV] at hu; subst hu; rfl
          case d3 => unfold maxLen; omega
          case d4 => omega
          intro v2 w2 hown hgrow hwhere
          have h2' := (unhide HI).push (m := [c.toNat]) hown rfl hgrow hwhere
          have H2 := hide h2'
          clear hown hgrow hwhere own2 HI h2'
          go_wp2_with fail
          go_roundw
          case rel => exact ⟨i + 1, by go_num, by omega, by rw [unhide Hsn, ← List.append_assoc, unhide HL]; exact unhide H2⟩
          case measure => simp [intOf]; omega
        · have a1 : decide ((i : Int) < (msg.size : Int)) = false := decide_eq_false (by omega)
          have a1n : decide (i < msg.size) = false := decide_eq_false hil
          have e1 : i = msg.size := by omega
          have ht : (byL msg).take i = byL msg := by rw [e1, ← hbl, List.take_length]
          rw [ht] at hI
          have HI := hide hI
          clear hI ht
          go_wp2_with fail
          go_ret
          refine ⟨_, rfl, ?_⟩
          have q := (unhide HI).made
          have e2 : seq8 r.seq ++ [r.tree, r.np] ++ r.pars ++ byL msg = cdat r msg := by simp [cdat]
          rw [e2] at q
          have oa := unhide OA
          have hs := oa.size
          unfold crA at oa hs
          rw [hW] at oa hs
          exact ⟨q.own, fun y hy => by have := q.hb y hy; omega, oa.trans q.ho (fun _ _ h => h)⟩
end Go.Proofs.Qxb6500417aGreat
