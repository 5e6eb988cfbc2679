/-
  OWN WORK. THE PAGER's Resident, and what the law reads out of it: Front, Small.
-/
import Derived.Test.Qxb6500411aGreatPgSee
namespace Go.Proofs.Qxb6500411aGreat
open Go.RowKit
set_option linter.unusedSimpArgs false
set_option linter.unusedVariables false

def resL (fr : List Frame) (ord : List Nat) : List Value := (ord.filter (fun o => (fa fr o).valid)).map (fun o => .int .i64 ((fa fr o).page : Int))

theorem Tryz.infoInt5 : (Tryz.prog.info? 3).map (fun i => (i.zero, i.size, i.bytes)) = some (some (.int .i64 0), 1, 8) := by kernel_rfl
theorem run_make_res (w : World) :
    (Instr.makeSlice 95 (.int .i64 0) (.int .i64 5)).run Tryz.prog w = .ok (.slice (some ⟨w.heap.size, 0, none⟩) 0 5) (w.alloc (.cells #[.int .i64 0, .int .i64 0, .int .i64 0, .int .i64 0, .int .i64 0] 3)) := by
  obtain ⟨i, hi, hz, hs, hb⟩ := info_parts Tryz.infoInt5
  have := run_make (P := Tryz.prog) w 95 3 i _ Tryz.underlying95 hi hz .i64 .i64 0 5 (by omega) (by omega) (by omega) (by omega)
  rw [this]
  simp [hs, Value.cells, madeCells_one]
  rfl

theorem resL_succ (fr : List Frame) (ord : List Nat) (k : Nat) (hk : k < ord.length) : resL fr (ord.take (k + 1)) = if (fa fr ord[k]).valid then resL fr (ord.take k) ++ [.int .i64 ((fa fr ord[k]).page : Int)] else resL fr (ord.take k) := by
  unfold resL
  rw [List.take_succ_eq_append_getElem hk, List.filter_append, List.map_append]
  cases h : (fa fr ord[k]).valid <;> simp [h]
theorem resL_le (fr : List Frame) (ord : List Nat) : (resL fr ord).length ≤ ord.length := by
  unfold resL
  rw [List.length_map]
  exact List.length_filter_le _ _

set_option maxRecDepth 100000 in
set_option maxHeartbeats 1000000 in
theorem president_any {w : World} {p l : Nat} {op : Bool} {fr : List Frame} {ord : List Nat} (h : PAt w p l op fr ord) (hin : ∀ x ∈ ord, x < 5) :
    Calls Tryz.prog 84 #[.pointer (some ⟨p, 0, Option.none⟩)] w fun e w' => ∃ v, e = .returned v ∧ w'.ownsRow 0 3 1 v (resL fr ord).length (resL fr ord) ∧ Only (fun _ => False) w w' := by
  have hmk := run_make_res
  have lo := h.lo
  have hpl := h.has.lt
  obtain ⟨i0, hi0, hz0, hz1, hz2⟩ := info_parts Tryz.infoInt5
  go_enter Tryz.func84, Tryz.ntmps84
  go_wp2_with fail
  go_loopw [3, 4] (fun r i wr => ∃ k : Nat, k ≤ 5 ∧ i = .int .i64 k ∧ wr.ownsRow 0 3 1 r (resL fr (ord.take k)).length (resL fr (ord.take k)) ∧ Only (fun _ => False) w wr ∧ (∀ b, r.ownBlock = some b → w.heap.size ≤ b)) (fun _ i _ => (5 - intOf i).toNat)
  case atStart =>
    refine ⟨0, by omega, rfl, ⟨by simp [resL], .inr ⟨_, _, #[.int .i64 0, .int .i64 0, .int .i64 0, .int .i64 0, .int .i64 0], rfl, by omega, heap_alloc_new w _, by simp [resL], by decide, by simp, by simp [resL]⟩⟩, (Only.refl _ w).alloc _, fun b hb => ?_⟩
    simp [Value.ownBlock] at hb
    omega
  case round =>
    obtain ⟨k, hk, rfl, hown, ho, hb⟩ := hrel
    by_cases hk5 : k < 5
    · have h1 := h.keep ho (fun h => h)
      have q0 := h1.has.cell (22 + k)
      rw [pcells_ord k h1.lf h1.lo hk5] at q0
      have hf5 : ord[k]'(by omega) < 5 := hin _ (List.getElem_mem _)
      have hsucc := resL_succ fr ord k (by omega)
      generalize ord[k]'(by omega) = f at *
      obtain ⟨r0, r1, _⟩ := h1.cells4 f hf5
      have hll := resL_le fr (ord.take k)
      rw [List.length_take] at hll
      generalize (fa fr f).valid = vl at *
      generalize (fa fr f).page = pg at *
      have Hs := hide hsucc
      clear hsucc
      have hsz := ho.size
      cases vl with
      | false =>
        have Hb := hide hb
        have Hown := hide hown
        clear hb hown
        go_wp2_with fail
        go_roundw
        case rel =>
          refine ⟨k + 1, by omega, by go_num, ?_, ho, unhide Hb⟩
          have := unhide Hs
          simp at this
          rw [this]
          exact unhide Hown
        case measure => simp [intOf]; omega
      | true =>
        have Hb := hide hb
        clear hb
        go_wp2_with (at_builtin; refine wpList_append2 _ rfl _ _ 95 rfl 3 i0 _ 1 8 Tryz.underlying95 hi0 hz0 hz1 hz2 rfl (by decide) _ _ _ rfl (hown.alloc _) ⟨wr.heap.size, 0, none⟩ 1 1 [.int .i64 (pg : Int)] rfl rfl ?c1 ?c2 ?c3 ?c4 ?_)
        try (case c1 => exact news_ok _ _ _ _ rfl)
        case c2 => first | rfl | (intro u hu; simp at hu; subst hu; rfl)
        case c3 => first | omega | (unfold maxLen; omega)
        case c4 => omega
        intro v' w4 hown' hgrow hwhere
        have Hw := hide hwhere
        have Ho := hide hown'
        have o4 : Only (fun _ => False) w w4 := (ho.alloc _).grown hgrow (fun b hb hlt => by have := unhide Hb b hb; omega)
        clear hwhere hown'
        go_wp2_with fail
        go_roundw
        case rel =>
          refine ⟨k + 1, by omega, by go_num, ?_, o4, ?_⟩
          · have := unhide Hs
            simp at this
            rw [this, List.length_append]
            exact unhide Ho
          · intro b hb'
            rcases unhide Hw b hb' with e | e
            · exact unhide Hb b e
            · try simp at e
              omega
        case measure => simp [intOf]; omega
    · obtain rfl : k = 5 := by omega
      rw [List.take_of_length_le (by omega)] at hown
      have Hown := hide hown
      clear hown
      go_wp2_with fail
      go_ret
      exact ⟨_, rfl, unhide Hown, ho⟩

section
variable {w : World} {p l d : Nat} {blk base : List ByteArray} {recs : List (Nat × ByteArray)} {op : Bool} {com view : List ByteArray} {F G : Nat → Prop}

set_option maxRecDepth 100000 in
theorem small_any (h : PG w p l d blk base recs op com view F G) :
    Calls Tryz.prog 49 #[.pointer (some ⟨p, 0, none⟩)] w fun e w' => e = .returned (.bool true) ∧ Only (fun _ => False) w w' := by
  obtain ⟨⟨fr, ord, cur, h1, h2, h3⟩, a, b⟩ := h
  have C1 := hide (president_any h1 h3.oin)
  have hll := resL_le fr ord
  rw [h3.lo] at hll
  generalize resL fr ord = R at *
  go_enter Tryz.func49, Tryz.ntmps49
  go_wp2_with fail
  refine (unhide C1).mono ?_
  rintro e w1 ⟨v, rfl, hown, ho⟩
  obtain ⟨a, cap, rfl⟩ := ownsRow_shape hown
  have hle : decide ((R.length : Int) ≤ 5) = true := by simp; omega
  go_wp2_with fail
  go_ret
  exact ⟨by first | exact rfl | simp, ho⟩

set_option maxRecDepth 100000 in
theorem front_any {n : Nat} (h : PGf w p l d blk base recs op com view F G n) :
    Calls Tryz.prog 69 #[.pointer (some ⟨p, 0, none⟩), .int .i64 n] w fun e w' => e = .returned (.bool true) ∧ Only (fun _ => False) w w' := by
  obtain ⟨⟨fr, ord, cur, h1, h2, h3, h4⟩, a, b⟩ := h
  have C1 := hide (president_any h1 h3.oin)
  have hR : ∃ t, resL fr ord = .int .i64 (n : Int) :: t := by
    obtain ⟨hv, hp⟩ := h4
    have lo := h3.lo
    match ord, lo with
    | o :: r, _ =>
      simp only [List.getD_cons_zero] at hv hp
      exact ⟨_, by unfold resL; rw [List.filter_cons_of_pos (by simpa using hv), List.map_cons, hp]⟩
  obtain ⟨t, hR⟩ := hR
  rw [hR] at C1
  clear hR
  go_enter Tryz.func69, Tryz.ntmps69
  go_wp2_with fail
  refine (unhide C1).mono ?_
  rintro e w1 ⟨v, rfl, hown, ho⟩
  rcases hown.2 with ⟨_, hz⟩ | ⟨g, cap, cur', rfl, _, hg, hc1, hc2, hcs, htk⟩
  · simp at hz
  have hg' : Has w1 g cur' 3 := hg
  have q := hg'.cell 0
  have q' : cur'[0]? = some (.int .i64 (n : Int)) := by
    have := congrArg (fun l : List Value => l[0]?) htk
    simpa [List.getElem?_take] using this
  rw [q'] at q
  clear q' htk hcs hg hg'
  have hlen : (List.length (Value.int IntKind.i64 (n : Int) :: t)) = t.length + 1 := rfl
  rw [hlen] at hc1
  rw [hlen]
  have hpos : decide (0 < ((t.length + 1 : Nat) : Int)) = true := by simp
  have hpos' : (0 : Int) < ((t.length + 1 : Nat) : Int) := by omega
  generalize t.length + 1 = m at *
  clear hlen hown
  go_wp2_with fail
  go_ret
  exact ⟨by first | exact rfl | simp, ho⟩
end
end Go.Proofs.Qxb6500411aGreat
