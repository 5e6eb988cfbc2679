/-
  OWN WORK. THE GRAPH: the bytes of its objects are laid: putSeq, putName, commitBytes.
-/
import Derived.Test.Qxb6500417aGreatGP1
import Derived.Test.Qxb6500417aGreatTRow
namespace Go.Proofs.Qxb6500417aGreat
open Go.RowKit Go.PlainAid
set_option linter.unusedSimpArgs false
set_option linter.unusedVariables false

theorem seq8_take (n i : Nat) (hi : i < 8) : (seq8 n).take (i + 1) = (seq8 n).take i ++ [n / 256 ^ i % 256] := by
  have hl : i < (seq8 n).length := by rw [seq8_len]; exact hi
  rw [List.take_succ_eq_append_getElem hl]
  simp [seq8]
set_option maxRecDepth 100000 in
set_option maxHeartbeats 2000000 in
theorem putSeq_any {w : World} {v : Value} {l : List Nat} (h : OwnU w v l) (n : Nat) (hn : n < 4611686018427387904) (hl : l.length ≤ 1000000) :
    Calls Tryz.prog 164 #[v, .int .i64 n] w fun e w' => ∃ v', e = .returned v' ∧ UI w v v' (l ++ seq8 n) w' := by
  obtain ⟨j0, hj0, hy0, hy1, hy2⟩ := info_parts Tryz.tinfoU8
  have H0 := hide (UI.start h)
  have cw : IntKind.u64.wrap (n : Int) = (n : Int) := by rw [IntKind.wrap_u64]; omega
  have hs8 := seq8_len n
  obtain ⟨va, vc, rfl⟩ := ownsRow_shape h
  clear h
  go_enter Tryz.func164, Tryz.ntmps164
  go_wp2_with fail
  go_loopw [0, 5, 6] (fun ov xv iv wr => ∃ i : Nat, iv = .int .i64 i ∧ i ≤ 8 ∧ xv = .int .u64 ((n / 256 ^ i : Nat) : Int) ∧ UI w (.slice va l.length vc) ov (l ++ (seq8 n).take i) wr) (fun _ _ iv _ => 8 - (intOf iv).toNat)
  case atStart => exact ⟨0, rfl, by omega, by simp, by simpa using unhide H0⟩
  case round =>
    clear H0
    obtain ⟨i, rfl, hi, rfl, hI⟩ := hrel
    by_cases hil : i < 8
    · have a1 : decide ((i : Int) < 8) = true := decide_eq_true (by omega)
      have a1n : decide (i < 8) = true := decide_eq_true hil
      have hsn := seq8_take n i hil
      have hp : n / 256 ^ (i + 1) = n / 256 ^ i / 256 := by rw [Nat.pow_succ, Nat.div_div_eq_div_mul]
      have hle : n / 256 ^ i ≤ n := Nat.div_le_self _ _
      have hlen : (l ++ (seq8 n).take i).length ≤ 1000000 + 8 := by simp; omega
      have own2 : wr.ownsRow 0 5 1 _ _ _ := hI.own
      obtain ⟨oa, oc, rfl⟩ := ownsRow_shape hI.own
      have HI := hide hI
      have Hsn := hide hsn
      have Hp := hide hp
      clear hI hsn hp
      generalize hL : l ++ (seq8 n).take i = L at *
      generalize hx : n / 256 ^ i = x at *
      have c8 : IntKind.u8.wrap (x : Int) = ((x % 256 : Nat) : Int) := by rw [IntKind.wrap_u8]; omega
      have HL := hide hL
      have Hx := hide hx
      clear hL hx
      go_wp2_with (at_builtin; refine wpList_append2 _ rfl _ _ 90 rfl 5 j0 _ 1 1 Tryz.underlying90 hj0 hy0 hy1 hy2 rfl (by decide) _ _ _ rfl (own2.alloc _) ⟨wr.heap.size, 0, none⟩ 1 1 (uV [x % 256]) rfl rfl ?d1 ?d2 ?d3 ?d4 ?_)
      try (case d1 => exact news_ok _ _ _ _ rfl)
      case d2 => intro u hu; simp [uV] at hu; subst hu; rfl
      case d3 => unfold maxLen; omega
      case d4 => omega
      intro v2 w2 hown hgrow hwhere
      have h2' := (unhide HI).push (m := [x % 256]) hown rfl hgrow hwhere
      have H2 := hide h2'
      clear hown hgrow hwhere own2 HI h2'
      go_wp2_with fail
      go_roundw
      case rel => exact ⟨i + 1, by go_num, by omega, by rw [unhide Hp]; go_num, by rw [unhide Hsn, ← List.append_assoc, unhide HL]; exact unhide H2⟩
      case measure => simp [intOf]; omega
    · have a1 : decide ((i : Int) < 8) = false := decide_eq_false (by omega)
      have a1n : decide (i < 8) = false := decide_eq_false hil
      have e1 : i = 8 := by omega
      subst e1
      have ht : (seq8 n).take 8 = seq8 n := by rw [← hs8, List.take_length]
      rw [ht] at hI
      have HI := hide hI
      clear hI ht
      go_wp2_with fail
      go_ret
      exact ⟨_, rfl, unhide HI⟩
theorem byL_take (s : ByteArray) (i : Nat) (hi : i < s.size) : ∃ c : UInt8, bt s i = (c.toNat : Int) ∧ (byL s).take (i + 1) = (byL s).take i ++ [c.toNat] := by
  obtain ⟨c, hc, hd⟩ := ls_at s i hi
  refine ⟨c, hc, ?_⟩
  have hl : i < (byL s).length := by rw [byL_len]; exact hi
  rw [List.take_succ_eq_append_getElem hl]
  congr 2
  have hl' : i < (ls s).length := by rw [ls_len]; exact hi
  rw [List.drop_eq_getElem_cons hl'] at hd
  have := (List.cons.inj hd).1
  rw [← this]
  simp [byL, ls]
set_option maxRecDepth 100000 in
set_option maxHeartbeats 2000000 in
theorem putName_any {w : World} {v : Value} {l : List Nat} (h : OwnU w v l) (s : ByteArray) (hn : s.size ≤ 255) (hl : l.length ≤ 1000000) :
    Calls Tryz.prog 165 #[v, .string s] w fun e w' => ∃ v', e = .returned v' ∧ UI w v v' (l ++ nameB s) w' := by
  obtain ⟨j0, hj0, hy0, hy1, hy2⟩ := info_parts Tryz.tinfoU8
  have H0 := hide (UI.start h)
  have own : w.ownsRow 0 5 1 v l.length (uV l) := h
  have c3 : IntKind.u8.wrap (s.size : Int) = (s.size : Int) := by rw [IntKind.wrap_u8]; omega
  have hbt := get_bt s
  have hbl := byL_len s
  obtain ⟨va, vc, rfl⟩ := ownsRow_shape h
  clear h
  go_enter Tryz.func165, Tryz.ntmps165
  go_wp2_with (at_builtin; refine wpList_append2 _ rfl _ _ 90 rfl 5 j0 _ 1 1 Tryz.underlying90 hj0 hy0 hy1 hy2 rfl (by decide) _ _ _ rfl (own.alloc _) ⟨w.heap.size, 0, none⟩ 1 1 (uV [s.size]) rfl rfl ?c1 ?c2 ?c3 ?c4 ?_)
  try (case c1 => exact news_ok _ _ _ _ rfl)
  case c2 => intro u hu; simp [uV] at hu; subst hu; rfl
  case c3 => unfold maxLen; omega
  case c4 => omega
  intro v1 w1 hown hgrow hwhere
  have h1' := (unhide H0).push (m := [s.size]) hown rfl hgrow hwhere
  have H1 := hide h1'
  clear hown hgrow hwhere own H0 h1'
  go_wp2_with fail
  go_loopw [0, 5] (fun ov iv wr => ∃ i : Nat, iv = .int .i64 i ∧ i ≤ s.size ∧ UI w (.slice va l.length vc) ov ((l ++ [s.size]) ++ (byL s).take i) wr) (fun _ iv _ => s.size - (intOf iv).toNat)
  case atStart => exact ⟨0, rfl, by omega, by simpa using unhide H1⟩
  case round =>
    clear H1
    obtain ⟨i, rfl, hi, hI⟩ := hrel
    by_cases hil : i < s.size
    · have a1 : decide ((i : Int) < (s.size : Int)) = true := decide_eq_true (by omega)
      have a1n : decide (i < s.size) = true := decide_eq_true hil
      have a2 : (i : Int) < (s.size : Int) := by omega
      obtain ⟨c, hc, hsn⟩ := byL_take s i hil
      have hlen : ((l ++ [s.size]) ++ (byL s).take i).length ≤ 1000000 + 3 + 256 := by simp; omega
      have own2 : wr.ownsRow 0 5 1 _ _ _ := hI.own
      obtain ⟨oa, oc, rfl⟩ := ownsRow_shape hI.own
      have HI := hide hI
      have Hsn := hide hsn
      clear hI hsn
      generalize hL : (l ++ [s.size]) ++ (byL s).take i = L at *
      have HL := hide hL
      clear hL
      go_wp2_with (at_builtin; refine wpList_append2 _ rfl _ _ 90 rfl 5 j0 _ 1 1 Tryz.underlying90 hj0 hy0 hy1 hy2 rfl (by decide) _ _ _ rfl (own2.alloc _) ⟨wr.heap.size, 0, none⟩ 1 1 (uV [c.toNat]) rfl rfl ?d1 ?d2 ?d3 ?d4 ?_)
      try (case d1 => exact news_ok _ _ _ _ rfl)
      case d2 => intro u hu; simp [uV] at hu; subst hu; rfl
      case d3 => unfold maxLen; omega
      case d4 => omega
      intro v2 w2 hown hgrow hwhere
      have h2' := (unhide HI).push (m := [c.toNat]) hown rfl hgrow hwhere
      have H2 := hide h2'
      clear hown hgrow hwhere own2 HI h2'
      go_wp2_with fail
      go_roundw
      case rel => exact ⟨i + 1, by go_num, by omega, by rw [unhide Hsn, ← List.append_assoc, unhide HL]; exact unhide H2⟩
      case measure => simp [intOf]; omega
    · have a1 : decide ((i : Int) < (s.size : Int)) = false := decide_eq_false (by omega)
      have a1n : decide (i < s.size) = false := decide_eq_false hil
      have e1 : i = s.size := by omega
      subst e1
      have ht : (byL s).take s.size = byL s := by rw [← hbl, List.take_length]
      rw [ht] at hI
      have HI := hide hI
      clear hI ht
      go_wp2_with fail
      go_ret
      refine ⟨_, rfl, ?_⟩
      have := unhide HI
      unfold nameB
      simpa using this
end Go.Proofs.Qxb6500417aGreat
