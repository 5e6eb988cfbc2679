/-
  OWN WORK. LINES OF TEXT: SplitLines.
-/
import Derived.Test.Qxb6500416aIApi4
namespace Go.Proofs.Qxb6500416a
open Go.RowKit Go.PlainAid
set_option linter.unusedSimpArgs false
set_option linter.unusedVariables false

def sb (l : Str) : ByteArray := ⟨l.toArray⟩
theorem ls_sb (l : Str) : ls (sb l) = l := by simp [ls, sb]
theorem sb_ls (s : ByteArray) : sb (ls s) = s := ls_inj (ls_sb _)
theorem sb_size (l : Str) : (sb l).size = l.length := by rw [← ls_len, ls_sb]
/-- The lines of a text, each with its end. -/
def splitS : Str → List Str
  | [] => []
  | c :: r => if c = 10 then [c] :: splitS r else match splitS r with
    | [] => [[c]]
    | l :: t => (c :: l) :: t
theorem splitS_line : ∀ (p r : Str), (10 : UInt8) ∉ p → splitS (p ++ 10 :: r) = (p ++ [10]) :: splitS r
  | [], r, _ => by simp [splitS]
  | c :: p, r, h => by
    have hc : ¬ c = 10 := fun e => h (by simp [e])
    have ih := splitS_line p r (fun e => h (by simp [e]))
    show (if c = 10 then [c] :: splitS (p ++ 10 :: r) else match splitS (p ++ 10 :: r) with | [] => [[c]] | l :: t => (c :: l) :: t) = _
    rw [if_neg hc, ih]
    rfl
theorem splitS_last : ∀ (p : Str), (10 : UInt8) ∉ p → p ≠ [] → splitS p = [p]
  | [], _, h => absurd rfl h
  | [c], h, _ => by
    have hc : ¬ c = 10 := fun e => h (by simp [e])
    simp [splitS, hc]
  | c :: d :: p, h, _ => by
    have hc : ¬ c = 10 := fun e => h (by simp [e])
    have ih := splitS_last (d :: p) (fun e => h (by simp at e; simp [e])) (by simp)
    show (if c = 10 then [c] :: splitS (d :: p) else match splitS (d :: p) with | [] => [[c]] | l :: t => (c :: l) :: t) = _
    rw [if_neg hc, ih]
/-- How far a split has come. -/
structure SpAt (s : Str) (out : List Str) (st i : Nat) : Prop where
  le : st ≤ i ∧ i ≤ s.length
  eq : splitS s = out ++ splitS (s.drop st)
  no : (10 : UInt8) ∉ (s.drop st).take (i - st)
  len : out.length ≤ st
theorem SpAt.start (s : Str) : SpAt s [] 0 0 := ⟨⟨by omega, by omega⟩, by simp, by simp, by simp⟩
theorem take_at {s : Str} {st i : Nat} (h1 : st ≤ i) (h2 : i < s.length) : (s.drop st).take (i + 1 - st) = (s.drop st).take (i - st) ++ [s[i]] := by
  have e : i + 1 - st = (i - st) + 1 := by omega
  have hl : i - st < (s.drop st).length := by simp; omega
  rw [e, List.take_succ_eq_append_getElem hl]
  congr 2
  rw [List.getElem_drop]
  congr 1
  omega
theorem SpAt.skip {s : Str} {out : List Str} {st i : Nat} (h : SpAt s out st i) (hi : i < s.length) (hne : s[i] ≠ 10) : SpAt s out st (i + 1) := by
  obtain ⟨⟨a, b⟩, e, n, l⟩ := h
  refine ⟨⟨by omega, by omega⟩, e, ?_, l⟩
  rw [take_at a hi]
  simp only [List.mem_append, List.mem_singleton]
  rintro (h | h)
  · exact n h
  · exact hne h.symm
theorem SpAt.line {s : Str} {out : List Str} {st i : Nat} (h : SpAt s out st i) (hi : i < s.length) (he : s[i] = 10) : SpAt s (out ++ [(s.drop st).take (i + 1 - st)]) (i + 1) (i + 1) := by
  obtain ⟨⟨a, b⟩, e, n, l⟩ := h
  have hd : s.drop st = (s.drop st).take (i - st) ++ 10 :: s.drop (i + 1) := by
    have h1 := (List.take_append_drop (i - st) (s.drop st)).symm
    rw [List.drop_drop] at h1
    have e2 : st + (i - st) = i := by omega
    rw [e2, List.drop_eq_getElem_cons hi, he] at h1
    exact h1
  refine ⟨⟨by omega, by omega⟩, ?_, by simp, by simp; omega⟩
  rw [e, List.append_assoc]
  congr 1
  have key := splitS_line _ (s.drop (i + 1)) n
  rw [← hd] at key
  rw [key, take_at a hi, he]
  rfl
theorem SpAt.fin0 {s : Str} {out : List Str} {st : Nat} (h : SpAt s out st s.length) (hs : ¬ st < s.length) : splitS s = out := by
  rw [h.eq, List.drop_eq_nil_of_le (by omega)]
  simp [splitS]
theorem SpAt.fin1 {s : Str} {out : List Str} {st : Nat} (h : SpAt s out st s.length) (hs : st < s.length) : splitS s = out ++ [s.drop st] := by
  have n := h.no
  rw [List.take_of_length_le (by simp)] at n
  rw [h.eq, splitS_last _ n (by intro e; have := congrArg List.length e; simp at this; omega)]
set_option maxRecDepth 100000 in
set_option maxHeartbeats 1000000 in
theorem splitLines_any (s : ByteArray) (hs : s.size ≤ 1000000) (w : World) :
    Calls Try.prog 37 #[.string s] w fun e w' => ∃ v', e = .returned v' ∧ OwnS w' v' ((splitS (ls s)).map sb) ∧ (∀ y, v'.ownBlock = some y → w.heap.size ≤ y) ∧ Only (fun _ => False) w w' := by
  obtain ⟨i0, hi0, hz0, hz1, hz2⟩ := info_parts Try.infoStr
  have hb := get_bt s
  have hll := ls_len s
  have H0 := hide (SI.nil w)
  have HS0 := hide (SpAt.start (ls s))
  go_enter Try.func37, Try.ntmps37
  go_wp2_with fail
  go_loopw [3, 4, 5] (fun ov sv iv wr => ∃ (st i : Nat) (out : List Str), sv = .int .i64 st ∧ iv = .int .i64 i ∧ SpAt (ls s) out st i ∧ SI w ov (out.map sb) wr) (fun _ _ iv _ => s.size - (intOf iv).toNat)
  case atStart => exact ⟨0, 0, [], rfl, rfl, unhide HS0, unhide H0⟩
  case round =>
    clear H0 HS0
    obtain ⟨st, i, out, rfl, rfl, hS, hI⟩ := hrel
    have hle := hS.le
    have hlen := hS.len
    by_cases hil : i < s.size
    · have a1 : decide ((i : Int) < (s.size : Int)) = true := by simp; omega
      have a2 : (i : Int) < (s.size : Int) := by omega
      have hil' : i < (ls s).length := by omega
      obtain ⟨c, hc, hd2⟩ := ls_at s i hil
      have hci : (ls s)[i] = c := by
        rw [List.drop_eq_getElem_cons hil'] at hd2
        exact (List.cons.inj hd2).1
      by_cases h10 : c = 10
      · have e2 : (bt s i == 10) = true := by rw [hc, h10]; rfl
        have hS2 := hS.line hil' (by rw [hci]; exact h10)
        have hcut : sb (((ls s).drop st).take (i + 1 - st)) = s.extract st (i + 1) := by
          apply ls_inj
          rw [ls_cut, ls_sb]
        have b1 : (st : Int) ≤ (i : Int) + 1 := by omega
        have b2 : (i : Int) + 1 ≤ (s.size : Int) := by omega
        have own4 : wr.ownsRow 0 9 1 _ _ _ := hI.own
        rw [List.length_map] at own4
        have HI := hide hI
        have HS2 := hide hS2
        have Hcut := hide hcut
        clear hS hS2 hcut hI hd2 hci hc h10
        go_wp2_with (at_builtin; refine wpList_append2 _ rfl _ _ 49 rfl 9 i0 _ 1 16 Try.underlying49 hi0 hz0 hz1 hz2 rfl (by decide) _ _ _ rfl (own4.alloc _) ⟨wr.heap.size, 0, none⟩ 1 1 [.string (s.extract st (i + 1))] rfl rfl ?c1 ?c2 ?c3 ?c4 ?_)
        try (case c1 => exact news_ok _ _ _ _ rfl)
        case c2 => first | exact rfl | (intro u hu; simp at hu; rcases hu with rfl; rfl)
        case c3 => unfold maxLen; omega
        case c4 => omega
        intro v4 w4 hown' hgrow hwhere
        rw [← List.map_map] at hown'
        have h4 := (unhide HI).push (n := out.length + 1) (s.extract st (i + 1)) hown' (by simp) hgrow hwhere
        have H4 := hide h4
        clear hown' hgrow hwhere own4 HI h4
        go_wp2_with fail
        go_roundw
        case rel => exact ⟨i + 1, i + 1, _, by go_num, by go_num, unhide HS2, by rw [List.map_append, List.map_cons, List.map_nil, unhide Hcut]; exact unhide H4⟩
        case measure => simp [intOf]; omega
      · have e2 : (bt s i == 10) = false := by
          rw [hc]
          have := ne_byte (c := c) (n := 10) (by omega)
          rw [decide_eq_false (by simpa using h10)] at this
          exact this
        have HS2 := hide (hS.skip hil' (by rw [hci]; exact h10))
        have HI := hide hI
        clear hS hI hd2 hci hc h10
        go_wp2_with fail
        go_roundw
        case rel => exact ⟨st, i + 1, out, rfl, by go_num, unhide HS2, unhide HI⟩
        case measure => simp [intOf]; omega
    · have a1 : decide ((i : Int) < (s.size : Int)) = false := by simp; omega
      have a1' : ¬ (i : Int) < (s.size : Int) := by omega
      have ei : i = (ls s).length := by omega
      subst ei
      by_cases hst : st < (ls s).length
      · have c1 : decide ((st : Int) < (s.size : Int)) = true := by simp; omega
        have hS2 := hS.fin1 hst
        have hcut : sb ((ls s).drop st) = s.extract st s.size := by
          apply ls_inj
          rw [ls_cut, ls_sb, List.take_of_length_le (by simp; omega)]
        have b1 : (st : Int) ≤ (s.size : Int) := by omega
        have own4 : wr.ownsRow 0 9 1 _ _ _ := hI.own
        rw [List.length_map] at own4
        have HI := hide hI
        have HS2 := hide hS2
        have Hcut := hide hcut
        clear hS hS2 hcut hI
        go_wp2_with (at_builtin; refine wpList_append2 _ rfl _ _ 49 rfl 9 i0 _ 1 16 Try.underlying49 hi0 hz0 hz1 hz2 rfl (by decide) _ _ _ rfl (own4.alloc _) ⟨wr.heap.size, 0, none⟩ 1 1 [.string (s.extract st s.size)] rfl rfl ?c1 ?c2 ?c3 ?c4 ?_)
        try (case c1 => exact news_ok _ _ _ _ rfl)
        case c2 => first | exact rfl | (intro u hu; simp at hu; rcases hu with rfl; rfl)
        case c3 => unfold maxLen; omega
        case c4 => omega
        intro v4 w4 hown' hgrow hwhere
        rw [← List.map_map] at hown'
        have h4 := (unhide HI).push (n := out.length + 1) (s.extract st s.size) hown' (by simp) hgrow hwhere
        have H4 := hide h4
        clear hown' hgrow hwhere own4 HI h4
        go_wp2_with fail
        go_ret
        rw [unhide HS2, List.map_append, List.map_cons, List.map_nil, unhide Hcut]
        exact ⟨_, rfl, (unhide H4).own, (unhide H4).hb, (unhide H4).ho⟩
      · have c1 : decide ((st : Int) < (s.size : Int)) = false := by simp; omega
        have HS2 := hide (hS.fin0 hst)
        have HI := hide hI
        clear hS hI
        go_wp2_with fail
        go_ret
        rw [unhide HS2]
        exact ⟨_, rfl, (unhide HI).own, (unhide HI).hb, (unhide HI).ho⟩
end Go.Proofs.Qxb6500416a
