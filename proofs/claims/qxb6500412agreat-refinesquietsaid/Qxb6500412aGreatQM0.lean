/-
  OWN WORK. QUERY's MODEL: the kinds of bytes; the keywords; tokens in memory (written by tools/gen_qm0.py).
-/
import Derived.Test.Qxb6500412aGreatS47
import Derived.Test.Qxb6500412aGreatXM7
namespace Go.Proofs.Qxb6500412aGreat
open Go.RowKit Go.PlainAid
set_option linter.unusedSimpArgs false
set_option linter.unusedVariables false
/-- A token's cells. -/
def tkc : Tk → List Value
  | .word s => [.int .i64 1, .string s, .int .i64 0]
  | .num v => [.int .i64 2, .string ⟨#[]⟩, .int .i64 v]
  | .str s => [.int .i64 3, .string s, .int .i64 0]
  | .sign s => [.int .i64 4, .string s, .int .i64 0]
def tkcs (l : List Tk) : List Value := l.flatMap tkc
theorem tkcs_app (l m : List Tk) : tkcs (l ++ m) = tkcs l ++ tkcs m := by simp [tkcs]
theorem tkc_len (x : Tk) : (tkc x).length = 3 := by cases x <;> rfl
def tkK : Tk → Int
  | .word _ => 1
  | .num _ => 2
  | .str _ => 3
  | .sign _ => 4
def tkT : Tk → ByteArray
  | .word s => s
  | .num _ => ⟨#[]⟩
  | .str s => s
  | .sign s => s
def tkN : Tk → Int
  | .num v => v
  | _ => 0
theorem tkc_eq (x : Tk) : tkc x = [.int .i64 (tkK x), .string (tkT x), .int .i64 (tkN x)] := by cases x <;> rfl
/-- Tokens in memory. -/
def OwnT (ty : TypeId) (w : World) (v : Value) (l : List Tk) : Prop := w.ownsRow 0 ty 3 v l.length (tkcs l)
section
variable {w w' : World} {v : Value} {l : List Tk} {ty : TypeId}
theorem OwnT.keep {B : Nat → Prop} (h : OwnT ty w v l) (ho : Only B w w') (hB : ∀ k, v.ownBlock = some k → ¬ B k) : OwnT ty w' v l := ownsRow_keep h ho hB
theorem OwnT.quiet (h : OwnT ty w v l) (ho : Only (fun _ => False) w w') : OwnT ty w' v l := h.keep ho (fun _ _ e => e)
theorem tkcs_get : ∀ (l : List Tk) (i : Nat) (c : Tk), l[i]? = some c → ∀ j, j < 3 → (tkcs l)[i * 3 + j]? = (tkc c)[j]?
  | [], i, c, h, j, hj => by simp at h
  | x :: l, 0, c, h, j, hj => by
    simp only [List.getElem?_cons_zero, Option.some.injEq] at h
    subst h
    show (tkc x ++ tkcs l)[0 * 3 + j]? = _
    rw [List.getElem?_append_left (by rw [tkc_len]; omega)]
    congr 1
    omega
  | x :: l, i + 1, c, h, j, hj => by
    show (tkc x ++ tkcs l)[(i + 1) * 3 + j]? = _
    have e : (i + 1) * 3 + j = (tkc x).length + (i * 3 + j) := by rw [tkc_len]; omega
    rw [e, List.getElem?_append_right (by omega), Nat.add_sub_cancel_left]
    exact tkcs_get l i c h j hj
theorem OwnT.at_ {a : Option Addr} {n cap : Nat} (h : OwnT ty w (.slice a n cap) l) {i : Nat} {c : Tk} (hx : l[i]? = some c) : ∃ g, a = some ⟨g, 0, none⟩ ∧ w.cell? ⟨g, i * 3, none⟩ = some (.int .i64 (tkK c)) ∧ w.cell? ⟨g, i * 3 + 1, none⟩ = some (.string (tkT c)) ∧ w.cell? ⟨g, i * 3 + 2, none⟩ = some (.int .i64 (tkN c)) := by
  have hi := (List.getElem?_eq_some_iff.1 hx).1
  rcases h.2 with ⟨he, h0⟩ | ⟨g, cap', cur, he, _⟩
  · omega
  · obtain ⟨rfl, _⟩ : a = some ⟨g, 0, none⟩ ∧ True := by
      have := he
      simp at this
      exact ⟨this.1, trivial⟩
    refine ⟨g, rfl, ?_⟩
    have hc := World.ownsRow.cells h (g := g) (by first | exact rfl | simp [Value.ownBlock])
    have a0 : (tkcs l)[i * 3]? = some (.int .i64 (tkK c)) := by have := tkcs_get l i c hx 0 (by omega); rw [tkc_eq] at this; simpa using this
    have a1 : (tkcs l)[i * 3 + 1]? = some (.string (tkT c)) := by have := tkcs_get l i c hx 1 (by omega); rw [tkc_eq] at this; simpa using this
    have a2 : (tkcs l)[i * 3 + 2]? = some (.int .i64 (tkN c)) := by have := tkcs_get l i c hx 2 (by omega); rw [tkc_eq] at this; simpa using this
    have b0 := hc _ _ a0
    have b1 := hc _ _ a1
    have b2 := hc _ _ a2
    rw [addr_add] at b0 b1 b2
    exact ⟨b0, b1, b2⟩
end
section
variable {t : ByteArray} {i : Nat}
theorem toks_blank (hi : i < t.size) (h : blkC (byteAt t i) = true) : toks t i = toks t (i + 1) := by
  have hr := run_spec (p := blkC) (t := t) (i := i + 1) (by omega)
  have e : run blkC t i = run blkC t (i + 1) := run_eq (by omega) hr.2.1 (fun k h1 h2 => by
    by_cases c : k = i
    · rw [c]; exact h
    · exact hr.2.2.1 k (by omega) h2) hr.2.2.2
  by_cases c : run blkC t (i + 1) < t.size
  · cases hx : tokA t (run blkC t (i + 1)) with
    | none => rw [toks_bad (by omega) (by rw [e]; exact c) (by rw [e]; exact hx), toks_bad (by omega) c hx]
    | some x => rw [toks_some (by omega) (by rw [e]; exact c) (by rw [e]; exact hx), toks_some (by omega) c hx]
  · rw [toks_end (by omega) (by omega), toks_end (by omega) (by omega)]
theorem run_nb (hi : i < t.size) (h : blkC (byteAt t i) = false) : run blkC t i = i := run_eq (Nat.le_refl _) (by omega) (fun k h1 h2 => by omega) (fun _ => h)
theorem toks_at (hi : i < t.size) (h : blkC (byteAt t i) = false) {x : Tk × Nat} (hx : tokA t i = some x) : toks t i = (x.1 :: (toks t x.2).1, (toks t x.2).2) :=
  toks_some (by omega) (by rw [run_nb hi h]; exact hi) (by rw [run_nb hi h]; exact hx)
theorem toks_no (hi : i < t.size) (h : blkC (byteAt t i) = false) (hx : tokA t i = none) : toks t i = ([], false) :=
  toks_bad (by omega) (by rw [run_nb hi h]; exact hi) (by rw [run_nb hi h]; exact hx)
theorem toks_over (hi : i = t.size) : toks t i = ([], true) := toks_end (by omega) (by have := (run_spec (p := blkC) (t := t) (i := i) (by omega)).1; omega)
end
set_option maxRecDepth 100000 in
set_option maxHeartbeats 4000000 in
theorem smdigit_any (c : Nat) (w : World) : Calls Tryz.prog 324 #[.int .u8 (c : Int)] w fun e w' => e = .returned (.bool (digC c)) ∧ w = w' := by
  obtain ⟨b0, hb0⟩ : ∃ b, decide (48 ≤ c) = b := ⟨_, rfl⟩
  have e0 : decide ((c : Int) ≥ 48) = b0 := by rw [← hb0, Bool.eq_iff_iff]; simp; omega
  have f0 : decide ((48 : Int) ≤ (c : Int)) = b0 := e0
  obtain ⟨b1, hb1⟩ : ∃ b, decide (c ≤ 57) = b := ⟨_, rfl⟩
  have e1 : decide ((c : Int) ≤ 57) = b1 := by rw [← hb1, Bool.eq_iff_iff]; simp; omega
  have hp : digC c = (b0 && b1) := by unfold digC; rw [hb0, hb1]
  rw [hp]
  clear hp hb0 hb1
  cases b0 <;> cases b1
  all_goals
    go_enter Tryz.func324, Tryz.ntmps324
    go_wp2_with fail
    go_ret
    exact ⟨rfl, rfl⟩
set_option maxRecDepth 100000 in
set_option maxHeartbeats 4000000 in
theorem smletter_any (c : Nat) (w : World) : Calls Tryz.prog 321 #[.int .u8 (c : Int)] w fun e w' => e = .returned (.bool (letC c)) ∧ w = w' := by
  obtain ⟨b0, hb0⟩ : ∃ b, decide (65 ≤ c) = b := ⟨_, rfl⟩
  have e0 : decide ((c : Int) ≥ 65) = b0 := by rw [← hb0, Bool.eq_iff_iff]; simp; omega
  have f0 : decide ((65 : Int) ≤ (c : Int)) = b0 := e0
  obtain ⟨b1, hb1⟩ : ∃ b, decide (c ≤ 90) = b := ⟨_, rfl⟩
  have e1 : decide ((c : Int) ≤ 90) = b1 := by rw [← hb1, Bool.eq_iff_iff]; simp; omega
  obtain ⟨b2, hb2⟩ : ∃ b, decide (97 ≤ c) = b := ⟨_, rfl⟩
  have e2 : decide ((c : Int) ≥ 97) = b2 := by rw [← hb2, Bool.eq_iff_iff]; simp; omega
  have f2 : decide ((97 : Int) ≤ (c : Int)) = b2 := e2
  obtain ⟨b3, hb3⟩ : ∃ b, decide (c ≤ 122) = b := ⟨_, rfl⟩
  have e3 : decide ((c : Int) ≤ 122) = b3 := by rw [← hb3, Bool.eq_iff_iff]; simp; omega
  obtain ⟨b4, hb4⟩ : ∃ b, decide (c = 95) = b := ⟨_, rfl⟩
  have e4 : ((c : Int) == 95) = b4 := by rw [← hb4, Bool.eq_iff_iff]; simp; omega
  have hp : letC c = ((b0 && b1) || (b2 && b3) || b4) := by unfold letC; rw [hb0, hb1, hb2, hb3, hb4]
  rw [hp]
  clear hp hb0 hb1 hb2 hb3 hb4
  cases b0 <;> cases b1 <;> cases b2 <;> cases b3 <;> cases b4
  all_goals
    go_enter Tryz.func321, Tryz.ntmps321
    go_wp2_with fail
    go_ret
    exact ⟨rfl, rfl⟩
set_option maxRecDepth 100000 in
set_option maxHeartbeats 4000000 in
theorem smwordy_any (c : Nat) (w : World) : Calls Tryz.prog 322 #[.int .u8 (c : Int)] w fun e w' => e = .returned (.bool (wrdC c)) ∧ w = w' := by
  obtain ⟨b0, hb0⟩ : ∃ b, decide (65 ≤ c) = b := ⟨_, rfl⟩
  have e0 : decide ((c : Int) ≥ 65) = b0 := by rw [← hb0, Bool.eq_iff_iff]; simp; omega
  have f0 : decide ((65 : Int) ≤ (c : Int)) = b0 := e0
  obtain ⟨b1, hb1⟩ : ∃ b, decide (c ≤ 90) = b := ⟨_, rfl⟩
  have e1 : decide ((c : Int) ≤ 90) = b1 := by rw [← hb1, Bool.eq_iff_iff]; simp; omega
  obtain ⟨b2, hb2⟩ : ∃ b, decide (97 ≤ c) = b := ⟨_, rfl⟩
  have e2 : decide ((c : Int) ≥ 97) = b2 := by rw [← hb2, Bool.eq_iff_iff]; simp; omega
  have f2 : decide ((97 : Int) ≤ (c : Int)) = b2 := e2
  obtain ⟨b3, hb3⟩ : ∃ b, decide (c ≤ 122) = b := ⟨_, rfl⟩
  have e3 : decide ((c : Int) ≤ 122) = b3 := by rw [← hb3, Bool.eq_iff_iff]; simp; omega
  obtain ⟨b4, hb4⟩ : ∃ b, decide (c = 95) = b := ⟨_, rfl⟩
  have e4 : ((c : Int) == 95) = b4 := by rw [← hb4, Bool.eq_iff_iff]; simp; omega
  obtain ⟨b5, hb5⟩ : ∃ b, decide (48 ≤ c) = b := ⟨_, rfl⟩
  have e5 : decide ((c : Int) ≥ 48) = b5 := by rw [← hb5, Bool.eq_iff_iff]; simp; omega
  have f5 : decide ((48 : Int) ≤ (c : Int)) = b5 := e5
  obtain ⟨b6, hb6⟩ : ∃ b, decide (c ≤ 57) = b := ⟨_, rfl⟩
  have e6 : decide ((c : Int) ≤ 57) = b6 := by rw [← hb6, Bool.eq_iff_iff]; simp; omega
  have hp : wrdC c = (((b0 && b1) || (b2 && b3) || b4) || (b5 && b6)) := by unfold wrdC letC digC; rw [hb0, hb1, hb2, hb3, hb4, hb5, hb6]
  rw [hp]
  clear hp hb0 hb1 hb2 hb3 hb4 hb5 hb6
  cases b0 <;> cases b1 <;> cases b2 <;> cases b3 <;> cases b4 <;> cases b5 <;> cases b6
  all_goals
    go_enter Tryz.func322, Tryz.ntmps322
    go_wp2_with fail
    go_ret
    exact ⟨rfl, rfl⟩
set_option maxRecDepth 100000 in
set_option maxHeartbeats 8000000 in
theorem smkeyword_any (s : ByteArray) (w : World) : Calls Tryz.prog 326 #[.string s] w fun e w' => e = .returned (.bool (kwB s)) ∧ w = w' := by
  obtain ⟨b0, g0⟩ : ∃ b, (s.toList == [66, 69, 71, 73, 78]) = b := ⟨_, rfl⟩
  obtain ⟨b1, g1⟩ : ∃ b, (s.toList == [67, 79, 77, 77, 73, 84]) = b := ⟨_, rfl⟩
  obtain ⟨b2, g2⟩ : ∃ b, (s.toList == [82, 79, 76, 76, 66, 65, 67, 75]) = b := ⟨_, rfl⟩
  obtain ⟨b3, g3⟩ : ∃ b, (s.toList == [67, 82, 69, 65, 84, 69]) = b := ⟨_, rfl⟩
  obtain ⟨b4, g4⟩ : ∃ b, (s.toList == [68, 82, 79, 80]) = b := ⟨_, rfl⟩
  obtain ⟨b5, g5⟩ : ∃ b, (s.toList == [84, 65, 66, 76, 69]) = b := ⟨_, rfl⟩
  obtain ⟨b6, g6⟩ : ∃ b, (s.toList == [73, 78, 68, 69, 88]) = b := ⟨_, rfl⟩
  obtain ⟨b7, g7⟩ : ∃ b, (s.toList == [79, 78]) = b := ⟨_, rfl⟩
  obtain ⟨b8, g8⟩ : ∃ b, (s.toList == [73, 78, 83, 69, 82, 84]) = b := ⟨_, rfl⟩
  obtain ⟨b9, g9⟩ : ∃ b, (s.toList == [73, 78, 84, 79]) = b := ⟨_, rfl⟩
  obtain ⟨b10, g10⟩ : ∃ b, (s.toList == [86, 65, 76, 85, 69, 83]) = b := ⟨_, rfl⟩
  obtain ⟨b11, g11⟩ : ∃ b, (s.toList == [83, 69, 76, 69, 67, 84]) = b := ⟨_, rfl⟩
  obtain ⟨b12, g12⟩ : ∃ b, (s.toList == [70, 82, 79, 77]) = b := ⟨_, rfl⟩
  obtain ⟨b13, g13⟩ : ∃ b, (s.toList == [87, 72, 69, 82, 69]) = b := ⟨_, rfl⟩
  obtain ⟨b14, g14⟩ : ∃ b, (s.toList == [65, 78, 68]) = b := ⟨_, rfl⟩
  obtain ⟨b15, g15⟩ : ∃ b, (s.toList == [79, 82, 68, 69, 82]) = b := ⟨_, rfl⟩
  obtain ⟨b16, g16⟩ : ∃ b, (s.toList == [66, 89]) = b := ⟨_, rfl⟩
  obtain ⟨b17, g17⟩ : ∃ b, (s.toList == [68, 69, 83, 67]) = b := ⟨_, rfl⟩
  obtain ⟨b18, g18⟩ : ∃ b, (s.toList == [76, 73, 77, 73, 84]) = b := ⟨_, rfl⟩
  obtain ⟨b19, g19⟩ : ∃ b, (s.toList == [85, 80, 68, 65, 84, 69]) = b := ⟨_, rfl⟩
  obtain ⟨b20, g20⟩ : ∃ b, (s.toList == [83, 69, 84]) = b := ⟨_, rfl⟩
  obtain ⟨b21, g21⟩ : ∃ b, (s.toList == [68, 69, 76, 69, 84, 69]) = b := ⟨_, rfl⟩
  obtain ⟨b22, g22⟩ : ∃ b, (s.toList == [73, 78, 84]) = b := ⟨_, rfl⟩
  obtain ⟨b23, g23⟩ : ∃ b, (s.toList == [84, 69, 88, 84]) = b := ⟨_, rfl⟩
  obtain ⟨b24, g24⟩ : ∃ b, (s.toList == [75, 69, 89]) = b := ⟨_, rfl⟩
  have hp : kwB s = (b7 || (b16 || (b14 || (b20 || (b22 || (b24 || (b4 || (b9 || (b12 || (b17 || (b23 || (b0 || (b5 || (b6 || (b13 || (b15 || (b18 || (b1 || (b3 || (b8 || (b10 || (b11 || (b19 || (b21 || (b2))))))))))))))))))))))))) := by unfold kwB; rw [g0, g1, g2, g3, g4, g5, g6, g7, g8, g9, g10, g11, g12, g13, g14, g15, g16, g17, g18, g19, g20, g21, g22, g23, g24]
  cases b0 with
  | true =>
    have HP := hide (show kwB s = true by rw [hp]; simp)
    clear hp
    go_enter Tryz.func326, Tryz.ntmps326
    go_wp2_with fail
    go_ret
    exact ⟨by rw [unhide HP]; rfl, rfl⟩
  | false =>
  cases b1 with
  | true =>
    have HP := hide (show kwB s = true by rw [hp]; simp)
    clear hp
    go_enter Tryz.func326, Tryz.ntmps326
    go_wp2_with fail
    go_ret
    exact ⟨by rw [unhide HP]; rfl, rfl⟩
  | false =>
  cases b2 with
  | true =>
    have HP := hide (show kwB s = true by rw [hp]; simp)
    clear hp
    go_enter Tryz.func326, Tryz.ntmps326
    go_wp2_with fail
    go_ret
    exact ⟨by rw [unhide HP]; rfl, rfl⟩
  | false =>
  cases b3 with
  | true =>
    have HP := hide (show kwB s = true by rw [hp]; simp)
    clear hp
    go_enter Tryz.func326, Tryz.ntmps326
    go_wp2_with fail
    go_ret
    exact ⟨by rw [unhide HP]; rfl, rfl⟩
  | false =>
  cases b4 with
  | true =>
    have HP := hide (show kwB s = true by rw [hp]; simp)
    clear hp
    go_enter Tryz.func326, Tryz.ntmps326
    go_wp2_with fail
    go_ret
    exact ⟨by rw [unhide HP]; rfl, rfl⟩
  | false =>
  cases b5 with
  | true =>
    have HP := hide (show kwB s = true by rw [hp]; simp)
    clear hp
    go_enter Tryz.func326, Tryz.ntmps326
    go_wp2_with fail
    go_ret
    exact ⟨by rw [unhide HP]; rfl, rfl⟩
  | false =>
  cases b6 with
  | true =>
    have HP := hide (show kwB s = true by rw [hp]; simp)
    clear hp
    go_enter Tryz.func326, Tryz.ntmps326
    go_wp2_with fail
    go_ret
    exact ⟨by rw [unhide HP]; rfl, rfl⟩
  | false =>
  cases b7 with
  | true =>
    have HP := hide (show kwB s = true by rw [hp]; simp)
    clear hp
    go_enter Tryz.func326, Tryz.ntmps326
    go_wp2_with fail
    go_ret
    exact ⟨by rw [unhide HP]; rfl, rfl⟩
  | false =>
  cases b8 with
  | true =>
    have HP := hide (show kwB s = true by rw [hp]; simp)
    clear hp
    go_enter Tryz.func326, Tryz.ntmps326
    go_wp2_with fail
    go_ret
    exact ⟨by rw [unhide HP]; rfl, rfl⟩
  | false =>
  cases b9 with
  | true =>
    have HP := hide (show kwB s = true by rw [hp]; simp)
    clear hp
    go_enter Tryz.func326, Tryz.ntmps326
    go_wp2_with fail
    go_ret
    exact ⟨by rw [unhide HP]; rfl, rfl⟩
  | false =>
  cases b10 with
  | true =>
    have HP := hide (show kwB s = true by rw [hp]; simp)
    clear hp
    go_enter Tryz.func326, Tryz.ntmps326
    go_wp2_with fail
    go_ret
    exact ⟨by rw [unhide HP]; rfl, rfl⟩
  | false =>
  cases b11 with
  | true =>
    have HP := hide (show kwB s = true by rw [hp]; simp)
    clear hp
    go_enter Tryz.func326, Tryz.ntmps326
    go_wp2_with fail
    go_ret
    exact ⟨by rw [unhide HP]; rfl, rfl⟩
  | false =>
  cases b12 with
  | true =>
    have HP := hide (show kwB s = true by rw [hp]; simp)
    clear hp
    go_enter Tryz.func326, Tryz.ntmps326
    go_wp2_with fail
    go_ret
    exact ⟨by rw [unhide HP]; rfl, rfl⟩
  | false =>
  cases b13 with
  | true =>
    have HP := hide (show kwB s = true by rw [hp]; simp)
    clear hp
    go_enter Tryz.func326, Tryz.ntmps326
    go_wp2_with fail
    go_ret
    exact ⟨by rw [unhide HP]; rfl, rfl⟩
  | false =>
  cases b14 with
  | true =>
    have HP := hide (show kwB s = true by rw [hp]; simp)
    clear hp
    go_enter Tryz.func326, Tryz.ntmps326
    go_wp2_with fail
    go_ret
    exact ⟨by rw [unhide HP]; rfl, rfl⟩
  | false =>
  cases b15 with
  | true =>
    have HP := hide (show kwB s = true by rw [hp]; simp)
    clear hp
    go_enter Tryz.func326, Tryz.ntmps326
    go_wp2_with fail
    go_ret
    exact ⟨by rw [unhide HP]; rfl, rfl⟩
  | false =>
  cases b16 with
  | true =>
    have HP := hide (show kwB s = true by rw [hp]; simp)
    clear hp
    go_enter Tryz.func326, Tryz.ntmps326
    go_wp2_with fail
    go_ret
    exact ⟨by rw [unhide HP]; rfl, rfl⟩
  | false =>
  cases b17 with
  | true =>
    have HP := hide (show kwB s = true by rw [hp]; simp)
    clear hp
    go_enter Tryz.func326, Tryz.ntmps326
    go_wp2_with fail
    go_ret
    exact ⟨by rw [unhide HP]; rfl, rfl⟩
  | false =>
  cases b18 with
  | true =>
    have HP := hide (show kwB s = true by rw [hp]; simp)
    clear hp
    go_enter Tryz.func326, Tryz.ntmps326
    go_wp2_with fail
    go_ret
    exact ⟨by rw [unhide HP]; rfl, rfl⟩
  | false =>
  cases b19 with
  | true =>
    have HP := hide (show kwB s = true by rw [hp]; simp)
    clear hp
    go_enter Tryz.func326, Tryz.ntmps326
    go_wp2_with fail
    go_ret
    exact ⟨by rw [unhide HP]; rfl, rfl⟩
  | false =>
  cases b20 with
  | true =>
    have HP := hide (show kwB s = true by rw [hp]; simp)
    clear hp
    go_enter Tryz.func326, Tryz.ntmps326
    go_wp2_with fail
    go_ret
    exact ⟨by rw [unhide HP]; rfl, rfl⟩
  | false =>
  cases b21 with
  | true =>
    have HP := hide (show kwB s = true by rw [hp]; simp)
    clear hp
    go_enter Tryz.func326, Tryz.ntmps326
    go_wp2_with fail
    go_ret
    exact ⟨by rw [unhide HP]; rfl, rfl⟩
  | false =>
  cases b22 with
  | true =>
    have HP := hide (show kwB s = true by rw [hp]; simp)
    clear hp
    go_enter Tryz.func326, Tryz.ntmps326
    go_wp2_with fail
    go_ret
    exact ⟨by rw [unhide HP]; rfl, rfl⟩
  | false =>
  cases b23 with
  | true =>
    have HP := hide (show kwB s = true by rw [hp]; simp)
    clear hp
    go_enter Tryz.func326, Tryz.ntmps326
    go_wp2_with fail
    go_ret
    exact ⟨by rw [unhide HP]; rfl, rfl⟩
  | false =>
  cases b24 with
  | true =>
    have HP := hide (show kwB s = true by rw [hp]; simp)
    clear hp
    go_enter Tryz.func326, Tryz.ntmps326
    go_wp2_with fail
    go_ret
    exact ⟨by rw [unhide HP]; rfl, rfl⟩
  | false =>
  have HP := hide (show kwB s = false by rw [hp]; rfl)
  clear hp
  go_enter Tryz.func326, Tryz.ntmps326
  go_wp2_with fail
  go_ret
  exact ⟨by rw [unhide HP]; rfl, rfl⟩
set_option maxRecDepth 100000 in
theorem smnumber_any (t : ByteArray) (i : Nat) (hi : i < t.size) (ht : t.size ≤ 256) (w : World) : Calls Tryz.prog 323 #[.string t, .int .i64 (i : Int)] w fun e w' => e = .returned (.bool (numb t i)) ∧ w = w' := by
  have hb : (t[i].toNat : Int) = ((byteAt t i : Nat) : Int) := byteAt_idx t i hi
  have a1p : (i : Int) < (t.size : Int) := by omega
  have CD0 := smdigit_any (byteAt t i) w
  obtain ⟨c, hc⟩ : ∃ c, byteAt t i = c := ⟨_, rfl⟩
  rw [hc] at hb CD0
  by_cases h45 : c = 45
  · have e1 : ((c : Int) == 45) = true := by simp; omega
    by_cases hn : i + 1 < t.size
    · have a2 : decide ((i : Int) + 1 < (t.size : Int)) = true := decide_eq_true (by omega)
      have a2p : (i : Int) + 1 < (t.size : Int) := by omega
      have hb2 : (t[i + 1].toNat : Int) = ((byteAt t (i + 1) : Nat) : Int) := byteAt_idx t (i + 1) hn
      have CD := smdigit_any (byteAt t (i + 1)) w
      have HE := hide (show numb t i = digC (byteAt t (i + 1)) by unfold numb; rw [hc, h45, decide_eq_true hn]; simp [digC])
      obtain ⟨d, hd⟩ : ∃ c, byteAt t (i + 1) = c := ⟨_, rfl⟩
      rw [hd] at hb2 CD HE
      rw [unhide HE]
      have CD := hide CD
      have iw : IntKind.i64.wrap ((i : Int) + 1) = ((i + 1 : Nat) : Int) := by rw [IntWalk.i64_in] <;> omega
      clear hd hc CD0 h45 HE
      go_enter Tryz.func323, Tryz.ntmps323
      go_wp2_with fail
      refine (unhide CD).mono ?_
      rintro e w1 ⟨rfl, rfl⟩
      go_wp2_with fail
      go_ret
      exact ⟨rfl, rfl⟩
    · have a2 : decide ((i : Int) + 1 < (t.size : Int)) = false := decide_eq_false (by omega)
      have a2p : ¬ (i : Int) + 1 < (t.size : Int) := by omega
      have HE := hide (show numb t i = digC c by unfold numb; rw [hc, decide_eq_false hn]; simp)
      rw [unhide HE]
      have CD := hide CD0
      clear hc CD0 h45 HE
      go_enter Tryz.func323, Tryz.ntmps323
      go_wp2_with fail
      refine (unhide CD).mono ?_
      rintro e w1 ⟨rfl, rfl⟩
      go_wp2_with fail
      go_ret
      exact ⟨rfl, rfl⟩
  · have e1 : ((c : Int) == 45) = false := by simp; omega
    have HE := hide (show numb t i = digC c by unfold numb; rw [hc, decide_eq_false h45]; simp)
    rw [unhide HE]
    have CD := hide CD0
    clear hc CD0 h45 HE
    go_enter Tryz.func323, Tryz.ntmps323
    go_wp2_with fail
    refine (unhide CD).mono ?_
    rintro e w1 ⟨rfl, rfl⟩
    go_wp2_with fail
    go_ret
    exact ⟨rfl, rfl⟩
end Go.Proofs.Qxb6500412aGreat
