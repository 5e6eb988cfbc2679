/-
  OWN WORK. TEXTS BUILT IN BYTES: add, addAll, closed.
-/
import Derived.Test.Qxb6500416aDDiff
import Derived.Lib.ConvBytes
import Derived.Laws.IdiomStrings
namespace Go.Proofs.Qxb6500416a
open Go.RowKit Go.PlainAid
set_option linter.unusedSimpArgs false
set_option linter.unusedVariables false

theorem Try.dinfoU8 : (Try.prog.info? 5).map (fun i => (i.zero, i.size, i.bytes)) = some (some (.int .u8 0), 1, 1) := by kernel_rfl
def u8V (l : Str) : List Value := l.map (fun b => .int .u8 (b.toNat : Int))
theorem u8V_len (l : Str) : (u8V l).length = l.length := by simp [u8V]
theorem u8V_app (a b : Str) : u8V a ++ u8V b = u8V (a ++ b) := by simp [u8V]
def OwnB (w : World) (v : Value) (l : Str) : Prop := w.ownsRow 0 5 1 v l.length (u8V l)
theorem OwnB.keep {S : Nat → Prop} {w w' : World} {v : Value} {l : Str} (h : OwnB w v l) (ho : Only S w w') (hS : ∀ k, v.ownBlock = some k → ¬ S k) : OwnB w' v l := ownsRow_keep h ho hS
theorem dconv (w : World) (s : Str) (hs : s.length ≤ 1000000) : ∃ W cap, (convert 9 93 (.string (sb s))).run Try.prog w = .ok (.slice (some ⟨w.heap.size, 0, none⟩) s.length cap) W ∧ (∀ j u, (u8V s)[j]? = some u → W.cell? ((⟨w.heap.size, 0, none⟩ : Addr).add j) = some u) ∧ Only (fun _ => False) w W ∧ W.heap.size = w.heap.size + 1 := by
  have hr := Go.Lib.run_convert_string_bytes w 9 93 5 (sb s) Try.underlying9 Try.underlying93 Try.underlying5
  rw [sb_size] at hr
  refine ⟨_, _, hr, ?_, ?_, Go.Lib.bytesWorld_size w 5 (sb s)⟩
  · intro j u hu
    have hj : j < s.length := by
      by_cases hj : j < s.length
      · exact hj
      · rw [List.getElem?_eq_none (by rw [u8V_len]; omega)] at hu; cases hu
    rw [addr_add, Go.Lib.bytesWorld_cell w 5 (sb s) j (by rw [sb_size]; exact hj)]
    simp [u8V, hj] at hu
    rw [← hu]
    simp [sb, hj]
  · exact ⟨rfl, rfl, rfl, by rw [Go.Lib.bytesWorld_size]; omega, fun k hk _ => Go.Lib.bytesWorld_at_old w 5 (sb s) k hk⟩
set_option maxRecDepth 100000 in
set_option maxHeartbeats 1000000 in
theorem dadd_any {w : World} {v : Value} {l : Str} (h : OwnB w v l) (s : Str) (hl : l.length ≤ 10000000) (hs : s.length ≤ 1000000) :
    Calls Try.prog 50 #[v, .string (sb s)] w fun e w' => ∃ v', e = .returned v' ∧ OwnB w' v' (l ++ s) ∧ (∀ y, v'.ownBlock = some y → v.ownBlock = some y ∨ w.heap.size ≤ y) ∧ Only (fun y => v.ownBlock = some y) w w' := by
  obtain ⟨W, cap, hconv, hnews, hW, hWs⟩ := dconv w s hs
  obtain ⟨j0, hj0, hy0, hy1, hy2⟩ := info_parts Try.dinfoU8
  have own : W.ownsRow 0 5 1 v l.length (u8V l) := h.keep hW (fun _ _ h => h)
  have Hnews := hide hnews
  have HW := hide hW
  have one : ∀ u ∈ u8V s, u.oneCell' = true := by intro u hu; simp [u8V] at hu; obtain ⟨b, _, rfl⟩ := hu; rfl
  have Hone := hide one
  clear hnews hW one h
  go_enter Try.func50, Try.ntmps50
  go_wp2_with (at_builtin; refine wpList_append2 _ rfl _ _ 93 rfl 5 j0 _ 1 1 Try.underlying93 hj0 hy0 hy1 hy2 rfl (by decide) _ _ _ rfl own ⟨w.heap.size, 0, none⟩ s.length cap (u8V s) rfl (by rw [u8V_len]; omega) (unhide Hnews) (unhide Hone) ?c3 ?c4 ?_)
  case c3 => unfold maxLen; omega
  case c4 => omega
  intro v' w' hown hgrow hwhere
  rw [u8V_app, ← List.length_append] at hown
  have oG : Only (fun y => v.ownBlock = some y) W w' := (Only.refl (fun y => v.ownBlock = some y) W).grown hgrow (fun y hy _ => hy)
  have oA := hide (((unhide HW).mono (T := fun y => v.ownBlock = some y) (fun _ _ h => h.elim)).trans oG (fun _ _ h => h))
  have HO := hide hown
  have Hwh := hide hwhere
  clear hown hgrow hwhere oG own
  go_wp2_with fail
  go_ret
  refine ⟨v', rfl, unhide HO, fun y hy => ?_, unhide oA⟩
  rcases unhide Hwh y hy with e | e
  · exact .inl e
  · exact .inr (by omega)
/-- A text that grows. -/
structure BI (w : World) (v0 : Value) (ov : Value) (l : Str) (wr : World) : Prop where
  own : OwnB wr ov l
  hb : ∀ y, ov.ownBlock = some y → v0.ownBlock = some y ∨ w.heap.size ≤ y
  ho : Only (fun y => v0.ownBlock = some y) w wr
theorem BI.start {w : World} {v : Value} {l : Str} (h : OwnB w v l) : BI w v v l w := ⟨h, fun y hy => .inl hy, Only.refl _ _⟩
theorem BI.step {w : World} {v0 ov v' : Value} {l m : Str} {wr w' : World} (h : BI w v0 ov l wr) (hown : OwnB w' v' m) (hb : ∀ y, v'.ownBlock = some y → ov.ownBlock = some y ∨ wr.heap.size ≤ y) (ho : Only (fun y => ov.ownBlock = some y) wr w') : BI w v0 v' m w' := by
  have hs := h.ho.size
  refine ⟨hown, fun y hy => ?_, h.ho.trans ho (fun y hy e => ?_)⟩
  · rcases hb y hy with e | e
    · exact h.hb y e
    · exact .inr (by omega)
  · rcases h.hb y e with e | e
    · exact e
    · omega
theorem BI.trans {w : World} {v0 ov v' : Value} {l m : Str} {wr w' : World} (h : BI w v0 ov l wr) (h' : BI wr ov v' m w') : BI w v0 v' m w' := h.step h'.own h'.hb h'.ho
theorem BI.quiet {w : World} {v0 ov : Value} {l : Str} {wr w' : World} (h : BI w v0 ov l wr) (ho : Only (fun _ => False) wr w') : BI w v0 ov l w' :=
  ⟨h.own.keep ho (fun _ _ h => h), h.hb, h.ho.trans ho (fun _ _ h => h.elim)⟩
/-- Lists of lines are not touched. -/
theorem OwnL.byt {w : World} {v0 ov u : Value} {l l0 : Str} {L : List Str} {wr : World} (h : OwnL w u L) (h0 : OwnB w v0 l0) (hb : BI w v0 ov l wr) : OwnL wr u L :=
  h.keep hb.ho (fun y hy e => own_ne h.row h0 (by decide) y hy e)
set_option maxRecDepth 100000 in
set_option maxHeartbeats 2000000 in
theorem daddAll_any {w : World} {v u : Value} {l : Str} {L : List Str} (h : OwnB w v l) (hL : OwnL w u L) (a b n : Nat) (hn : n = L.length) (hab : a ≤ b) (hb : b ≤ L.length) (hl : l.length ≤ 1000000) (hLl : L.length ≤ 1000000) (hs : L.flatten.length ≤ 1000000) :
    Calls Try.prog 46 #[v, u, .int .i64 a, .int .i64 b] w fun e w' => ∃ v', e = .returned v' ∧ BI w v v' (l ++ (cutL L a b).flatten) w' := by
  have H0 := hide (BI.start h)
  have HL := hide hL
  have Hh := hide h
  obtain ⟨ua, uc, rfl⟩ := ownsRow_shape hL
  rw [List.length_map] at HL ⊢
  have hfl : ∀ i, (cutL L a i).flatten.length ≤ 1000000 := by
    intro i
    have e1 := flat_take_le L (a + (i - a))
    have e2 := flat_take L a (a + (i - a)) (by omega)
    have e3 : a + (i - a) - a = i - a := by omega
    unfold cutL at e2 ⊢
    rw [e3] at e2
    omega
  have Hfl := hide hfl
  clear h hL hfl
  go_enter Try.func46, Try.ntmps46
  go_wp2_with fail
  go_loopw [0, 9] (fun ov iv wr => ∃ i : Nat, iv = .int .i64 i ∧ a ≤ i ∧ i ≤ b ∧ BI w v ov (l ++ (cutL L a i).flatten) wr) (fun _ iv _ => b - (intOf iv).toNat)
  case atStart => exact ⟨a, rfl, by omega, hab, by rw [cutL_same]; simpa using unhide H0⟩
  case round =>
    clear H0
    obtain ⟨i, rfl, hai, hib, hI⟩ := hrel
    by_cases hil : i < b
    · have a1 : decide ((i : Int) < (b : Int)) = true := by simp; omega
      have a2 : (i : Int) < (L.length : Int) := by omega
      have hLr := (unhide HL).byt (unhide Hh) hI
      rcases hLr.form with ⟨_, e⟩ | ⟨g, cap, e, _, _, hgl, hcell⟩
      · rw [e] at hb; simp at hb; omega
      · obtain ⟨rfl, _, rfl⟩ : ua = some ⟨g, 0, none⟩ ∧ True ∧ uc = cap := by simpa using e
        have c0 := hcell i (by omega)
        have hsn : (cutL L a (i + 1)).flatten = (cutL L a i).flatten ++ L[i] := by rw [cutL_snoc L a i hai (by omega), List.flatten_append]; simp
        have hsz := unhide Hfl i
        have hxs : L[i].length ≤ 1000000 := Nat.le_trans (mem_flat_len (List.getElem_mem (by omega))) hs
        have C1 := hide (dadd_any hI.own L[i] (by rw [List.length_append]; omega) hxs)
        have HI := hide hI
        have Hsn := hide hsn
        clear hI hcell e hsn hLr
        generalize L[i] = x at *
        go_wp2_with fail
        refine (unhide C1).mono ?_
        rintro e w1 ⟨v', rfl, hown, hbl, ho⟩
        rw [List.append_assoc] at hown
        have HN := hide ((unhide HI).step hown hbl ho)
        clear hown hbl ho C1
        go_wp2_with fail
        go_roundw
        case rel => exact ⟨i + 1, by go_num, by omega, by omega, by rw [unhide Hsn]; exact unhide HN⟩
        case measure => simp [intOf]; omega
    · have a1 : decide ((i : Int) < (b : Int)) = false := by simp; omega
      have e1 : i = b := by omega
      subst e1
      have HI := hide hI
      clear hI
      go_wp2_with fail
      go_ret
      exact ⟨_, rfl, unhide HI⟩
end Go.Proofs.Qxb6500416a
