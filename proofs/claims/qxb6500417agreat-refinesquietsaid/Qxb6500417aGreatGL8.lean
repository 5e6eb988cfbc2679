/-
  OWN WORK. THE GRAPH LAW: Parents, SameSetAux, SameCommit (written by tools/gen_gl8.py).
-/
import Derived.Test.Qxb6500417aGreatGL7
namespace Go.Proofs.Qxb6500417aGreat
open Go.RowKit Go.PlainAid
set_option linter.unusedSimpArgs false
set_option linter.unusedVariables false

theorem rowErr_ne5 (p : ByteArray) (m : Int) (n : Nat) (prev : List ByteArray) : rowErr p m n prev ≠ 5 := by
  unfold rowErr
  repeat' (split)
  all_goals (first | decide | omega)
theorem chkF_ne5 : ∀ (l : List Fl) (prev : List ByteArray), chkF l prev ≠ 5
  | [], _ => by simp [chkF]
  | f :: l, prev => by
    unfold chkF
    split
    · exact chkF_ne5 l _
    · exact rowErr_ne5 _ _ _ _
theorem checkF_ne5 (l : List Fl) : checkF l ≠ 5 := by
  unfold checkF
  split
  · decide
  · exact chkF_ne5 l []
theorem comE_ne5 (A : GA) (l : List Fl) (ps : List Int) (msg : ByteArray) : comE A l ps msg ≠ 5 := by
  unfold comE
  split
  · exact checkF_ne5 l
  · repeat' (split)
    all_goals decide
theorem comE_chk {A : GA} {l : List Fl} {ps : List Int} {msg : ByteArray} (h : comE A l ps msg = 0) : checkF l = 0 := by
  unfold comE at h
  by_cases hc : checkF l ≠ 0
  · rw [if_pos hc] at h; exact absurd h hc
  · simpa using hc
/-- The list of parents that a step's numbers stand for. -/
def parL (a b c : Int) : List Int := if c ≤ 0 then [] else if c = 1 then [a] else if c = 2 then [a, b] else [a, b, a]
theorem parL_len (a b c : Int) : (parL a b c).length ≤ 3 := by unfold parL; split <;> (try split) <;> (try split) <;> simp
theorem lit_II {w w1 : World} (ho : Only (fun _ => False) w w1) (l : List Int) (hl : 0 < l.length) (hn : l.length ≤ 3) (n : Nat) (hN : n = l.length) : II w (.slice (some ⟨w1.heap.size, 0, none⟩) n n) l (w1.alloc (.cells (iV l).toArray 3)) := by
  subst hN
  have hs := ho.size
  refine ⟨?_, fun y hy => ?_, ho.trans ((Only.refl _ w1).alloc _) (fun _ _ h => h)⟩
  · have := World.ownsRow_lit (base := 0) (e := 3) (size := 1) w1 (iV l).toArray l.length (by omega) (by unfold maxLen; omega) (by simp [iV])
    unfold OwnI
    simpa using this
  · simp [Value.ownBlock] at hy
    omega
section
variable {w w' w1 w2 : World} {g t s d m : Nat} {D : Nat → Nat} {J : Nat → Sl} {rt : Nat} {F : Nat → Prop} {T : Gt} {S : GA} {r sr : Int} {H : Nat → Prop}
set_option maxRecDepth 100000 in
theorem glpar_any (ok oa ob oc : Int) (os ot : ByteArray) :
    Calls Tryz.prog 92 #[.agg #[.int .i64 ok, .int .i64 oa, .int .i64 ob, .int .i64 oc, .string os, .string ot]] w fun e w' => ∃ v, e = .returned v ∧ II w v (parL oa ob oc) w' := by
  have oA := (Only.refl (fun _ => False) w).alloc (.cells #[.int .i64 ok, .int .i64 oa, .int .i64 ob, .int .i64 oc, .string os, .string ot] 42)
  have hB := Has.new w #[.int .i64 ok, .int .i64 oa, .int .i64 ob, .int .i64 oc, .string os, .string ot] 42
  have x1 := hB.cell 1
  have x2 := hB.cell 2
  have x3 := hB.cell 3
  simp only [List.getElem?_toArray, List.getElem?_cons_zero, List.getElem?_cons_succ] at x1 x2 x3
  have xl := hB.lt
  have OA := hide oA
  have HL := hide (fun (l : List Int) (h1 : 0 < l.length) (h2 : l.length ≤ 3) (n : Nat) (h3 : n = l.length) => lit_II oA l h1 h2 n h3)
  obtain ⟨P, hP⟩ : ∃ P, parL oa ob oc = P := ⟨_, rfl⟩
  rw [hP]
  unfold parL at hP
  clear oA hB
  go_enter Tryz.func92, Tryz.ntmps92
  go_upto_region 1 with fail
  generalize w.alloc (.cells #[.int .i64 ok, .int .i64 oa, .int .i64 ob, .int .i64 oc, .string os, .string ot] 42) = W at *
  generalize w.heap.size = k at *
  by_cases h0 : oc ≤ 0
  · rw [if_pos h0] at hP
    subst hP
    have d0 : decide (oc ≤ 0) = true := decide_eq_true h0
    go_wp2_with fail
    go_ret
    exact ⟨_, rfl, OwnI.nil _, by simp [Value.ownBlock], unhide OA⟩
  · rw [if_neg h0] at hP
    have d0 : decide (oc ≤ 0) = false := decide_eq_false h0
    by_cases h1 : oc = 1
    · rw [if_pos h1] at hP
      subst hP
      have d1 : (oc == 1) = true := by simp [h1]
      have HX := hide (unhide HL [oa] (by simp) (by simp) 1 rfl)
      clear h0 h1 HL
      go_wp2_with fail
      go_ret
      exact ⟨_, rfl, unhide HX⟩
    · rw [if_neg h1] at hP
      have d1 : (oc == 1) = false := ne_intO h1
      by_cases h2 : oc = 2
      · rw [if_pos h2] at hP
        subst hP
        have d2 : (oc == 2) = true := by simp [h2]
        have HX := hide (unhide HL [oa, ob] (by simp) (by simp) 2 rfl)
        clear h0 h1 h2 HL
        go_wp2_with fail
        go_ret
        exact ⟨_, rfl, unhide HX⟩
      · rw [if_neg h2] at hP
        subst hP
        have d2 : (oc == 2) = false := ne_intO h2
        have HX := hide (unhide HL [oa, ob, oa] (by simp) (by simp) 3 rfl)
        clear h0 h1 h2 HL
        go_wp2_with fail
        go_ret
        exact ⟨_, rfl, unhide HX⟩
/-- SetAux, both sides. -/
theorem PlX.aux (h : GJ w g t s d m D J rt F T S r sr H) {l : List Fl} {en en2 : Nat} (hS : AxP w w1 g t s d D D [] J rt F T S l en) (hM : (checkF l ≠ 0 ∧ en2 = checkF l ∧ MT w1 w2 m true (absG J T) r S sr true H) ∨ (checkF l = 0 ∧ en2 = 0 ∧ MT w1 w2 m true { absG J T with aux := l } (r - (costA l : Nat)) S sr true H)) (hca : costA l ≤ 10000 ∨ checkF l ≠ 0) : ∃ full : Bool, (en = 5 ↔ full = true) ∧ (full = false → en = en2) ∧ PlX w w2 g t s d m D J rt F T S r sr H 7 full := by
  obtain ⟨J', T', R, F', hW, hG, hsm, hc⟩ := hS.ex
  rw [List.nil_append] at hG
  have hrb := h.rb
  have hlo := h.lo
  have hls := h.ls
  have hfe : frJ (abortJ J') = frJ (abortJ J) := frJ_eq hsm
  rcases hM with ⟨m1, m2, hM⟩ | ⟨m1, m2, hM⟩
  · obtain ⟨a1, a2, a3, a4, a5, a6⟩ := PlP.went h hW hG hM
    rcases hc with ⟨c1, c2, rfl, rfl⟩ | ⟨c1, _⟩ | ⟨c1, _⟩
    · refine ⟨false, ⟨fun e => ?_, fun e => Bool.noConfusion e⟩, fun _ => by rw [c2, m2], J', rt, R, F', T', S, _, _, _, _, _, a1, a2, a3, a4, hW.cuts, hW.keys, a5, fun _ => ⟨rfl, rfl, hfe⟩, a6, fun N hN _ => hN.step, ⟨by omega, by omega⟩, fun _ => ⟨rfl, rfl, hlo, hls, fun e => absurd e (by decide), fun _ _ => by omega, fun e => absurd e (by decide), fun e => absurd e (by decide)⟩, fun e => Bool.noConfusion e, fun e => by cases e⟩
      rw [c2] at e
      exact absurd e (checkF_ne5 l)
    · exact absurd c1 m1
    · exact absurd c1 m1
  · obtain ⟨a1, a2, a3, a4, a5, a6⟩ := PlP.went h hW hG hM
    have hca2 : costA l ≤ 10000 := hca.resolve_right (fun e => e m1)
    have hcl := cost_le m1
    rcases hc with ⟨c1, _⟩ | ⟨c1, c2, c3, c4, c5⟩ | ⟨c1, c2, c3, c4⟩
    · exact absurd m1 c1
    · have hn : T'.nx = T.nx := by
        have : (absG J' T').nx = (absG J T).nx := by rw [c3]
        exact this
      refine ⟨true, ⟨fun _ => rfl, fun _ => c2⟩, fun e => Bool.noConfusion e, J', rt, R, F', T', S, _, _, _, _, _, a1, a2, a3, a4, hW.cuts, hW.keys, a5, fun _ => ⟨rfl, rfl, hfe⟩, a6, fun N hN _ => ?_, ⟨by omega, by omega⟩, fun e => Bool.noConfusion e, fun _ => ⟨c3, rfl, hfe, fun e => absurd e (by decide), fun _ => by omega, fun e => absurd e (by decide), fun _ _ => by omega, by decide⟩, fun e => by cases e⟩
      have := hN.step
      have := hN.r1; have := hN.r2
      rw [hn]
      exact ⟨by omega, by omega, hN.step.s1, hN.step.s2, hN.step.n, hN.step.sn⟩
    · have hn : T'.nx = T.nx := by
        have : (absG J' T').nx = (absG J T).nx := by rw [c3]
        exact this
      refine ⟨false, ⟨fun e => by omega, fun e => Bool.noConfusion e⟩, fun _ => by omega, J', rt, R, F', T', S, _, _, _, _, _, a1, a2, a3, a4, hW.cuts, hW.keys, a5, fun _ => ⟨rfl, rfl, hfe⟩, a6, fun N hN _ => ?_, ⟨by omega, by omega⟩, fun _ => ⟨c3.symm, rfl, by omega, by rw [hfe]; exact hls, fun e => absurd e (by decide), fun _ _ => by omega, fun e => absurd e (by decide), fun e => absurd e (by decide)⟩, fun e => Bool.noConfusion e, fun e => by cases e⟩
      have := hN.r1; have := hN.r2
      rw [hn]
      exact ⟨by omega, by omega, hN.step.s1, hN.step.s2, hN.step.n, hN.step.sn⟩
/-- Commit, both sides. -/
theorem PlX.com (h : GJ w g t s d m D J rt F T S r sr H) {l : List Fl} {ps : List Int} {msg : ByteArray} {sq en sq2 en2 : Nat} (hS : CmP w w1 g t s d D D [] J rt F T S l ps msg sq en) (hM : McP w1 w2 m (absG J T) r S sr true H l ps msg sq2 en2) (hca : costA l ≤ 10000 ∨ checkF l ≠ 0) : ∃ full : Bool, (en = 5 ↔ full = true) ∧ (full = false → en = en2 ∧ sq = sq2) ∧ (full = true → sq = 0) ∧ PlX w w2 g t s d m D J rt F T S r sr H 2 full := by
  obtain ⟨J', T', R, F', hW, hG, hsm, hc⟩ := hS.ex
  rw [List.nil_append] at hG
  have hrb := h.rb
  have hlo := h.lo
  have hls := h.ls
  have hfe : frJ (abortJ J') = frJ (abortJ J) := frJ_eq hsm
  rcases hM with ⟨m1, m2, m3, hM⟩ | ⟨m1, m2, m3, hM⟩
  · obtain ⟨a1, a2, a3, a4, a5, a6⟩ := PlP.went h hW hG hM
    rcases hc with ⟨c1, c2, c3, rfl, rfl⟩ | ⟨c1, _⟩ | ⟨c1, _⟩
    · refine ⟨false, ⟨fun e => ?_, fun e => Bool.noConfusion e⟩, fun _ => ⟨by rw [c2, m2], by rw [c3, m3]⟩, fun e => Bool.noConfusion e, J', rt, R, F', T', S, _, _, _, _, _, a1, a2, a3, a4, hW.cuts, hW.keys, a5, fun _ => ⟨rfl, rfl, hfe⟩, a6, fun N hN _ => hN.step, ⟨by omega, by omega⟩, fun _ => ⟨rfl, rfl, hlo, hls, fun e => absurd e (by decide), fun _ _ => by omega, fun e => absurd e (by decide), fun e => absurd e (by decide)⟩, fun e => Bool.noConfusion e, fun e => by cases e⟩
      rw [c2] at e
      exact absurd e (comE_ne5 _ _ _ _)
    · exact absurd c1 m1
    · exact absurd c1 m1
  · obtain ⟨a1, a2, a3, a4, a5, a6⟩ := PlP.went h hW hG hM
    have hck : checkF l = 0 := comE_chk m1
    have hca2 : costA l ≤ 10000 := hca.resolve_right (fun e => e hck)
    have hcl := cost_le hck
    rcases hc with ⟨c1, _⟩ | ⟨c1, c2, c6, c3, c4, c5⟩ | ⟨c1, c2, c6, c3, c4⟩
    · exact absurd m1 c1
    · have hn : T'.nx = T.nx := by
        have : (absG J' T').nx = (absG J T).nx := by rw [c3]
        exact this
      refine ⟨true, ⟨fun _ => rfl, fun _ => c2⟩, fun e => Bool.noConfusion e, fun _ => c6, J', rt, R, F', T', S, _, _, _, _, _, a1, a2, a3, a4, hW.cuts, hW.keys, a5, fun _ => ⟨rfl, rfl, hfe⟩, a6, fun N hN _ => ?_, ⟨by omega, by omega⟩, fun e => Bool.noConfusion e, fun _ => ⟨c3, rfl, hfe, fun e => absurd e (by decide), fun _ => by omega, fun e => absurd e (by decide), fun _ _ => by omega, by decide⟩, fun e => by cases e⟩
      have := hN.r1; have := hN.r2
      rw [hn]
      exact ⟨by omega, by omega, hN.step.s1, hN.step.s2, hN.step.n, hN.step.sn⟩
    · have hn : T'.nx = T.nx + 1 := by
        have : (absG J' T').nx = (absG J T).nx + 1 := by rw [c3]; rfl
        exact this
      refine ⟨false, ⟨fun e => by omega, fun e => Bool.noConfusion e⟩, fun _ => ⟨by omega, by rw [c6, m3]; rfl⟩, fun e => Bool.noConfusion e, J', rt, R, F', T', S, _, _, _, _, _, a1, a2, a3, a4, hW.cuts, hW.keys, a5, fun _ => ⟨rfl, rfl, hfe⟩, a6, fun N hN _ => ?_, ⟨by omega, by omega⟩, fun _ => ⟨c3.symm, rfl, by omega, by rw [hfe]; exact hls, fun e => absurd e (by decide), fun _ _ => by omega, fun e => absurd e (by decide), fun e => absurd e (by decide)⟩, fun e => Bool.noConfusion e, fun e => by cases e⟩
      have := hN.r1; have := hN.r2; have := hN.n
      rw [hn]
      exact ⟨by omega, by omega, hN.step.s1, hN.step.s2, by omega, hN.step.sn⟩
end
end Go.Proofs.Qxb6500417aGreat
