/-
  OWN WORK. THE GRAPH: the real side; what a step leaves.
-/
import Derived.Test.Qxb6500417aGreatGLd
import Derived.Test.Qxb6500417aGreatGP2
import Derived.Test.Qxb6500417aGreatTAbt
import Derived.Test.Qxb6500417aGreatTBld
namespace Go.Proofs.Qxb6500417aGreat
open Go.RowKit Go.PlainAid
set_option linter.unusedSimpArgs false
set_option linter.unusedVariables false

/-- The graph g over the trees t, the store s, the device d: it shows absG J T; saved: S. -/
structure GR (w : World) (g t s d : Nat) (D B : Nat → Nat) (recs : List Rec) (J : Nat → Sl) (rt : Nat) (F : Nat → Prop) (T : Gt) (S : GA) : Prop where
  ts : TS w t s d D B recs J rt F
  gh : GH w g t T
  ap : Apart g t s F
  gi : GI J rt T
  sv : SavI J rt S
/-- The store has gone from J to J'. -/
structure Went (w w' : World) (g t s d : Nat) (D B : Nat → Nat) (recs : List Rec) (J J' : Nat → Sl) (rt rt' : Nat) (F : Nat → Prop) (R : List Rec) (F' : Nat → Prop) : Prop where
  ts : TS w' t s d (replayB D R) B (recs ++ R) J' rt' F'
  cuts : ∀ kk, kk < R.length → Shows (replayB D (R.take kk)) rt (abortJ J)
  keys : ∀ r ∈ R, r.1 < 145
  len : R.length ≤ 3 * frJ J + 1
  ext : ∀ y, F' y → F y ∨ w.heap.size ≤ y
  only : Only (fun y => y = g ∨ y = t ∨ y = s ∨ F y) w w'
section
variable {w w' w1 w2 : World} {g t s d : Nat} {D B : Nat → Nat} {recs : List Rec} {J J' J1 J2 : Nat → Sl} {rt rt' rt2 : Nat} {F F1 F2 : Nat → Prop} {T : Gt} {S : GA} {news R : List Rec}
theorem GR.quiet (h : GR w g t s d D B recs J rt F T S) (ho : Only (fun _ => False) w w') : GR w' g t s d D B recs J rt F T S := ⟨h.ts.quiet ho, h.gh.quiet ho, h.ap, h.gi, h.sv⟩
theorem GR.keep {P : Nat → Prop} (h : GR w g t s d D B recs J rt F T S) (ho : Only P w w') (hP : ∀ y, y = g ∨ y = t ∨ y = s ∨ F y → ¬ P y) : GR w' g t s d D B recs J rt F T S :=
  ⟨h.ts.keep ho (hP t (.inr (.inl rfl))) (hP s (.inr (.inr (.inl rfl)))) (fun k hk => hP k (.inr (.inr (.inr hk)))), h.gh.keep ho (hP g (.inl rfl)), h.ap, h.gi, h.sv⟩
theorem Wrote.went (h : Wrote w w' t s d D B recs J J' rt F news F1) : Went w w' g t s d D B recs J J' rt rt F news F1 :=
  ⟨h.ts, fun kk _ => h.cuts kk, h.keys, by have := h.pot; omega, h.ext, h.only.mono (fun y _ e => by
    rcases e with e | e | e
    · exact .inr (.inl e)
    · exact .inr (.inr (.inl e))
    · exact .inr (.inr (.inr e)))⟩
theorem Went.apart (h : Went w w' g t s d D B recs J J' rt rt' F R F1) (hA : Apart g t s F) (hg : g < w.heap.size) : Apart g t s F1 :=
  ⟨hA.nt, hA.ns, fun e => by
    rcases h.ext g e with e | e
    · exact hA.nF e
    · omega⟩
/-- Nothing has gone into the store. -/
theorem Went.none (h : TS w t s d D B recs J rt F) (h' : TS w' t s d D B recs J' rt' F) (ho : Only (fun y => y = g ∨ y = t ∨ y = s ∨ F y) w w') : Went w w' g t s d D B recs J J' rt rt' F [] F :=
  ⟨by simpa [replayB] using h', fun kk hk => absurd hk (by simp), by simp, by simp, fun y hy => .inl hy, ho⟩
theorem Went.andThen (h : Went w w1 g t s d D B recs J J1 rt rt' F R F1) (h2 : TS w2 t s d (replayB D R) B (recs ++ R) J2 rt2 F1) (ho : Only (fun y => y = g ∨ y = t ∨ y = s ∨ F1 y) w1 w2) : Went w w2 g t s d D B recs J J2 rt rt2 F R F1 := by
  refine ⟨h2, h.cuts, h.keys, h.len, h.ext, h.only.trans ho (fun y hy e => ?_)⟩
  rcases e with e | e | e | e
  · exact .inl e
  · exact .inr (.inl e)
  · exact .inr (.inr (.inl e))
  · rcases h.ext y e with e | e
    · exact .inr (.inr (.inr e))
    · omega
theorem Wrote.pre (ho : Only (fun _ => False) w w1) (h : Wrote w1 w2 t s d D B recs J J1 rt F news F1) : Wrote w w2 t s d D B recs J J1 rt F news F1 := by
  have hs := ho.size
  exact ⟨h.ts, h.cuts, h.same, fun y hy => by
    rcases h.ext y hy with e | e
    · exact .inl e
    · exact .inr (by omega), (ho.mono (T := fun y => y = t ∨ y = s ∨ F y) (fun _ _ h => h.elim)).trans h.only (fun _ _ h => h), h.pot, h.keys⟩
theorem Wrote.post (h : Wrote w w1 t s d D B recs J J1 rt F news F1) (ho : Only (fun _ => False) w1 w2) : Wrote w w2 t s d D B recs J J1 rt F news F1 :=
  ⟨h.ts.quiet ho, h.cuts, h.same, h.ext, h.only.trans ho (fun _ _ h => h.elim), h.pot, h.keys⟩
/-- Puts, then the store's Commit. -/
theorem Wrote.commit {R' : Nat → Nat} (h : Wrote w w1 t s d D B recs J J1 rt F news F1) (hx : TS w2 t s d (putB (replayB D news) 0 R') B (recs ++ news ++ [(0, R')]) J2 rt2 F2) (hF : ∀ y, F2 y → F1 y ∨ w1.heap.size ≤ y) (ho : Only (fun y => y = t ∨ y = s ∨ F1 y) w1 w2) : Went w w2 g t s d D B recs J J2 rt rt2 F (news ++ [(0, R')]) F2 := by
  have hs := h.only.size
  have hp := h.pot
  refine ⟨?_, fun kk hk => ?_, fun r hr => ?_, ?_, fun y hy => ?_, ?_⟩
  · rw [← List.append_assoc]
    have e : replayB D (news ++ [(0, R')]) = putB (replayB D news) 0 R' := by simp [replayB, List.foldl_append]
    rw [e]
    exact hx
  · rw [List.length_append] at hk
    simp at hk
    rw [List.take_append_of_le_length (by omega)]
    exact h.cuts kk
  · rcases List.mem_append.1 hr with e | e
    · exact h.keys r e
    · simp at e; rw [e]; show 0 < 145; omega
  · rw [List.length_append]; simp; omega
  · rcases hF y hy with e | e
    · exact h.ext y e
    · exact .inr (by omega)
  · refine (h.only.mono (T := fun y => y = g ∨ y = t ∨ y = s ∨ F y) (fun y _ e => .inr e)).trans (ho.mono (T := fun y => y = g ∨ y = t ∨ y = s ∨ F1 y) (fun y _ e => .inr e)) (fun y hy e => ?_)
    rcases e with e | e | e | e
    · exact .inl e
    · exact .inr (.inl e)
    · exact .inr (.inr (.inl e))
    · rcases h.ext y e with e | e
      · exact .inr (.inr (.inr e))
      · omega
end
end Go.Proofs.Qxb6500417aGreat
