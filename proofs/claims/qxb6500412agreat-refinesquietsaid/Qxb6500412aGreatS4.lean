/-
  OWN WORK. QUERY: the parser: its token ahead; step, fail.
-/
import Derived.Test.Qxb6500412aGreatS3
import Derived.Deep.RegionWith
namespace Go.Proofs.Qxb6500412aGreat
open Go.RowKit Go.PlainAid
set_option linter.unusedSimpArgs false
set_option linter.unusedVariables false

/-- The token ahead shows what is left. -/
def TkR (t : ByteArray) : List Tk × Bool → Int → ByteArray → Int → Int → Prop
  | ([], true), k, s, v, e => k = 0 ∧ s = ⟨#[]⟩ ∧ v = 0
  | ([], false), k, s, v, e => k = 1 ∧ s = ⟨#[]⟩ ∧ v = 0
  | (x :: l, b), k, s, v, e => ∃ n : Nat, tkV k s v e = tokC (some (x, n)) ∧ n ≤ t.size ∧ toks t n = (l, b)
def psC (t : ByteArray) (k : Int) (s : ByteArray) (v e : Int) : Array Value := #[.string t, .int .i64 k, .string s, .int .i64 v, .int .i64 e]
/-- The parser in memory. -/
def PS (w : World) (kp : Nat) (t : ByteArray) (P : List Tk × Bool) : Prop := ∃ k s v e, Has w kp (psC t k s v e) 229 ∧ TkR t P k s v e
section
variable {w w' : World} {kp : Nat} {t : ByteArray} {P : List Tk × Bool}
theorem PS.keep {B : Nat → Prop} (h : PS w kp t P) (ho : Only B w w') (hB : ¬ B kp) : PS w' kp t P := by
  obtain ⟨k, s, v, e, h1, h2⟩ := h
  exact ⟨k, s, v, e, h1.keep ho hB, h2⟩
theorem PS.lt (h : PS w kp t P) : kp < w.heap.size := by
  obtain ⟨k, s, v, e, h1, h2⟩ := h
  exact h1.lt
theorem lexC_R {i : Nat} (hi : i ≤ t.size) : ∃ k s v e, lexC t i = tkV k s v e ∧ TkR t (toks t i) k s v e := by
  unfold lexC
  by_cases c : run blkC t i < t.size
  · rw [if_pos c]
    cases hx : tokA t (run blkC t i) with
    | none =>
      rw [toks_bad hi c hx]
      exact ⟨_, _, _, _, rfl, rfl, rfl, rfl⟩
    | some x =>
      rw [toks_some hi c hx]
      obtain ⟨k, s, v, e, h⟩ := tokC_tk (some x)
      have he := tokA_end c hx
      exact ⟨k, s, v, e, h, x.2, h.symm, he.2, rfl⟩
  · rw [if_neg c, toks_end hi (by omega)]
    exact ⟨_, _, _, _, rfl, rfl, rfl, rfl⟩
theorem TkR.end_ {x : Tk} {l : List Tk} {b : Bool} {k : Int} {s : ByteArray} {v e : Int} (h : TkR t (x :: l, b) k s v e) : ∃ n : Nat, e = (n : Int) ∧ n ≤ t.size ∧ toks t n = (l, b) := by
  obtain ⟨n, h1, h2, h3⟩ := h
  refine ⟨n, ?_, h2, h3⟩
  cases x <;> simp [tokC, tkV] at h1 <;> omega
theorem psC_set {k : Int} {s : ByteArray} {v e : Int} (h : Has w kp (psC t k s v e) 229) (k' : Int) (s' : ByteArray) (v' e' : Int) : Has ((((w.setCell ⟨kp, 1, none⟩ (.int .i64 k')).setCell ⟨kp, 2, none⟩ (.string s')).setCell ⟨kp, 3, none⟩ (.int .i64 v')).setCell ⟨kp, 4, none⟩ (.int .i64 e')) kp (psC t k' s' v' e') 229 :=
  (((h.setCell 1 (.int .i64 k')).setCell 2 (.string s')).setCell 3 (.int .i64 v')).setCell 4 (.int .i64 e')
theorem onlyS4' (w : World) (g : Nat) (a b x y : Value) : Only (fun k => k = g) w ((((w.setCell ⟨g, 1, none⟩ a).setCell ⟨g, 2, none⟩ b).setCell ⟨g, 3, none⟩ x).setCell ⟨g, 4, none⟩ y) := (((only1 (p := g) _ _).trans (only1 (p := g) _ _) (fun _ _ h => h)).trans (only1 (p := g) _ _) (fun _ _ h => h)).trans (only1 (p := g) _ _) (fun _ _ h => h)
/-- What a method of the parser leaves. -/
def PaP (kp : Nat) (t : ByteArray) (P : List Tk × Bool) (w w' : World) : Prop := PS w' kp t P ∧ Only (fun b => b = kp) w w'
set_option maxRecDepth 100000 in
theorem sqfail_any (h : PS w kp t P) : Calls Tryz.prog 223 #[.pointer (some ⟨kp, 0, none⟩)] w fun e w' => e = .returned (.tuple #[]) ∧ PaP kp t ([], false) w w' := by
  obtain ⟨k, s, v, e, h1, h2⟩ := h
  have FF := hide (show PaP kp t ([], false) w ((((w.setCell ⟨kp, 1, none⟩ (.int .i64 1)).setCell ⟨kp, 2, none⟩ (.string ⟨#[]⟩)).setCell ⟨kp, 3, none⟩ (.int .i64 0)).setCell ⟨kp, 4, none⟩ (.int .i64 0)) from ⟨⟨1, ⟨#[]⟩, 0, 0, psC_set h1 1 ⟨#[]⟩ 0 0, rfl, rfl, rfl⟩, onlyS4' w kp _ _ _ _⟩)
  have c1 : w.cell? ⟨kp, 1, none⟩ = some (.int .i64 k) := h1.cell 1
  have c2 : w.cell? ⟨kp, 2, none⟩ = some (.string s) := h1.cell 2
  have c3 : w.cell? ⟨kp, 3, none⟩ = some (.int .i64 v) := h1.cell 3
  have c4 : w.cell? ⟨kp, 4, none⟩ = some (.int .i64 e) := h1.cell 4
  have f1 := h1.free 1
  have f2 := h1.free 2
  have f3 := h1.free 3
  have f4 := h1.free 4
  have kl := h1.lt
  clear h1 h2
  go_enter Tryz.func223, Tryz.ntmps223
  go_wp2_with fail
  go_end0
  exact ⟨rfl, unhide FF⟩
set_option maxRecDepth 100000 in
set_option maxHeartbeats 4000000 in
theorem sqstep_at (ht : t.size ≤ 256) {k : Int} {s : ByteArray} {v : Int} {n : Nat} (hn : n ≤ t.size) (h1 : Has w kp (psC t k s v (n : Int)) 229) : Calls Tryz.prog 159 #[.pointer (some ⟨kp, 0, none⟩)] w fun e w' => e = .returned (.tuple #[]) ∧ PaP kp t (toks t n) w w' := by
  obtain ⟨k', s', v', e', hl, hr⟩ := lexC_R (t := t) hn
  have o1 : Only (fun _ => False) w w.drew := (Only.refl _ w).drew
  have CL := sqlex_any t ht n hn w.drew
  rw [hl] at CL
  unfold tkV at CL
  have CL := hide CL
  have HP := hide (show ∀ w2, Only (fun _ => False) w.drew w2 → (w2.cell? ⟨kp, 1, none⟩ = some (.int .i64 k) ∧ w2.cell? ⟨kp, 2, none⟩ = some (.string s) ∧ w2.cell? ⟨kp, 3, none⟩ = some (.int .i64 v) ∧ w2.cell? ⟨kp, 4, none⟩ = some (.int .i64 (n : Int)) ∧ w2.frozen? ⟨kp, 1, none⟩ = false ∧ w2.frozen? ⟨kp, 2, none⟩ = false ∧ w2.frozen? ⟨kp, 3, none⟩ = false ∧ w2.frozen? ⟨kp, 4, none⟩ = false ∧ kp < w2.heap.size) ∧ PaP kp t (toks t n) w ((((w2.setCell ⟨kp, 1, none⟩ (.int .i64 k')).setCell ⟨kp, 2, none⟩ (.string s')).setCell ⟨kp, 3, none⟩ (.int .i64 v')).setCell ⟨kp, 4, none⟩ (.int .i64 e')) from fun w2 o2 => by
    have h2 := (h1.keep o1 (fun e => e)).keep o2 (fun e => e)
    exact ⟨⟨h2.cell 1, h2.cell 2, h2.cell 3, h2.cell 4, h2.free 1, h2.free 2, h2.free 3, h2.free 4, h2.lt⟩, ⟨_, _, _, _, psC_set h2 _ _ _ _, hr⟩, ((o1.trans o2 (fun _ _ e => e)).mono (fun _ _ e => e.elim)).trans (onlyS4' w2 kp _ _ _ _) (fun _ _ e => e)⟩)
  have c0 : w.cell? ⟨kp, 0, none⟩ = some (.string t) := h1.cell 0
  have c4 : w.cell? ⟨kp, 4, none⟩ = some (.int .i64 (n : Int)) := h1.cell 4
  have kl := h1.lt
  clear h1 hl hr o1
  go_enter Tryz.func159, Tryz.ntmps159
  go_region_with (go_at_call 214; refine (unhide CL).mono ?_; rintro e w2 ⟨rfl, o2⟩; obtain ⟨⟨d1, d2, d3, d4, g1, g2, g3, g4, gl⟩, hfin⟩ := unhide HP w2 o2; have HF := hide hfin; clear o2 hfin)
  all_goals
    go_wp2_with fail
    go_end0
    exact ⟨rfl, unhide HF⟩
theorem sqstep_any (ht : t.size ≤ 256) {x : Tk} {l : List Tk} {b : Bool} (h : PS w kp t (x :: l, b)) : Calls Tryz.prog 159 #[.pointer (some ⟨kp, 0, none⟩)] w fun e w' => e = .returned (.tuple #[]) ∧ PaP kp t (l, b) w w' := by
  obtain ⟨k, s, v, e, h1, h2⟩ := h
  obtain ⟨n, rfl, hn, ht2⟩ := h2.end_
  rw [← ht2]
  exact sqstep_at ht hn h1
end
end Go.Proofs.Qxb6500412aGreat
