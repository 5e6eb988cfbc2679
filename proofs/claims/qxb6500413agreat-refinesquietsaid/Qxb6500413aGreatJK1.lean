/-
  OWN WORK. THE TABLE LAW: KeptStep of a changing step.
-/
import Derived.Test.Qxb6500413aGreatJK0
namespace Go.Proofs.Qxb6500413aGreat
open Go.RowKit Go.PlainAid
set_option linter.unusedSimpArgs false
set_option linter.unusedVariables false

def opB (kind a bb cc : Int) (s T : ByteArray) : Array Value := #[.int .i64 kind, .int .i64 a, .int .i64 bb, .int .i64 cc, .string s, .string T]
section
variable {lo : Nat} {w w' : World} {q : Gnd} {x g : Nat} {op : Bool} {S C : Vu} {T TC : List (Tb × Hd)} {cv mv : Value} {cl ml : List GE}
set_option maxRecDepth 100000 in
set_option maxHeartbeats 4000000 in
/-- A changing step answers what is owed. -/
theorem jkeptChange (kind a bb cc : Int) (s t : ByteArray) (hk1 : 1 ≤ kind) (hk9 : kind ≤ 9) {z : Int} {RR QQ : World → Prop} (C1 : Calls Tryz.prog 40 #[.pointer (some ⟨x, 0, none⟩), opA kind a bb cc s t] (w.alloc (.cells (opB kind a bb cc s t) 41)) (fun e w2 => e = .returned (.int .i64 z) ∧ RR w2))
    (hB : ∀ w2, RR w2 → Has w2 w.heap.size (opB kind a bb cc s t) 41) (C2 : ∀ w2, RR w2 → Calls Tryz.prog 41 #[.pointer (some ⟨g, 0, none⟩), opA kind a bb cc s t] w2 (fun e w3 => e = .returned (.int .i64 z) ∧ QQ w3)) :
    Calls Tryz.prog 15 #[.pointer (some ⟨x, 0, none⟩), .pointer (some ⟨g, 0, none⟩), opA kind a bb cc s t] w (fun e w3 => e = .returned (.bool true) ∧ QQ w3) := by
  have A1 : Has (w.alloc (.cells (opB kind a bb cc s t) 41)) w.heap.size (opB kind a bb cc s t) 41 := Has.new w _ _
  have d1 : decide (kind ≥ 1) = true := decide_eq_true hk1
  have d1' : decide (1 ≤ kind) = true := decide_eq_true hk1
  have d9 : decide (kind ≤ 9) = true := decide_eq_true hk9
  have HB := hide hB
  have HC := hide C2
  unfold opB at *
  have a0 := A1.cell 0
  have a1 := A1.cell 1
  have a2 := A1.cell 2
  have a3 := A1.cell 3
  have a4 := A1.cell 4
  have a5 := A1.cell 5
  simp at a0 a1 a2 a3 a4 a5
  unfold opA at *
  have C1 := hide C1
  clear A1 hk1 hk9 hB C2
  go_enter Tryz.func15, Tryz.ntmps15
  go_wp2_with fail
  refine (unhide C1).mono ?_
  rintro e w2 ⟨rfl, r2⟩
  have A2 := unhide HB w2 r2
  have C3 := hide (unhide HC w2 r2)
  clear a0 a1 a2 a3 a4 a5 C1 HB HC r2
  generalize w.alloc (.cells #[.int .i64 kind, .int .i64 a, .int .i64 bb, .int .i64 cc, .string s, .string t] 41) = w1 at *
  generalize w.heap.size = kb at *
  have a0 := A2.cell 0
  have a1 := A2.cell 1
  have a2 := A2.cell 2
  have a3 := A2.cell 3
  have a4 := A2.cell 4
  have a5 := A2.cell 5
  simp at a0 a1 a2 a3 a4 a5
  clear A2
  go_wp2_with fail
  refine (unhide C3).mono ?_
  rintro e w3 ⟨rfl, r3⟩
  have HR := hide r3
  have dz : (z == z) = true := by simp
  clear r3 C3 a0 a1 a2 a3 a4 a5
  go_wp2_with fail
  go_ret
  exact ⟨rfl, unhide HR⟩
theorem Only.SD {w w' : World} (h : Only q.S w w') : Only (fun k => q.D k ∨ k = g ∨ GLm cv cl k) w w' := h.mono (fun k _ h => .inl (by rcases h with h | h; exact .inr (.inl h); exact .inr (.inr h)))
/-- What a bracket step of the ghost leaves. -/
def BrQ (op' : Bool) (X Y : List Tb) (w : World) (g : Nat) (cv : Value) (cl : List GE) (mv : Value) (ml : List GE) (w' : World) : Prop :=
  ∃ (cv' : Value) (cl' : List GE) (mv' : Value) (ml' : List GE), GH w' g cv' cl' mv' ml' op' ∧ cl'.map (·.t) = X ∧ ml'.map (·.t) = Y ∧ (∀ k, GLm cv' cl' k → GLm cv cl k ∨ w.heap.size ≤ k) ∧ (∀ k, GLm mv' ml' k → GLm mv ml k ∨ w.heap.size ≤ k) ∧ (∀ k, GLi cl' k ∨ GLi ml' k → GLi cl k ∨ GLi ml k) ∧ Only (fun k => k = g) w w'
theorem BrP.use {kind : Int} {y : Ending} {op' : Bool} {z : Int} {X Y : List Tb} (h : BrP kind w g cv cl mv ml op y w') (hd : ∀ z1 op1 C' M', DBr kind op (cl.map (·.t)) (ml.map (·.t)) z1 op1 C' M' → z1 = z ∧ op1 = op' ∧ C' = X ∧ M' = Y) : y = .returned (.int .i64 z) ∧ BrQ op' X Y w g cv cl mv ml w' := by
  obtain ⟨cv', cl', mv', ml', op1, z1, rfl, h1, h2, h3, h4, h5, h6⟩ := h
  obtain ⟨rfl, rfl, hX, hY⟩ := hd _ _ _ _ h2
  exact ⟨rfl, cv', cl', mv', ml', h1, hX, hY, h3, h4, h5, h6⟩
/-- A bracket step: the store's side and the ghost's. -/
theorem TsP.bracket (J : TJ lo w q x g op S C T TC cv mv cl ml) {w2 w3 : World} {q' : Gnd} {op' : Bool} {S' C' : Vu} {T' TC' : List (Tb × Hd)} {X Y : List Tb} (st : ST q' w2 x op' S') (la : Lay S' T') (cf : ComF q'.com C') (lc : Lay C' TC') (on : Only q.D w w2) (hq : (q' = q ∧ dbOf TC' = dbOf TC) ∨ ∃ rs com wa wb, q' = q.done rs com wa wb ∧ w.heap.size ≤ wa.heap.size ∧ CutInv q.blk rs q.com com) (B : BrQ op' X Y w2 g cv cl mv ml w3) (hX : GP X (dbOf T')) (hY : GP Y (dbOf TC')) : TsP lo w q x g TC cv cl (.returned (.bool true)) w3 := by
  obtain ⟨cv', cl', mv', ml', G, e1, e2, f1, f2, f3, o3⟩ := B
  have s2 := on.size
  have qA : ∀ k, q'.A k → q.A k ∨ w.heap.size ≤ k := fun k hk => by
    rcases hq with ⟨rfl, _⟩ | ⟨rs, com, wa, wb, rfl, hs, _⟩
    · exact .inl hk
    · rcases done_A hk with h | h
      · exact .inl h
      · exact .inr (by omega)
  have lo' := J.low
  have cl1 := J.gh.cur.lt
  have ml1 := J.gh.com.lt
  have alt := st.fv.Alt
  have xl := st.has.lt
  have old : ∀ k, k < w.heap.size → ¬ q.A k → ¬ q'.A k := fun k hk h h' => by
    rcases qA k h' with c | c
    · exact h c
    · omega
  have sg' : ¬ q'.A g ∧ g ≠ x ∧ lo ≤ g := ⟨old g J.gh.has.lt J.sg.1, J.sg.2⟩
  have ncw : ∀ k, w2.heap.size ≤ k → ¬ q'.A k ∧ k ≠ x ∧ lo ≤ k := fun k hk => ⟨fun h => by have := alt k h; omega, by omega, by omega⟩
  have oc : ∀ k, GLa cv cl k → ¬ q'.A k ∧ k ≠ x ∧ lo ≤ k := fun k hk => ⟨old k (cl1 k hk) (J.sc k hk).1, (J.sc k hk).2⟩
  have om : ∀ k, GLa mv ml k → ¬ q'.A k ∧ k ≠ x ∧ lo ≤ k := fun k hk => ⟨old k (ml1 k hk) (J.sm k hk).1, (J.sm k hk).2⟩
  refine ⟨rfl, q', op', S', C', T', TC', cv', mv', cl', ml', ⟨GH.seps (cv := cv) (cl := cl) (fun k hk => .inl hk) ⟨sg'.1, sg'.2.1⟩ (fun k hk => ⟨(oc k hk).1, (oc k hk).2.1⟩) st o3, la, G, by rw [e1]; exact hX, cf, lc, by rw [e2]; exact hY, sg', fun k hk => ?_, fun k hk => ?_, fun k hk => ?_, J.xlo⟩, ?_, fun k hk => ?_, ?_⟩
  · rcases hk with hk | hk
    · rcases f1 k hk with h | h
      · exact oc k (.inl h)
      · exact ncw k h
    · rcases f3 k (.inl hk) with h | h
      · exact oc k (.inr h)
      · exact om k (.inr h)
  · rcases hk with hk | hk
    · rcases f2 k hk with h | h
      · exact om k (.inl h)
      · exact ncw k h
    · rcases f3 k (.inr hk) with h | h
      · exact oc k (.inr h)
      · exact om k (.inr h)
  · rcases qA k hk with c | c
    · exact J.qlo k c
    · omega
  · exact hq
  · rcases f1 k hk with h | h
    · exact .inl h
    · exact .inr (by omega)
  · exact (on.mono (fun k _ h => Or.inl h)).trans o3 (fun k _ h => .inr (.inl h))
/-- A change in a transaction: the store's side and the ghost's. -/
theorem TsP.change (J : TJ lo w q x g true S C T TC cv mv cl ml) {w2 w3 : World} {kind a : Int} {s t : ByteArray} {y : Ending} (dq : DbQ q w x (dueD kind a s t (dbOf T)).1 w2) (D : DuP kind a s t (dbOf T) w2 g cv cl mv ml y w3) : TsP lo w q x g TC cv cl (.returned (.bool true)) w3 := by
  obtain ⟨⟨S', T', st, la, hd⟩, on⟩ := dq
  obtain ⟨cv', cl', _, G, gp, f1, f2, o3⟩ := D
  have s2 := on.size
  have lo' := J.low
  have alt := st.fv.Alt
  have xl := st.has.lt
  have ncw : ∀ k, w2.heap.size ≤ k → ¬ q.A k ∧ k ≠ x ∧ lo ≤ k := fun k hk => ⟨fun h => by have := alt k h; omega, by omega, by omega⟩
  refine ⟨rfl, q, true, S', C, T', TC, cv', mv, cl', ml, ⟨GH.seps (cv := cv) (cl := cl) (fun k hk => hk) ⟨J.sg.1, J.sg.2.1⟩ (fun k hk => ⟨(J.sc k hk).1, (J.sc k hk).2.1⟩) st o3, la, G, by rw [hd]; exact gp, J.cf, J.lc, J.gm, J.sg, fun k hk => ?_, J.sm, J.qlo, J.xlo⟩, .inl ⟨rfl, rfl⟩, fun k hk => ?_, ?_⟩
  · rcases hk with hk | hk
    · rcases f1 k hk with h | h
      · exact J.sc k (.inl h)
      · exact ncw k h
    · rcases f2 k hk with h | h
      · exact J.sc k (.inr h)
      · exact ncw k h
  · rcases f1 k hk with h | h
    · exact .inl h
    · exact .inr (by omega)
  · exact (Only.SD on).trans o3 (fun k _ h => .inr h)
end
end Go.Proofs.Qxb6500413aGreat
