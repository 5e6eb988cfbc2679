/-
  OWN WORK. QUERY: Parse.
-/
import Derived.Test.Qxb6500412aGreatS16
namespace Go.Proofs.Qxb6500412aGreat
open Go.RowKit Go.PlainAid
set_option linter.unusedSimpArgs false
set_option linter.unusedVariables false

/-- The statement read out of a text, and what is left. -/
def parQ (t : ByteArray) : Ps × St := senP (toks t 0) St.z
def parB (t : ByteArray) : Bool := decide (t.size ≤ 256) && (parQ t).1.1.isEmpty && (parQ t).1.2
def szC : Nat → Value := fun i => if i = 0 then .int .i64 0 else if i = 1 then .string ⟨#[]⟩ else if i = 3 then .int .i64 0 else if i = 5 then .bool false else if i = 9 then .string ⟨#[]⟩ else if i = 10 then .bool false else if i = 11 then .bool false else if i = 12 then .int .i64 0 else .slice none 0 0
def Sq.z : Sq := ⟨szC, fun _ => [], fun _ => 0⟩
/-- The statement's five lists in memory, all of them new. -/
structure SQL (lo : Nat) (w : World) (S : Sq) : Prop where
  own : ∀ j, sqj j → w.ownsRow 0 (sqt j) (sqw j) (S.cell j) (S.ln j) (S.xs j)
  sep : ∀ i j, sqj i → sqj j → i ≠ j → ∀ b, (S.cell i).ownBlock = some b → (S.cell j).ownBlock = some b → False
  new : ∀ j, sqj j → ∀ b, (S.cell j).ownBlock = some b → lo ≤ b
theorem sqz_own (j : Nat) (h : sqj j) : Sq.z.cell j = .slice none 0 0 := by
  rcases h with rfl | rfl | rfl | rfl | rfl <;> rfl
theorem sqz_of : SqOf Sq.z St.z := ⟨rfl, rfl, ⟨rfl, rfl⟩, rfl, ⟨rfl, rfl⟩, rfl, ⟨rfl, rfl⟩, ⟨rfl, rfl⟩, ⟨rfl, rfl⟩, rfl, rfl, rfl, rfl⟩
theorem sqz_tab : tabV 13 szC = #[.int .i64 0, .string ⟨#[]⟩, .slice none 0 0, .int .i64 0, .slice none 0 0, .bool false, .slice none 0 0, .slice none 0 0, .slice none 0 0, .string ⟨#[]⟩, .bool false, .bool false, .int .i64 0] := by rfl
theorem SQL.zero (lo : Nat) (w : World) : SQL lo w Sq.z := by
  refine ⟨fun j h => ?_, fun i j hi hj _ b h => ?_, fun j hj b h => ?_⟩
  · rw [sqz_own j h]; exact World.ownsRow_nil _ _ _ _
  · rw [sqz_own i hi] at h; cases h
  · rw [sqz_own j hj] at h; cases h
section
variable {lo : Nat} {w w' : World} {ks : Nat} {S : Sq}
theorem SQM.lists (h : SQM lo w ks S) : SQL lo w S := ⟨h.own, h.sep, fun j hj b hb => h.new b (.inr ⟨j, hj, hb⟩)⟩
theorem SQL.keep {B : Nat → Prop} (h : SQL lo w S) (ho : Only B w w') (hB : ∀ j, sqj j → ∀ b, (S.cell j).ownBlock = some b → ¬ B b) : SQL lo w' S := ⟨fun j hj => ownsRow_keep (h.own j hj) ho (hB j hj), h.sep, h.new⟩
theorem SQL.quiet (h : SQL lo w S) (ho : Only (fun _ => False) w w') : SQL lo w' S := h.keep ho (fun _ _ _ _ e => e)
theorem SQM.zero (hh : Has w ks (tabV 13 szC) 173) (hk : lo ≤ ks) : SQM lo w ks Sq.z := by
  have L := SQL.zero lo w
  refine ⟨hh, L.own, L.sep, fun b hb => ?_⟩
  rcases hb with e | ⟨j, hj, e⟩
  · rw [e]; exact hk
  · exact L.new j hj b e
/-- A statement's cells. -/
theorem SqOf.cells_ {st : St} (h : SqOf S st) (hl : SQL lo w S) : ∃ a2 n2 c2 a4 n4 c4 a6 n6 c6 a7 n7 c7 a8 n8 c8, tabV 13 S.cell = #[.int .i64 st.kind, .string st.table, .slice a2 n2 c2, .int .i64 st.pk, .slice a4 n4 c4, .bool st.star, .slice a6 n6 c6, .slice a7 n7 c7, .slice a8 n8 c8, .string st.order, .bool st.desc, .bool st.hasL, .int .i64 st.lim] := by
  obtain ⟨a2, c2, e2⟩ := ownsRow_shape (hl.own 2 (by unfold sqj; omega))
  obtain ⟨a4, c4, e4⟩ := ownsRow_shape (hl.own 4 (by unfold sqj; omega))
  obtain ⟨a6, c6, e6⟩ := ownsRow_shape (hl.own 6 (by unfold sqj; omega))
  obtain ⟨a7, c7, e7⟩ := ownsRow_shape (hl.own 7 (by unfold sqj; omega))
  obtain ⟨a8, c8, e8⟩ := ownsRow_shape (hl.own 8 (by unfold sqj; omega))
  refine ⟨a2, S.ln 2, c2, a4, S.ln 4, c4, a6, S.ln 6, c6, a7, S.ln 7, c7, a8, S.ln 8, c8, ?_⟩
  show #[S.cell 0, S.cell 1, S.cell 2, S.cell 3, S.cell 4, S.cell 5, S.cell 6, S.cell 7, S.cell 8, S.cell 9, S.cell 10, S.cell 11, S.cell 12] = _
  rw [h.k0, h.k1, e2, h.k3, e4, h.k5, e6, e7, e8, h.k9, h.k10, h.k11, h.k12]
end
theorem Tryz.sizeSQStmt : (Tryz.prog.info? 173).map (·.size) = some 13 := by kernel_rfl
theorem sres_stmt {fn : Func} {p q : Tmp} (h : fn.results = #[.cell p 173, .tmp q]) (tmps : Array Value) {w : World} {g : Nat} {c : Array Value} (hp : tmps.getD p undef = .pointer (some ⟨g, 0, none⟩)) (hn : Has w g c 173) (hc : c.size = 13) : (results fn tmps).run Tryz.prog w = .ok (.tuple #[.agg c, tmps.getD q undef]) w := by
  have hl := run_loadVar_row (P := Tryz.prog) w g 173 173 c (0, 0) _ hn Tryz.underlying173 rfl (by rw [Tryz.sizeSQStmt, hc])
  simp only [results, h]
  have hp' : tmps[p]?.getD undef = .pointer (some ⟨g, 0, none⟩) := by simpa using hp
  simp [Sem.run_bind, Result.andThen, hp', asAddr, hl]
/-- A block's cells set one by one. -/
def setW (g : Nat) : List Value → Nat → World → World
  | [], _, w => w
  | v :: l, i, w => setW g l (i + 1) (w.setCell ⟨g, i, none⟩ v)
theorem only_setW (g : Nat) : ∀ (l : List Value) (i : Nat) (w : World), Only (fun k => k = g) w (setW g l i w)
  | [], _, w => Only.refl _ w
  | v :: l, i, w => (only1 (p := g) i v).trans (only_setW g l (i + 1) _) (fun _ _ h => h)
theorem has_setW (g : Nat) (ty : TypeId) : ∀ (l : List Value) (pre : List Value) (post : List Value) (w : World), Has w g (pre ++ post).toArray ty → post.length = l.length → Has (setW g l pre.length w) g (pre ++ l).toArray ty
  | [], pre, post, w, h, hl => by
    have e : post = [] := List.eq_nil_of_length_eq_zero hl
    rw [e] at h
    exact h
  | v :: l, pre, [], w, h, hl => by cases hl
  | v :: l, pre, p :: post, w, h, hl => by
    have h1 := h.setCell pre.length v
    have e1 : (pre ++ p :: post).toArray.setIfInBounds pre.length v = ((pre ++ [v]) ++ post).toArray := by
      simp [List.set_append]
    rw [e1] at h1
    have h2 := has_setW g ty l (pre ++ [v]) post _ h1 (by simpa using hl)
    have e2 : (pre ++ [v]).length = pre.length + 1 := by simp
    have e3 : (pre ++ [v]) ++ l = pre ++ v :: l := by simp
    rw [e2, e3] at h2
    exact h2
theorem has_setAll {w : World} {g : Nat} {ty : TypeId} {c : Array Value} (l : List Value) (h : Has w g c ty) (hl : c.size = l.length) : Has (setW g l 0 w) g l.toArray ty := by
  have := has_setW g ty l [] c.toList w (by simpa using h) (by simpa using hl)
  simpa using this
/-- What Parse answers. -/
def ParP (t : ByteArray) (w : World) (e : Ending) (w' : World) : Prop := ∃ S st, e = .returned (.tuple #[.agg (tabV 13 S.cell), .bool (parB t)]) ∧ SQL w.heap.size w' S ∧ SqOf S st ∧ (parB t = true → st = (parQ t).2) ∧ Only (fun _ => False) w w'
set_option maxRecDepth 100000 in
set_option maxHeartbeats 8000000 in
theorem sqparse_long (t : ByteArray) (ht : ¬ t.size ≤ 256) (w : World) : Calls Tryz.prog 105 #[.string t] w (ParP t w) := by
  have b1 : ((t.size : Int) > 256) := by omega
  have o1 : Only (fun _ => False) w (w.alloc (.cells (tabV 13 szC) 173)) := (Only.refl _ w).alloc _
  have N1 := Has.new w (tabV 13 szC) 173
  have hF : parB t = false := by unfold parB; simp [ht]
  go_enter Tryz.func105, Tryz.ntmps105
  go_wp2_with fail
  refine bodyPost_ret (sres_stmt rfl _ rfl (by rw [← sqz_tab]; exact N1) rfl) rfl ?_
  rw [← sqz_tab]
  exact ⟨Sq.z, St.z, by rw [hF]; rfl, SQL.zero _ _, sqz_of, fun c => (by rw [hF] at c; cases c), o1⟩
set_option maxRecDepth 100000 in
set_option maxHeartbeats 8000000 in
theorem sqparse_short (t : ByteArray) (ht : t.size ≤ 256) (w : World) : Calls Tryz.prog 105 #[.string t] w (ParP t w) := by
  have b1 : ¬ ((t.size : Int) > 256) := by omega
  have hz := sqz_tab
  -- the first three blocks
  have o1 : Only (fun _ => False) w (w.alloc (.cells (tabV 13 szC) 173)) := (Only.refl _ w).alloc _
  have N1 := Has.new w (tabV 13 szC) 173
  have o2 : Only (fun _ => False) (w.alloc (.cells (tabV 13 szC) 173)) ((w.alloc (.cells (tabV 13 szC) 173)).alloc (.cells (psC t 0 ⟨#[]⟩ 0 0) 229)) := (Only.refl _ _).alloc _
  have N2 := Has.new (w.alloc (.cells (tabV 13 szC) 173)) (psC t 0 ⟨#[]⟩ 0 0) 229
  have N1' := N1.keep o2 (fun e => e)
  have sz : (w.alloc (.cells (tabV 13 szC) 173)).heap.size = w.heap.size + 1 := by simp
  rw [sz] at N2
  have HA := hide (And.intro N1' (And.intro N2 (o1.trans o2 (fun _ _ e => e))))
  rw [hz] at HA
  unfold psC at HA
  have sz2 : w.heap.size + 1 < ((w.alloc (.cells #[.int .i64 0, .string ⟨#[]⟩, .slice none 0 0, .int .i64 0, .slice none 0 0, .bool false, .slice none 0 0, .slice none 0 0, .slice none 0 0, .string ⟨#[]⟩, .bool false, .bool false, .int .i64 0] 173)).alloc (.cells #[.string t, .int .i64 0, .string ⟨#[]⟩, .int .i64 0, .int .i64 0] 229)).heap.size := by simp
  clear o1 N1 o2 N2 N1' sz hz
  go_enter Tryz.func105, Tryz.ntmps105
  go_upto_region 4 with fail
  generalize (w.alloc (.cells #[.int .i64 0, .string ⟨#[]⟩, .slice none 0 0, .int .i64 0, .slice none 0 0, .bool false, .slice none 0 0, .slice none 0 0, .slice none 0 0, .string ⟨#[]⟩, .bool false, .bool false, .int .i64 0] 173)).alloc (.cells #[.string t, .int .i64 0, .string ⟨#[]⟩, .int .i64 0, .int .i64 0] 229) = w1 at *
  generalize hg : w.heap.size = g at *
  have C1 := hide (sqstep_at ht (n := 0) (Nat.zero_le _) (unhide HA).2.1)
  go_wp2_with fail
  refine (unhide C1).mono ?_
  rintro e w2 ⟨rfl, hh⟩
  have l2 : g + 1 < w2.heap.size := hh.1.lt
  have o3 : Only (fun _ => False) w2 (w2.alloc (.cells (tabV 13 szC) 173)) := (Only.refl _ _).alloc _
  have N3 := Has.new w2 (tabV 13 szC) 173
  have hG2 := (unhide HA).1.keep hh.2 (fun (c : g = g + 1) => by omega)
  have HQ := hide (show QP (g + 1) (w2.alloc (.cells (tabV 13 szC) 173)) (g + 1) w2.heap.size t (toks t 0) St.z ∧ Has (w2.alloc (.cells (tabV 13 szC) 173)) g #[.int .i64 0, .string ⟨#[]⟩, .slice none 0 0, .int .i64 0, .slice none 0 0, .bool false, .slice none 0 0, .slice none 0 0, .slice none 0 0, .string ⟨#[]⟩, .bool false, .bool false, .int .i64 0] 173 ∧ Only (fun _ => False) w (w2.alloc (.cells (tabV 13 szC) 173)) from ⟨⟨hh.1.keep o3 (fun e => e), Nat.le_refl _, Sq.z, SQM.zero N3 (by omega), sqz_of⟩, hG2.keep o3 (fun e => e), ((unhide HA).2.2.lateS hh.2 (fun k hk => by have e' : k = g + 1 := hk; omega)).trans o3 (fun _ _ e => e)⟩)
  rw [sqz_tab] at HQ
  clear C1 hh HA o3 N3 hG2 sz2
  go_upto_region 6 with fail
  generalize w2.alloc (.cells #[.int .i64 0, .string ⟨#[]⟩, .slice none 0 0, .int .i64 0, .slice none 0 0, .bool false, .slice none 0 0, .slice none 0 0, .slice none 0 0, .string ⟨#[]⟩, .bool false, .bool false, .int .i64 0] 173) = w3 at *
  generalize w2.heap.size = ks at *
  have hlen := toks_len (t := t) (i := 0) (Nat.zero_le _)
  have C2 := hide (sqsentence_any ht (unhide HQ).1 rfl (by omega) rfl rfl rfl rfl)
  clear hlen
  go_wp2_with fail
  refine (unhide C2).mono ?_
  rintro e w4 ⟨rfl, hh⟩
  have hh : QpP (g + 1) (g + 1) ks t (parQ t).1 (parQ t).2 w3 w4 := hh
  have hG := (unhide HQ).2.1.keep hh.2 (fun (c : g + 1 ≤ g) => by omega)
  have oW := (unhide HQ).2.2.lateS hh.2 (fun k hk => by have e' : g + 1 ≤ k := hk; omega)
  obtain ⟨k, s, v, en, hP, hR⟩ := hh.1.ps
  obtain ⟨S, hM, hO⟩ := hh.1.sq
  have d1 : w4.cell? ⟨g + 1, 1, none⟩ = some (.int .i64 k) := hP.cell 1
  have dl := hP.lt
  have hk : parB t = decide (k = 0) := by
    unfold parB
    rcases hR.cases_ with ⟨hp, rfl, _, _⟩ | ⟨hp, rfl, _, _⟩ | ⟨l, b, hp, _, rfl, _⟩ | ⟨l, b, hp, _, rfl, _⟩ | ⟨l, b, hp, rfl, _⟩ | ⟨l, b, hp, rfl, _⟩ | ⟨l, b, hp, rfl, _⟩ <;> rw [hp] <;> simp [ht]
  obtain ⟨a2, n2, c2, a4, n4, c4, a6, n6, c6, a7, n7, c7, a8, n8, c8, hcs⟩ := hO.cells_ hM.lists
  have hH := hM.has
  rw [hcs] at hH
  have lg := hG.lt
  have lk := hH.lt
  have hks : g + 1 ≤ ks := hM.new ks (.inl rfl)
  have g0c : w4.cell? ⟨g, 0, none⟩ = some (.int .i64 0) := hG.cell 0
  have g1c : w4.cell? ⟨g, 1, none⟩ = some (.string ⟨#[]⟩) := hG.cell 1
  have g2c : w4.cell? ⟨g, 2, none⟩ = some (.slice none 0 0) := hG.cell 2
  have g3c : w4.cell? ⟨g, 3, none⟩ = some (.int .i64 0) := hG.cell 3
  have g4c : w4.cell? ⟨g, 4, none⟩ = some (.slice none 0 0) := hG.cell 4
  have g5c : w4.cell? ⟨g, 5, none⟩ = some (.bool false) := hG.cell 5
  have g6c : w4.cell? ⟨g, 6, none⟩ = some (.slice none 0 0) := hG.cell 6
  have g7c : w4.cell? ⟨g, 7, none⟩ = some (.slice none 0 0) := hG.cell 7
  have g8c : w4.cell? ⟨g, 8, none⟩ = some (.slice none 0 0) := hG.cell 8
  have g9c : w4.cell? ⟨g, 9, none⟩ = some (.string ⟨#[]⟩) := hG.cell 9
  have g10c : w4.cell? ⟨g, 10, none⟩ = some (.bool false) := hG.cell 10
  have g11c : w4.cell? ⟨g, 11, none⟩ = some (.bool false) := hG.cell 11
  have g12c : w4.cell? ⟨g, 12, none⟩ = some (.int .i64 0) := hG.cell 12
  have g0f := hG.free 0
  have g1f := hG.free 1
  have g2f := hG.free 2
  have g3f := hG.free 3
  have g4f := hG.free 4
  have g5f := hG.free 5
  have g6f := hG.free 6
  have g7f := hG.free 7
  have g8f := hG.free 8
  have g9f := hG.free 9
  have g10f := hG.free 10
  have g11f := hG.free 11
  have g12f := hG.free 12
  have HX := hide (show SQL w.heap.size w4 S from ⟨hM.own, hM.sep, fun j hj b hb => by have := hM.new b (.inr ⟨j, hj, hb⟩); omega⟩)
  have HB := hide (show ∀ j, sqj j → ∀ b, (S.cell j).ownBlock = some b → b ≠ g from fun j hj b hb e => by have := hM.new b (.inr ⟨j, hj, hb⟩); omega)
  by_cases hk0 : k = 0
  · subst hk0
    have k0c : w4.cell? ⟨ks, 0, none⟩ = some (.int .i64 (parQ t).2.kind) := hH.cell 0
    have k1c : w4.cell? ⟨ks, 1, none⟩ = some (.string (parQ t).2.table) := hH.cell 1
    have k2c : w4.cell? ⟨ks, 2, none⟩ = some (.slice a2 n2 c2) := hH.cell 2
    have k3c : w4.cell? ⟨ks, 3, none⟩ = some (.int .i64 (parQ t).2.pk) := hH.cell 3
    have k4c : w4.cell? ⟨ks, 4, none⟩ = some (.slice a4 n4 c4) := hH.cell 4
    have k5c : w4.cell? ⟨ks, 5, none⟩ = some (.bool (parQ t).2.star) := hH.cell 5
    have k6c : w4.cell? ⟨ks, 6, none⟩ = some (.slice a6 n6 c6) := hH.cell 6
    have k7c : w4.cell? ⟨ks, 7, none⟩ = some (.slice a7 n7 c7) := hH.cell 7
    have k8c : w4.cell? ⟨ks, 8, none⟩ = some (.slice a8 n8 c8) := hH.cell 8
    have k9c : w4.cell? ⟨ks, 9, none⟩ = some (.string (parQ t).2.order) := hH.cell 9
    have k10c : w4.cell? ⟨ks, 10, none⟩ = some (.bool (parQ t).2.desc) := hH.cell 10
    have k11c : w4.cell? ⟨ks, 11, none⟩ = some (.bool (parQ t).2.hasL) := hH.cell 11
    have k12c : w4.cell? ⟨ks, 12, none⟩ = some (.int .i64 (parQ t).2.lim) := hH.cell 12
    have H5 := has_setAll [.int .i64 (parQ t).2.kind, .string (parQ t).2.table, .slice a2 n2 c2, .int .i64 (parQ t).2.pk, .slice a4 n4 c4, .bool (parQ t).2.star, .slice a6 n6 c6, .slice a7 n7 c7, .slice a8 n8 c8, .string (parQ t).2.order, .bool (parQ t).2.desc, .bool (parQ t).2.hasL, .int .i64 (parQ t).2.lim] hG rfl
    have O5 := only_setW g [.int .i64 (parQ t).2.kind, .string (parQ t).2.table, .slice a2 n2 c2, .int .i64 (parQ t).2.pk, .slice a4 n4 c4, .bool (parQ t).2.star, .slice a6 n6 c6, .slice a7 n7 c7, .slice a8 n8 c8, .string (parQ t).2.order, .bool (parQ t).2.desc, .bool (parQ t).2.hasL, .int .i64 (parQ t).2.lim] 0 w4
    have FF := hide (And.intro H5 (show ParP t w (.returned (.tuple #[.agg #[.int .i64 (parQ t).2.kind, .string (parQ t).2.table, .slice a2 n2 c2, .int .i64 (parQ t).2.pk, .slice a4 n4 c4, .bool (parQ t).2.star, .slice a6 n6 c6, .slice a7 n7 c7, .slice a8 n8 c8, .string (parQ t).2.order, .bool (parQ t).2.desc, .bool (parQ t).2.hasL, .int .i64 (parQ t).2.lim], .bool (parB t)])) (setW g [.int .i64 (parQ t).2.kind, .string (parQ t).2.table, .slice a2 n2 c2, .int .i64 (parQ t).2.pk, .slice a4 n4 c4, .bool (parQ t).2.star, .slice a6 n6 c6, .slice a7 n7 c7, .slice a8 n8 c8, .string (parQ t).2.order, .bool (parQ t).2.desc, .bool (parQ t).2.hasL, .int .i64 (parQ t).2.lim] 0 w4) from (by
      refine ⟨S, (parQ t).2, by rw [hcs], (unhide HX).keep O5 (fun j hj b hb e => unhide HB j hj b hb e), hO, fun _ => rfl, oW.lateS O5 (fun k hk => by have e' : k = g := hk; omega)⟩)))
    have hk' : parB t = true := by rw [hk]; rfl
    rw [hk'] at FF
    simp only [setW, Nat.zero_add, Nat.reduceAdd] at FF
    clear H5 O5 hk hk' hcs hH hM hO hR hP hG oW hh HX HB HQ C2
    go_wp2_with fail
    refine bodyPost_ret (sres_stmt rfl _ rfl (unhide FF).1 rfl) rfl ?_
    exact (unhide FF).2
  · have b2 : (k != 0) = true := by simpa using hk0
    have hk' : parB t = false := by rw [hk]; simpa using hk0
    have H5 := has_setAll [.int .i64 0, .string ⟨#[]⟩, .slice none 0 0, .int .i64 0, .slice none 0 0, .bool false, .slice none 0 0, .slice none 0 0, .slice none 0 0, .string ⟨#[]⟩, .bool false, .bool false, .int .i64 0] hG rfl
    have O5 := only_setW g [.int .i64 0, .string ⟨#[]⟩, .slice none 0 0, .int .i64 0, .slice none 0 0, .bool false, .slice none 0 0, .slice none 0 0, .slice none 0 0, .string ⟨#[]⟩, .bool false, .bool false, .int .i64 0] 0 w4
    have FF := hide (And.intro H5 (show ParP t w (.returned (.tuple #[.agg #[.int .i64 0, .string ⟨#[]⟩, .slice none 0 0, .int .i64 0, .slice none 0 0, .bool false, .slice none 0 0, .slice none 0 0, .slice none 0 0, .string ⟨#[]⟩, .bool false, .bool false, .int .i64 0], .bool (parB t)])) (setW g [.int .i64 0, .string ⟨#[]⟩, .slice none 0 0, .int .i64 0, .slice none 0 0, .bool false, .slice none 0 0, .slice none 0 0, .slice none 0 0, .string ⟨#[]⟩, .bool false, .bool false, .int .i64 0] 0 w4) from (by
      refine ⟨Sq.z, St.z, rfl, SQL.zero _ _, sqz_of, fun c => (by rw [hk'] at c; cases c), oW.lateS O5 (fun k hk => by have e' : k = g := hk; omega)⟩)))
    rw [hk'] at FF
    simp only [setW, Nat.zero_add, Nat.reduceAdd] at FF
    clear H5 O5 hk hk' hcs hH hM hO hR hP hG oW hh HX HB HQ C2 hk0
    go_wp2_with fail
    refine bodyPost_ret (sres_stmt rfl _ rfl (unhide FF).1 rfl) rfl ?_
    exact (unhide FF).2
/-- Parse. -/
theorem sqparse_any (t : ByteArray) (w : World) : Calls Tryz.prog 105 #[.string t] w (ParP t w) := by
  by_cases h : t.size ≤ 256
  · exact sqparse_short t h w
  · exact sqparse_long t h w
end Go.Proofs.Qxb6500412aGreat
