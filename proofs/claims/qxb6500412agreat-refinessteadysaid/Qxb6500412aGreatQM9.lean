/-
  OWN WORK. QUERY's MODEL: what parse answers; the zero sentence.
-/
import Derived.Test.Qxb6500412aGreatQM7
import Derived.Test.Qxb6500412aGreatQM8
namespace Go.Proofs.Qxb6500412aGreat
open Go.RowKit Go.PlainAid
set_option linter.unusedSimpArgs false
set_option linter.unusedVariables false

def smz : Nat → Value := fun i => if i = 0 then .int .i64 0 else if i = 1 then .string ⟨#[]⟩ else if i = 3 then .int .i64 0 else if i = 6 then .bool false else if i = 8 then .string ⟨#[]⟩ else if i = 9 then .bool false else if i = 10 then .bool false else if i = 11 then .int .i64 0 else .slice none 0 0
def Sq.zm : Sq := ⟨smz, fun _ => [], fun _ => 0⟩
/-- The statement's four lists in memory, all of them new. -/
structure SML (lo : Nat) (w : World) (S : Sq) : Prop where
  own : ∀ j, smj j → w.ownsRow 0 (smt j) (smw j) (S.cell j) (S.ln j) (S.xs j)
  sep : ∀ i j, smj i → smj j → i ≠ j → ∀ b, (S.cell i).ownBlock = some b → (S.cell j).ownBlock = some b → False
  new : ∀ j, smj j → ∀ b, (S.cell j).ownBlock = some b → lo ≤ b
theorem smz_own (j : Nat) (h : smj j) : Sq.zm.cell j = .slice none 0 0 := by
  rcases h with rfl | rfl | rfl | rfl <;> rfl
theorem smz_of : SmOf Sq.zm (Ms.of St.z) := ⟨rfl, rfl, ⟨rfl, rfl⟩, rfl, ⟨rfl, rfl⟩, ⟨rfl, rfl⟩, rfl, ⟨rfl, rfl⟩, rfl, rfl, rfl, rfl⟩
theorem smz_tab : tabV 12 smz = #[.int .i64 0, .string ⟨#[]⟩, .slice none 0 0, .int .i64 0, .slice none 0 0, .slice none 0 0, .bool false, .slice none 0 0, .string ⟨#[]⟩, .bool false, .bool false, .int .i64 0] := by rfl
theorem SML.zero (lo : Nat) (w : World) : SML lo w Sq.zm := by
  refine ⟨fun j h => ?_, fun i j hi hj _ b h => ?_, fun j hj b h => ?_⟩
  · rw [smz_own j h]; exact World.ownsRow_nil _ _ _ _
  · rw [smz_own i hi] at h; cases h
  · rw [smz_own j hj] at h; cases h
section
variable {lo : Nat} {w w' : World} {ks : Nat} {S : Sq}
theorem SMM.lists (h : SMM lo w ks S) : SML lo w S := ⟨h.own, h.sep, fun j hj b hb => h.new b (.inr ⟨j, hj, hb⟩)⟩
theorem SML.keep {B : Nat → Prop} (h : SML lo w S) (ho : Only B w w') (hB : ∀ j, smj j → ∀ b, (S.cell j).ownBlock = some b → ¬ B b) : SML lo w' S := ⟨fun j hj => ownsRow_keep (h.own j hj) ho (hB j hj), h.sep, h.new⟩
theorem SML.quiet (h : SML lo w S) (ho : Only (fun _ => False) w w') : SML lo w' S := h.keep ho (fun _ _ _ _ e => e)
theorem SMM.zero (hh : Has w ks (tabV 12 smz) 253) (hk : lo ≤ ks) : SMM lo w ks Sq.zm := by
  have L := SML.zero lo w
  refine ⟨hh, L.own, L.sep, fun b hb => ?_, fun i => ?_⟩
  rotate_left
  · show (smz i).oneCell' = true
    unfold smz
    repeat' (first | rfl | split)
  rcases hb with e | ⟨j, hj, e⟩
  · rw [e]; exact hk
  · exact L.new j hj b e
theorem smz_one (i : Nat) : (Sq.zm.cell i).oneCell' = true := by
  show (smz i).oneCell' = true
  unfold smz
  repeat' (first | rfl | split)
/-- A statement's cells. -/
theorem SmOf.cells_ {m : Ms} (h : SmOf S m) (hl : SML lo w S) : ∃ a2 n2 c2 a4 n4 c4 a5 n5 c5 a7 n7 c7, tabV 12 S.cell = #[.int .i64 m.kind, .string m.table, .slice a2 n2 c2, .int .i64 m.pk, .slice a4 n4 c4, .slice a5 n5 c5, .bool m.star, .slice a7 n7 c7, .string m.order, .bool m.desc, .bool m.hasL, .int .i64 m.lim] := by
  obtain ⟨a2, c2, e2⟩ := ownsRow_shape (hl.own 2 (by unfold smj; omega))
  obtain ⟨a4, c4, e4⟩ := ownsRow_shape (hl.own 4 (by unfold smj; omega))
  obtain ⟨a5, c5, e5⟩ := ownsRow_shape (hl.own 5 (by unfold smj; omega))
  obtain ⟨a7, c7, e7⟩ := ownsRow_shape (hl.own 7 (by unfold smj; omega))
  refine ⟨a2, S.ln 2, c2, a4, S.ln 4, c4, a5, S.ln 5, c5, a7, S.ln 7, c7, ?_⟩
  show #[S.cell 0, S.cell 1, S.cell 2, S.cell 3, S.cell 4, S.cell 5, S.cell 6, S.cell 7, S.cell 8, S.cell 9, S.cell 10, S.cell 11] = _
  rw [h.k0, h.k1, e2, h.k3, e4, e5, h.k6, e7, h.k8, h.k9, h.k10, h.k11]
end
theorem Tryz.sizeSMStmt : (Tryz.prog.info? 253).map (·.size) = some 12 := by kernel_rfl
theorem sres_mst {fn : Func} {p q : Tmp} (h : fn.results = #[.cell p 253, .tmp q]) (tmps : Array Value) {w : World} {g : Nat} {c : Array Value} (hp : tmps.getD p undef = .pointer (some ⟨g, 0, none⟩)) (hn : Has w g c 253) (hc : c.size = 12) : (results fn tmps).run Tryz.prog w = .ok (.tuple #[.agg c, tmps.getD q undef]) w := by
  have hl := run_loadVar_row (P := Tryz.prog) w g 253 253 c (0, 0) _ hn Tryz.underlying253 rfl (by rw [Tryz.sizeSMStmt, hc])
  simp only [results, h]
  have hp' : tmps[p]?.getD undef = .pointer (some ⟨g, 0, none⟩) := by simpa using hp
  simp [Sem.run_bind, Result.andThen, hp', asAddr, hl]
/-- What parse answers. -/
def MpP (t : ByteArray) (w : World) (e : Ending) (w' : World) : Prop := ∃ S, e = .returned (.tuple #[.agg (tabV 12 S.cell), .bool (parB t)]) ∧ (parB t = true → SML w.heap.size w' S ∧ SmOf S (Ms.of (parQ t).2)) ∧ (∀ i, (S.cell i).oneCell' = true) ∧ Only (fun _ => False) w w'
set_option maxRecDepth 100000 in
set_option maxHeartbeats 8000000 in
theorem smparse_long (t : ByteArray) (ht : ¬ t.size ≤ 256) (w : World) : Calls Tryz.prog 180 #[.string t] w (MpP t w) := by
  have b1 : ((t.size : Int) > 256) := by omega
  have N1 := Has.new w (tabV 12 smz) 253
  have hF : parB t = false := by unfold parB; simp [ht]
  have HF := hide hF
  clear hF ht
  go_enter Tryz.func180, Tryz.ntmps180
  go_wp2_with fail
  refine bodyPost_ret (sres_mst rfl _ rfl (by rw [← smz_tab]; exact N1) rfl) rfl ?_
  rw [← smz_tab]
  exact ⟨Sq.zm, by rw [unhide HF]; rfl, fun c => (by rw [unhide HF] at c; cases c), smz_one, (Only.refl _ w).alloc _⟩
end Go.Proofs.Qxb6500412aGreat
