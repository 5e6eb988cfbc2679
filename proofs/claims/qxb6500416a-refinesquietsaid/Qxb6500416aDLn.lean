/-
  OWN WORK. LISTS OF LINES IN MEMORY; lines.
-/
import Derived.Test.Qxb6500416aDMat
import Derived.Laws.CopyRow
import Derived.Laws.IdiomCopy
namespace Go.Proofs.Qxb6500416a
open Go.RowKit Go.PlainAid
set_option linter.unusedSimpArgs false
set_option linter.unusedVariables false

/-- A list of lines somewhere in an array. -/
def LnS (w : World) (v : Value) (l : List Str) : Prop := ∃ a cap, v = .slice a l.length cap ∧ (0 < l.length → ∃ g o, a = some ⟨g, o, none⟩ ∧ ∀ i (h : i < l.length), w.cell? ⟨g, o + i, none⟩ = some (.string (sb l[i])))
theorem LnIn.s {w : World} {v : Value} {l : List Str} (h : LnIn w v l) : LnS w v l := by
  obtain ⟨a, cap, rfl, hc⟩ := h.parts
  refine ⟨a, cap, rfl, fun hn => ?_⟩
  obtain ⟨g, rfl, h2⟩ := hc hn
  exact ⟨g, 0, rfl, fun i hi => by rw [Nat.zero_add]; exact h2 i hi⟩
theorem LnS.keep {S : Nat → Prop} {w w' : World} {v : Value} {l : List Str} (h : LnS w v l) (ho : Only S w w') (hS : ∀ k, v.ownBlock = some k → ¬ S k) : LnS w' v l := by
  obtain ⟨a, cap, rfl, h2⟩ := h
  refine ⟨a, cap, rfl, fun hn => ?_⟩
  obtain ⟨g, o, rfl, hc⟩ := h2 hn
  have hgl : g < w.heap.size := World.block_lt_of_cell? w _ (hc 0 hn)
  have hb := ho.block g hgl (hS g rfl)
  exact ⟨g, o, rfl, fun i hi => (World.cell?_of_block hb).trans (hc i hi)⟩
/-- A list of lines in an array of its own. -/
def OwnL (w : World) (v : Value) (l : List Str) : Prop := OwnS w v (l.map sb)
theorem OwnL.in_ {w : World} {v : Value} {l : List Str} (h : OwnL w v l) : LnIn w v l := OwnS.in_ h
theorem OwnL.keep {S : Nat → Prop} {w w' : World} {v : Value} {l : List Str} (h : OwnL w v l) (ho : Only S w w') (hS : ∀ k, v.ownBlock = some k → ¬ S k) : OwnL w' v l := ownsRow_keep h ho hS
theorem OwnL.row {w : World} {v : Value} {l : List Str} (h : OwnL w v l) : w.ownsRow 0 9 1 v l.length (lineV l) := by
  have : w.ownsRow 0 9 1 v (l.map sb).length ((l.map sb).map Value.string) := h
  rw [List.length_map] at this
  exact this
theorem OwnL.of {w : World} {v : Value} {l : List Str} (h : w.ownsRow 0 9 1 v l.length (lineV l)) : OwnL w v l := by
  show w.ownsRow 0 9 1 v (l.map sb).length ((l.map sb).map Value.string)
  rw [List.length_map]
  exact h
theorem OwnL.nil (w : World) : OwnL w (.slice none 0 0) [] := World.ownsRow_nil _ _ _ _
/-- Where such a list lies. -/
theorem OwnL.form {w : World} {v : Value} {l : List Str} (h : OwnL w v l) : (v = .slice none 0 0 ∧ l = []) ∨ ∃ g cap, v = .slice (some ⟨g, 0, none⟩) l.length cap ∧ l.length ≤ cap ∧ cap ≤ maxLen ∧ g < w.heap.size ∧ ∀ i (h : i < l.length), w.cell? ⟨g, i, none⟩ = some (.string (sb l[i])) := by
  have hr := h.row
  rcases hr.2 with ⟨rfl, h0⟩ | ⟨g, cap, cur, rfl, _, hg, hn, hc, _⟩
  · exact .inl ⟨rfl, List.eq_nil_of_length_eq_zero h0⟩
  · refine .inr ⟨g, cap, rfl, hn, hc, lt_of_block hg, fun i hi => ?_⟩
    have := World.ownsRow.cells hr (g := g) rfl i (.string (sb l[i])) (by simp [lineV, hi])
    rw [addr_add] at this
    exact this
theorem own_full {w : World} {g t n : Nat} {xs : List Value} (h : Has w g xs.toArray t) (hn : xs.length = n) (hm : n ≤ maxLen) : w.ownsRow 0 t 1 (.slice (some ⟨g, 0, none⟩) n n) n xs := by
  subst hn
  exact ⟨by simp, .inr ⟨g, xs.length, xs.toArray, rfl, Nat.zero_le _, h, Nat.le_refl _, hm, by simp, by simp⟩⟩
def dempt (n : Nat) : List ByteArray := List.replicate n ⟨#[]⟩
theorem drun_make_strs (w : World) (n : Nat) (hn : n ≤ 1000000) :
    (Instr.makeSlice 49 (.int .i64 n) (.int .i64 n)).run Try.prog w = .ok (.slice (some ⟨w.heap.size, 0, none⟩) n n) (w.alloc (.cells (strs (dempt n)) 9)) := by
  obtain ⟨i, hi, hz, hs, hb⟩ := info_parts Try.infoStr
  have := run_make (P := Try.prog) w 49 9 i _ Try.underlying49 hi hz .i64 .i64 (n : Int) (n : Int) (by omega) (by omega) (by rw [hb]; omega) (by omega)
  rw [this]
  simp [hs, Value.cells, madeCells_oneD, strs, dempt]
theorem Try.dsizeStr : (Try.prog.info? 9).map (·.size) = some 1 := by
  obtain ⟨i, hi, hz, hs, hb⟩ := info_parts Try.infoStr
  rw [hi]; simp [hs]
theorem dsetRow_alloc (w : World) (c d : Array Value) (t : TypeId) : (w.alloc (.cells c t)).setRow w.heap.size d = w.alloc (.cells d t) := by
  unfold World.setRow World.alloc
  congr 1
  apply Array.ext_getElem?
  intro k
  simp only [Array.getElem?_modify, Array.getElem?_push]
  by_cases hk : k = w.heap.size
  · subst hk; simp
  · simp [hk]; intro h; omega
set_option maxRecDepth 100000 in
theorem drun_copy_strs (w : World) (n : Nat) (a : Option Addr) (cap : Nat) (l : List Str) (hl : l.length = n) (h : 0 < l.length → ∃ g o, a = some ⟨g, o, none⟩ ∧ ∀ i (h : i < l.length), w.cell? ⟨g, o + i, none⟩ = some (.string (sb l[i]))) (ty : TypeId) :
    (Builtin.copy_ #[49, 49] ty #[.slice (some ⟨w.heap.size, 0, none⟩) n n, .slice a n cap]).run Try.prog (w.alloc (.cells (strs (dempt n)) 9)) = .ok (goInt n) (w.alloc (.cells (lineV l).toArray 9)) := by
  by_cases hn : n = 0
  · subst hn
    have : l = [] := List.eq_nil_of_length_eq_zero hl
    subst this
    rw [run_copy_none (P := Try.prog) _ 49 49 ty 9 _ _ 0 0 0 cap Try.underlying49 Try.dsizeStr (by simp)]
    rfl
  · obtain ⟨g, o, rfl, hc⟩ := h (by omega)
    have h := run_copy_row (P := Try.prog) (w.alloc (.cells (strs (dempt n)) 9)) 49 49 ty 9 w.heap.size 0 n n ⟨g, o, none⟩ n cap (strs (dempt n)) 9 (lineV l)
      Try.underlying49 Try.dsizeStr (heap_alloc_new w _) (by rw [lineV_len]; simp [hl]) ?_ (by rw [lineV_len]; simp [dempt, hl]) ?_
    · rw [h, dsetRow_alloc, lineV_len, hl]
      congr 3
      have : (strs (dempt n)).toList.drop (0 + n) = [] := List.drop_eq_nil_of_le (by simp [strs, dempt])
      rw [this]
      simp
    · intro j v hv
      have hj : j < l.length := by
        by_cases hj : j < l.length
        · exact hj
        · rw [List.getElem?_eq_none (by rw [lineV_len]; omega)] at hv; cases hv
      have e0 : (⟨g, o, none⟩ : Addr).add j = ⟨g, o + j, none⟩ := by unfold Addr.add; split <;> simp_all
      rw [e0]
      have hgl : g < w.heap.size := World.block_lt_of_cell? w _ (hc j hj)
      have e2 : (w.alloc (.cells (strs (dempt n)) 9)).cell? ⟨g, o + j, none⟩ = w.cell? ⟨g, o + j, none⟩ := World.cell?_of_block (Below.heap_alloc _ _ _ hgl)
      rw [e2, hc j hj]
      simp [lineV, hj] at hv
      rw [← hv]
    · intro v hv
      simp [lineV] at hv
      obtain ⟨b, _, rfl⟩ := hv
      rfl
theorem lineV_own (w : World) (l : List Str) (n : Nat) (hn : l.length = n) (hl : n ≤ 1000000) : OwnL (w.alloc (.cells (lineV l).toArray 9)) (.slice (some ⟨w.heap.size, 0, none⟩) n n) l := by
  subst hn
  refine OwnL.of (own_full (Has.new w _ _) (lineV_len l) (by unfold maxLen; omega))
set_option maxRecDepth 100000 in
set_option maxHeartbeats 1000000 in
theorem dlines_any {w : World} {v : Value} {l : List Str} (h : OwnL w v l) (a b : Nat) (hab : a ≤ b) (hb : b ≤ l.length) (hl : l.length ≤ 100000) :
    Calls Try.prog 57 #[v, .int .i64 a, .int .i64 b] w fun e w' => ∃ v', e = .returned v' ∧ OwnL w' v' (cutL l a b) ∧ (∀ y, v'.ownBlock = some y → w.heap.size ≤ y) ∧ Only (fun _ => False) w w' := by
  by_cases e : a = b
  · subst e
    rw [cutL_same]
    have e1 : ((a : Int) == (a : Int)) = true := by simp
    have HN := hide (OwnL.nil w)
    obtain ⟨va, vc, rfl⟩ := ownsRow_shape h
    clear h
    go_enter Try.func57, Try.ntmps57
    go_wp2_with fail
    go_ret
    exact ⟨_, rfl, unhide HN, fun y hy => by simp [Value.ownBlock] at hy, Only.refl _ _⟩
  · have e1 : ((a : Int) == (b : Int)) = false := by simp; omega
    rcases h.form with ⟨_, rfl⟩ | ⟨g, cap, rfl, hlc, hcm, hgl, hcell⟩
    · simp at hb; omega
    · have hcl := cutL_len l a b hab hb
      have hm : (Instr.makeSlice 49 (.int .i64 ((b : Int) - (a : Int))) (.int .i64 ((b : Int) - (a : Int)))).run Try.prog w = .ok (.slice (some ⟨w.heap.size, 0, none⟩) (b - a) (b - a)) (w.alloc (.cells (strs (dempt (b - a))) 9)) := by
        have e2 : (b : Int) - (a : Int) = ((b - a : Nat) : Int) := by omega
        rw [e2]
        exact drun_make_strs w (b - a) (by omega)
      have hcp := drun_copy_strs w (b - a) (some ⟨g, a, none⟩) (cap - a) (cutL l a b) hcl (fun _ => ⟨g, a, rfl, fun i hi => by
        rw [hcell (a + i) (by omega), cutL_get l a b i hi (by omega)]⟩)
      have HR := hide (And.intro (lineV_own w (cutL l a b) (b - a) hcl (by omega)) ((Only.refl (fun _ => False) w).alloc (.cells (lineV (cutL l a b)).toArray 9)))
      have b1 : (a : Int) ≤ (b : Int) := by omega
      have b2 : (b : Int) ≤ (cap : Int) := by omega
      have b3 : ¬ cap = a := by omega
      clear h hcell e hcl
      unfold maxLen at hcm
      go_enter Try.func57, Try.ntmps57
      go_wp2_with fail
      go_ret
      exact ⟨_, rfl, (unhide HR).1, fun y hy => by simp [Value.ownBlock] at hy; omega, (unhide HR).2⟩
end Go.Proofs.Qxb6500416a
