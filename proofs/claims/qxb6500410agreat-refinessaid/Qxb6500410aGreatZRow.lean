/-
  OWN WORK. THE FOREST MODEL: rows in the midst of a block; a state's cells.
-/
import Derived.Test.Qxb6500410aGreatBVp
import Derived.Test.Qxb6500410aGreatBWh
import Derived.Laws.CopyRow
namespace Go.Proofs.Qxb6500410aGreat
open Go.RowKit Go.PlainAid
set_option linter.unusedSimpArgs false
set_option linter.unusedVariables false

theorem zadd (g o j : Nat) : (⟨g, o, none⟩ : Addr).add j = ⟨g, o + j, none⟩ := by unfold Addr.add; split <;> simp_all
section
variable {P : Program}
theorem run_loadVar_at {w : World} {x o n : Nat} {ty : TypeId} {d : TypeDesc} {f : Nat → Value} (hc : ∀ j, j < n → w.cell? ⟨x, o + j, none⟩ = some (f j)) (hu : P.underlying ty = some d) (hd : (match d with | .struct _ | .array _ _ => true | _ => false) = true) (hi : (P.info? ty).map (·.size) = some n) :
    (loadVar ty ⟨x, o, none⟩).run P w = .ok (.agg (tabV n f)) w := by
  have hl : (loadCells ⟨x, o, none⟩ (tabV n f).toList.length).run P w = .ok (tabV n f).toList.toArray w :=
    run_loadCells_list (P := P) w ⟨x, o, none⟩ (tabV n f).toList (fun j v hv => by
      have hj : j < n := by
        have := (List.getElem?_eq_some_iff.mp hv).1
        simpa [tabV_size] using this
      rw [zadd, hc j hj]
      rw [Array.getElem?_toList, tabV_get _ _ _ hj] at hv
      exact hv)
  cases hq : P.info? ty with
  | none => simp [hq] at hi
  | some i =>
    have hs : i.size = n := by simpa [hq] using hi
    have hagg : (isAgg ty).run P w = .ok true w := by
      unfold isAgg
      rw [Sem.run_bind, run_underlying hu w]
      cases d <;> simp_all
    simp only [Array.length_toList, Array.toArray_toList, tabV_size] at hl
    simp [loadVar, Sem.run_bind, hagg, sizeOf, typeInfo, hq, hs, hl]
theorem tabV_seg {m n o : Nat} (c f : Nat → Value) (h : o + n ≤ m) : ((tabV m c).toList.take o ++ (tabV n f).toList ++ (tabV m c).toList.drop (o + (tabV n f).toList.length)).toArray = tabV m (fun j => if o ≤ j ∧ j < o + n then f (j - o) else c j) := by
  apply Array.ext'
  have hm : (tabV m c).toList.length = m := by simp [tabV_size]
  have hn : (tabV n f).toList.length = n := by simp [tabV_size]
  apply List.ext_getElem
  · simp [tabV_size]; omega
  · intro i h1 h2
    have hi : i < m := by simpa [tabV_size] using h2
    simp only [tabV, List.toList_toArray, List.getElem_map, List.getElem_range]
    by_cases a : i < o
    · rw [if_neg (by omega)]
      rw [List.getElem_append_left (by simp; omega), List.getElem_append_left (by simp; omega)]
      simp
    · by_cases b : i < o + n
      · rw [if_pos ⟨by omega, b⟩, List.getElem_append_left (by simp; omega), List.getElem_append_right (by simp; omega)]
        simp
        congr 1
        omega
      · rw [if_neg (by omega), List.getElem_append_right (by simp; omega)]
        simp
        congr 1
        omega
theorem run_storeVar_at {w : World} {g o n m : Nat} {ty t : TypeId} {f c : Nat → Value} (hg : Has w g (tabV m c) t) (hi : (P.info? ty).map (·.size) = some n) (hle : o + n ≤ m) (h1 : ∀ j, j < n → (f j).oneCell' = true) :
    (storeVar ty ⟨g, o, none⟩ (.agg (tabV n f))).run P w = .ok () (w.setRow g (tabV m (fun j => if o ≤ j ∧ j < o + n then f (j - o) else c j))) := by
  have := run_storeCells_at (P := P) g o t (tabV n f).toList 0 (tabV m c) w hg (by simp [tabV_size]; omega) (fun v hv => by
    simp only [tabV, List.toList_toArray, List.mem_map, List.mem_range] at hv
    obtain ⟨j, hj, rfl⟩ := hv
    exact h1 j hj)
  rw [Nat.add_zero] at this
  rw [tabV_seg c f hle] at this
  cases hq : P.info? ty with
  | none => simp [hq] at hi
  | some i =>
    have hs : i.size = n := by simpa [hq] using hi
    have hs2 : (tabV n f).size = i.size := by rw [tabV_size, hs]
    simp [storeVar, sizeOf, typeInfo, hq, Value.cells, hs2, this]
section
variable {ops : Array Oper} {rest : List Oper} {o : Oper} {a : Act} {w : World} {Q : Exit → Act → World → Prop} {K : Act → World → Prop}
theorem wpList_load_at (hgd : o.guard = none) (ty : TypeId) (x : Operand) (ho : o.op = .load ty x) (g off n : Nat) (hx : a.eval x = .pointer (some ⟨g, off, none⟩)) (d : TypeDesc) (f : Nat → Value) (hc : ∀ j, j < n → w.cell? ⟨g, off + j, none⟩ = some (f j)) (hu : P.underlying ty = some d) (hd : (match d with | .struct _ | .array _ _ => true | _ => false) = true) (hi : (P.info? ty).map (·.size) = some n)
    (h : wpList P ops Q rest (a.put o.dst (.agg (tabV n f))) w) : wpList P ops Q (o :: rest) a w := by
  refine wpList_plain hgd fun _ hK => ?_
  unfold Oper.wp execOp
  simp only [ho, hx, Instr.loadAt, Instr.sureAddr, Sem.run_bind, Sem.run_pure, Result.andThen_ok, run_loadVar_at hc hu hd hi]
  exact hK _ _ h
theorem wpList_store_at (hgd : o.guard = none) (ty : TypeId) (x y : Operand) (ho : o.op = .store ty x y) (g off n : Nat) (f : Nat → Value) (hx : a.eval x = .pointer (some ⟨g, off, none⟩)) (hy : a.eval y = .agg (tabV n f)) (m : Nat) (c : Nat → Value) (t : TypeId) (hg : Has w g (tabV m c) t) (hi : (P.info? ty).map (·.size) = some n) (hle : off + n ≤ m) (h1 : ∀ j, j < n → (f j).oneCell' = true)
    (h : wpList P ops Q rest (a.put o.dst undef) (w.setRow g (tabV m (fun j => if off ≤ j ∧ j < off + n then f (j - off) else c j)))) : wpList P ops Q (o :: rest) a w := by
  refine wpList_plain hgd fun _ hK => ?_
  unfold Oper.wp execOp
  simp only [ho, hx, hy, Instr.storeAt, Instr.sureAddr, Sem.run_bind, Sem.run_pure, Result.andThen_ok, run_storeVar_at hg hi hle h1]
  exact hK _ _ h
end
end
/-- The cells of a list of entries. -/
def zkv : List KV → List Value
  | [] => []
  | e :: r => [.string e.1, .string e.2] ++ zkv r
theorem zkv_len (l : List KV) : (zkv l).length = l.length * 2 := by
  induction l with
  | nil => rfl
  | cons a r ih => simp [zkv, ih]; omega
theorem zkv_one (l : List KV) : ∀ v ∈ zkv l, v.oneCell' = true := by
  induction l with
  | nil => simp [zkv]
  | cons a r ih =>
    intro v hv
    simp [zkv] at hv
    rcases hv with rfl | rfl | hv
    · rfl
    · rfl
    · exact ih v hv
theorem zkv_app (l r : List KV) : zkv (l ++ r) = zkv l ++ zkv r := by
  induction l with
  | nil => rfl
  | cons a t ih => simp [zkv, ih]
theorem zkv_at : ∀ (l : List KV) (i : Nat) {e : KV}, l[i]? = some e → (zkv l)[i * 2]? = some (.string e.1) ∧ (zkv l)[i * 2 + 1]? = some (.string e.2)
  | [], i, e, h => by simp at h
  | f :: r, 0, e, h => by
    obtain rfl : f = e := by simpa using h
    exact ⟨rfl, rfl⟩
  | f :: r, i + 1, e, h => by
    have := zkv_at r i (e := e) (by simpa using h)
    have e : (i + 1) * 2 = i * 2 + 2 := by omega
    rw [e]
    exact this
theorem zkv_setV : ∀ (l : List KV) (i : Nat) {e : KV} (v : ByteArray), l[i]? = some e → zkv (l.set i (e.1, v)) = (zkv l).set (i * 2 + 1) (.string v)
  | [], i, e, v, h => by simp at h
  | f :: r, 0, e, v, h => by
    obtain rfl : f = e := by simpa using h
    rfl
  | f :: r, i + 1, e, v, h => by
    have ih := zkv_setV r i v (e := e) (by simpa using h)
    have e : (i + 1) * 2 + 1 = (i * 2 + 1) + 2 := by omega
    rw [e, List.set_cons_succ]
    simp only [zkv, ih, List.cons_append, List.nil_append, List.set_cons_succ]
theorem zkv_set : ∀ (l : List KV) (i : Nat) (e : KV), zkv (l.set i e) = ((zkv l).set (i * 2) (.string e.1)).set (i * 2 + 1) (.string e.2)
  | [], i, e => by simp [zkv]
  | f :: r, 0, e => rfl
  | f :: r, i + 1, e => by
    have ih := zkv_set r i e
    have e : (i + 1) * 2 = i * 2 + 2 := by omega
    rw [e, List.set_cons_succ]
    simp only [zkv, ih, List.cons_append, List.nil_append, List.set_cons_succ, show i * 2 + 2 + 1 = (i * 2 + 1) + 2 by omega]
def OwnK (w : World) (v : Value) (l : List KV) : Prop := w.ownsRow 0 110 2 v l.length (zkv l)
theorem OwnK.keep {S : Nat → Prop} {w w' : World} {v : Value} {l : List KV} (h : OwnK w v l) (ho : Only S w w') (hS : ∀ k, v.ownBlock = some k → ¬ S k) : OwnK w' v l := ownsRow_keep h ho hS
theorem OwnK.nil (w : World) : OwnK w (.slice none 0 0) [] := World.ownsRow_nil _ _ _ _
theorem OwnK.shape {w : World} {v : Value} {l : List KV} (h : OwnK w v l) : ∃ a cap, v = .slice a l.length cap := ownsRow_shape h
theorem OwnK.lt {w : World} {v : Value} {l : List KV} (h : OwnK w v l) : ∀ k, v.ownBlock = some k → k < w.heap.size := ownsRow_lt h
theorem OwnK.one {w : World} {v : Value} {l : List KV} (h : OwnK w v l) : v.oneCell' = true := by
  obtain ⟨a, cap, rfl⟩ := h.shape
  rfl
theorem OwnK.at_ {w : World} {a : Option Addr} {n cap : Nat} {l : List KV} (h : OwnK w (.slice a n cap) l) {i : Nat} {x : KV} (hx : l[i]? = some x) : ∃ g, a = some ⟨g, 0, none⟩ ∧ w.cell? ⟨g, i * 2, none⟩ = some (.string x.1) ∧ w.cell? ⟨g, i * 2 + 1, none⟩ = some (.string x.2) := by
  have hi := (List.getElem?_eq_some_iff.mp hx).1
  rcases h.2 with ⟨he, h0⟩ | ⟨g, cap', cur, he, _⟩
  · omega
  · obtain ⟨rfl, _⟩ : a = some ⟨g, 0, none⟩ ∧ True := by
      have := he
      simp at this
      exact ⟨this.1, trivial⟩
    refine ⟨g, rfl, ?_⟩
    have hc := World.ownsRow.cells h (g := g) (by first | exact rfl | simp [Value.ownBlock])
    obtain ⟨a1, a2⟩ := zkv_at l i hx
    have b1 := hc _ _ a1
    have b2 := hc _ _ a2
    rw [addr_add] at b1 b2
    exact ⟨b1, b2⟩
/-- A state: which handles are trees; the entries' rows. -/
def eS (S : Vu) (i : Nat) : List KV := (S i).getD []
def stF (S : Vu) (es : Nat → Value) (j : Nat) : Value := if j < 8 then .bool (S j).isSome else es (j - 8)
def StA (w : World) (x o : Nat) (S : Vu) (es : Nat → Value) : Prop := ∀ j, j < 16 → w.cell? ⟨x, o + j, none⟩ = some (stF S es j)
structure ZE (w : World) (es : Nat → Value) (S : Vu) : Prop where
  own : ∀ i, i < 8 → OwnK w (es i) (eS S i)
def EB (es : Nat → Value) (k : Nat) : Prop := ∃ i, i < 8 ∧ (es i).ownBlock = some k
def stV (S : Vu) (es : Nat → Value) : Value := .agg (tabV 16 (stF S es))
theorem ZE.keep {B : Nat → Prop} {w w' : World} {es : Nat → Value} {S : Vu} (h : ZE w es S) (ho : Only B w w') (hB : ∀ k, EB es k → ¬ B k) : ZE w' es S := ⟨fun i hi => (h.own i hi).keep ho (fun k hk => hB k ⟨i, hi, hk⟩)⟩
theorem ZE.lt {w : World} {es : Nat → Value} {S : Vu} (h : ZE w es S) : ∀ k, EB es k → k < w.heap.size := fun k ⟨i, hi, hk⟩ => (h.own i hi).lt k hk
theorem ZE.one {w : World} {es : Nat → Value} {S : Vu} (h : ZE w es S) : ∀ j, j < 16 → (stF S es j).oneCell' = true := fun j hj => by
  unfold stF
  by_cases c : j < 8
  · rw [if_pos c]; rfl
  · rw [if_neg c]; exact (h.own (j - 8) (by omega)).one
def nilE : Nat → Value := fun _ => .slice none 0 0
theorem ZE.nil (w : World) : ZE w nilE (fun _ => none) := ⟨fun i _ => OwnK.nil w⟩
theorem Tryz.infoZS : (Tryz.prog.info? 81).map (fun i => (i.zero, i.size)) = some (some (.agg (tabV 16 (stF (fun _ => none) nilE))), 16) := by kernel_rfl
theorem info_zs : ∃ i, Tryz.prog.info? 81 = some i ∧ i.zero = some (stV (fun _ => none) nilE) ∧ i.size = 16 := by
  have h := Tryz.infoZS
  cases hq : Tryz.prog.info? 81 with
  | none => rw [hq] at h; cases h
  | some i =>
    rw [hq] at h
    simp only [Option.map_some, Option.some.injEq, Prod.mk.injEq] at h
    exact ⟨i, rfl, h.1, h.2⟩
theorem zs_size : (Tryz.prog.info? 81).map (·.size) = some 16 := by
  obtain ⟨i, h1, h2, h3⟩ := info_zs
  rw [h1]; simp [h3]
theorem zeroZS_run (w : World) : (zeroValue 81).run Tryz.prog w = .ok (stV (fun _ => none) nilE) w := by kernel_rfl
end Go.Proofs.Qxb6500410aGreat
