/-
  OWN WORK. LISTS THAT ARE KEPT: rows of one cell each that may lie in the midst of a block; an append to such a row.
-/
import Derived.Test.Qxb6500416aHeap
import Derived.Laws.AppendOwn
namespace Go.Proofs.Qxb6500416a
open Go.RowKit
set_option linter.unusedSimpArgs false
set_option linter.unusedVariables false

/-- A row that may open in the midst of its block. -/
def KeptRow (w : World) (e : TypeId) (v : Value) (xs : List Value) : Prop :=
  (v = .slice none 0 0 ∧ xs = []) ∨ ∃ g o cap cur, v = .slice (some ⟨g, o, none⟩) xs.length cap ∧ w.heap[g]? = some (.cells cur e (0, 0)) ∧ xs.length ≤ cap ∧ cap ≤ maxLen ∧ cur.size = o + cap ∧ (cur.toList.drop o).take xs.length = xs
theorem KeptRow.nil (w : World) (e : TypeId) : KeptRow w e (.slice none 0 0) [] := .inl ⟨rfl, rfl⟩
theorem KeptRow.keep {S : Nat → Prop} {w w' : World} {e : TypeId} {v : Value} {xs : List Value} (h : KeptRow w e v xs) (ho : Only S w w') (hS : ∀ k, v.ownBlock = some k → ¬ S k) : KeptRow w' e v xs := by
  rcases h with h | ⟨g, o, cap, cur, rfl, hg, r⟩
  · exact .inl h
  · exact .inr ⟨g, o, cap, cur, rfl, (ho.block g (lt_of_block hg) (hS g rfl)).trans hg, r⟩
theorem KeptRow.lt {w : World} {e : TypeId} {v : Value} {xs : List Value} (h : KeptRow w e v xs) : ∀ k, v.ownBlock = some k → k < w.heap.size := by
  intro k hk
  rcases h with ⟨rfl, _⟩ | ⟨g, o, cap, cur, rfl, hg, r⟩
  · simp [Value.ownBlock] at hk
  · simp [Value.ownBlock] at hk; subst hk; exact lt_of_block hg
theorem KeptRow.ne {w : World} {e : TypeId} {v : Value} {xs : List Value} (h : KeptRow w e v xs) {j : Nat} {c : Array Value} {t : TypeId} (hj : Has w j c t) (ht : e ≠ t) : ∀ k, v.ownBlock = some k → k ≠ j := by
  intro k hk ek
  subst ek
  rcases h with ⟨rfl, _⟩ | ⟨g, o, cap, cur, rfl, hg, r⟩
  · simp [Value.ownBlock] at hk
  · simp [Value.ownBlock] at hk; subst hk
    exact (Has.ne (c := cur) hg hj ht) rfl
theorem KeptRow.shape {w : World} {e : TypeId} {v : Value} {xs : List Value} (h : KeptRow w e v xs) : ∃ a cap, v = .slice a xs.length cap := by
  rcases h with ⟨rfl, rfl⟩ | ⟨g, o, cap, cur, rfl, r⟩
  · exact ⟨none, 0, rfl⟩
  · exact ⟨_, _, rfl⟩
/-- What stands at place i. -/
theorem KeptRow.at {w : World} {e : TypeId} {v : Value} {xs : List Value} (h : KeptRow w e v xs) (i : Nat) (hi : i < xs.length) : ∃ g o cap, v = .slice (some ⟨g, o, none⟩) xs.length cap ∧ g < w.heap.size ∧ w.cell? ⟨g, o + i, none⟩ = some xs[i] := by
  rcases h with ⟨rfl, rfl⟩ | ⟨g, o, cap, cur, rfl, hg, h1, h2, h3, h4⟩
  · simp at hi
  · refine ⟨g, o, cap, rfl, lt_of_block hg, ?_⟩
    have e1 : ((cur.toList.drop o).take xs.length)[i]? = some xs[i] := by rw [h4]; simp [hi]
    rw [List.getElem?_take, if_pos hi, List.getElem?_drop] at e1
    simp [World.cell?, hg]
    simpa using e1
/-- The first of a row falls away. -/
theorem KeptRow.tail {w : World} {e : TypeId} {g o cap n : Nat} {x : Value} {xs : List Value} (h : KeptRow w e (.slice (some ⟨g, o, none⟩) (n + 1) cap) (x :: xs)) (hn : n = xs.length) : KeptRow w e (.slice (some ⟨g, o + 1, none⟩) n (cap - 1)) xs := by
  subst hn
  rcases h with ⟨h, _⟩ | ⟨g', o', cap', cur, he, hg, h1, h2, h3, h4⟩
  · simp at h
  · obtain ⟨⟨rfl, rfl⟩, rfl⟩ : (g = g' ∧ o = o') ∧ cap = cap' := by simpa using he
    simp only [List.length_cons] at h1 h4
    refine .inr ⟨g, o + 1, cap - 1, cur, rfl, hg, by omega, by omega, by omega, ?_⟩
    have hlt : o < cur.toList.length := by simp; omega
    rw [List.drop_eq_getElem_cons hlt, List.take_succ_cons] at h4
    exact (List.cons.inj h4).2
section
variable {P : Program} (w : World)
theorem drun_append_room (t ty e : TypeId) (i : TypeInfo) (ht : P.underlying t = some (.slice e)) (hi : P.info? e = some i) (hs1 : i.size = 1)
    (g o sLen sCap : Nat) (cur : Array Value) (hg : w.heap[g]? = some (.cells cur e (0, 0)))
    (a : Addr) (c : Nat) (x : Value) (hx : ∀ j u, [x][j]? = some u → w.cell? (a.add j) = some u) (h1 : x.oneCell' = true)
    (hroom : sLen + 1 ≤ sCap) (hfit : o + sLen + 1 ≤ cur.size) :
    (Builtin.append_ #[t, t] ty #[.slice (some ⟨g, o, none⟩) sLen sCap, .slice (some a) 1 c]).run P w =
      .ok (.slice (some ⟨g, o, none⟩) (sLen + 1) sCap) (w.setRow g (cur.toList.take (o + sLen) ++ [x] ++ cur.toList.drop (o + sLen + [x].length)).toArray) := by
  have hf := run_firstCells_some (P := P) w 1 1 a 1 c [x] rfl hx
  have hst := run_storeCells_at P g (o + sLen) e [x] 0 cur w hg (by simpa using hfit) (by simpa using h1)
  simp only [Nat.add_zero] at hst
  simp [Builtin.append_, run_underlying ht, sizeOf, typeInfo, hi, hs1, Builtin.lenOf, hroom, hf, Addr.add_lit, hst]
theorem drun_append (t ty e : TypeId) (i : TypeInfo) (z : Value) (bytes : Nat) (ht : P.underlying t = some (.slice e)) (hi : P.info? e = some i) (hz : i.zero = some z)
    (hs1 : i.size = 1) (hby : i.bytes = bytes) (hzs : z.cells.size = 1)
    (v : Value) (xs : List Value) (hown : KeptRow w e v xs)
    (a : Addr) (c : Nat) (x : Value) (hx : ∀ j u, [x][j]? = some u → w.cell? (a.add j) = some u) (h1 : x.oneCell' = true)
    (h63 : xs.length + 1 ≤ maxLen) (hbytes : (xs.length + 1) * bytes ≤ 140737488355328) :
    ∃ v' w', (Builtin.append_ #[t, t] ty #[v, .slice (some a) 1 c]).run P w = .ok v' w' ∧ KeptRow w' e v' (xs ++ [x]) ∧ w.grownBy w' v.ownBlock ∧
      ∀ k, v'.ownBlock = some k → v.ownBlock = some k ∨ k = w.heap.size := by
  subst hby
  have hlen : (xs ++ [x]).length = xs.length + 1 := by simp
  have hl1 : [x].length = 1 * i.size := by simp [hs1]
  have grown : ∀ (old : Nat), old < xs.length + 1 → ∀ (row : Option Nat),
      KeptRow (w.drew.alloc (.cells (xs.toArray ++ [x].toArray ++ Builtin.zeroCells z.cells (grownCap w (xs.length + 1) old e - (xs.length + 1))) e)) e
        (.slice (some ⟨w.heap.size, 0, none⟩) (xs.length + 1) (grownCap w (xs.length + 1) old e)) (xs ++ [x]) ∧
      w.grownBy (w.drew.alloc (.cells (xs.toArray ++ [x].toArray ++ Builtin.zeroCells z.cells (grownCap w (xs.length + 1) old e - (xs.length + 1))) e)) row := by
    intro old ho row
    have hge := grownCap_ge w (xs.length + 1) old e
    have hcm : grownCap w (xs.length + 1) old e ≤ maxLen := grownCap_le_maxLen w (xs.length + 1) old e h63
    refine ⟨.inr ⟨w.heap.size, 0, _, _, by rw [hlen], heap_alloc_new w.drew _, by rw [hlen]; exact hge, hcm, ?_, ?_⟩, ⟨rfl, rfl, rfl, by simp, fun k hk _ => Below.heap_alloc _ _ _ hk⟩⟩
    · simp only [Array.size_append, List.size_toArray, size_zeroCells, hzs, List.length_singleton]
      omega
    · simp only [Array.toList_append, List.append_assoc, List.drop_zero]
      rw [← List.append_assoc]
      exact List.take_left
  rcases hown with ⟨rfl, rfl⟩ | ⟨g, o, cap, cur, rfl, hg, hnc, hcm, hcs, htake⟩
  · have hr := run_append_nil (P := P) w t ty e i z ht hi hz a 1 c [x] hl1 hx (by omega) (by omega) (by simp only [List.length_nil] at hbytes; omega)
    have hgr := grown 0 (by simp) (Value.ownBlock (.slice none 0 0))
    simp only [List.length_nil, Nat.zero_add, List.nil_append, Array.empty_append] at hgr ⊢
    refine ⟨_, _, hr, hgr.1, hgr.2, fun k hk => ?_⟩
    simp [Value.ownBlock] at hk
    exact .inr hk.symm
  · by_cases hroom : xs.length + 1 ≤ cap
    · have hr := drun_append_room (P := P) w t ty e i ht hi hs1 g o xs.length cap cur hg a c x hx h1 hroom (by omega)
      refine ⟨_, _, hr, .inr ⟨g, o, cap, _, by rw [hlen], setRow_heap w g cur _ e _ hg, by rw [hlen]; exact hroom, hcm, ?_, ?_⟩, ⟨rfl, rfl, rfl, by simp, fun k _ hk => setRow_other w g k _ (fun e => hk (by simp [Value.ownBlock, e]))⟩, fun k hk => .inl hk⟩
      · simp only [List.size_toArray, List.length_append, List.length_take, List.length_drop, Array.length_toList, List.length_singleton]
        omega
      · have hs : cur.toList.length = o + cap := by simp [hcs]
        have e1 : (cur.toList.take (o + xs.length) ++ [x] ++ cur.toList.drop (o + xs.length + [x].length)).toArray.toList.drop o = (xs ++ [x]) ++ cur.toList.drop (o + xs.length + [x].length) := by
          simp only [List.append_assoc]
          rw [List.drop_append_of_le_length (by simp; omega), List.drop_take]
          have : o + xs.length - o = xs.length := by omega
          rw [this, htake]
        rw [e1]
        exact List.take_left
    · have holds : ∀ j u, xs[j]? = some u → w.cell? ((⟨g, o, none⟩ : Addr).add j) = some u := by
        intro j u hu
        have hj : j < xs.length := (List.getElem?_eq_some_iff.1 hu).1
        rw [Addr.add_lit]
        have e1 : ((cur.toList.drop o).take xs.length)[j]? = some u := by rw [htake]; exact hu
        rw [List.getElem?_take, if_pos hj, List.getElem?_drop] at e1
        simp [World.cell?, hg]
        simpa using e1
      have hr := run_append_grow (P := P) w t ty e i z ht hi hz ⟨g, o, none⟩ xs.length cap xs (by simp [hs1]) holds a 1 c [x] hl1 hx (by omega) (by simp only [maxLen] at h63; omega) (growslice_fits (by omega) hbytes)
      have hgr := grown cap (by omega) (Value.ownBlock (.slice (some ⟨g, o, none⟩) xs.length cap))
      refine ⟨_, _, hr, hgr.1, hgr.2, fun k hk => ?_⟩
      simp [Value.ownBlock] at hk
      exact .inr hk.symm
theorem wpList_append_kept {ops : Array Oper} {rest : List Oper} {o : Oper} {a : Act} {Q : Exit → Act → World → Prop} (hgd : o.guard = none) (s x : Operand) (t : TypeId)
    (ho : o.op = .call { callee := .builtin .append, args := #[s, x], argTypes := #[t, t] })
    (e : TypeId) (i : TypeInfo) (z : Value) (bytes : Nat) (ht : P.underlying t = some (.slice e)) (hi : P.info? e = some i) (hz : i.zero = some z)
    (hs1 : i.size = 1) (hby : i.bytes = bytes) (hzs : z.cells.size = 1)
    (v : Value) (xs : List Value) (hs : a.eval s = v) (hown : KeptRow w e v xs)
    (ad : Addr) (c : Nat) (y : Value) (hx : a.eval x = .slice (some ad) 1 c) (hnews : ∀ j u, [y][j]? = some u → w.cell? (ad.add j) = some u) (h1 : y.oneCell' = true)
    (h63 : xs.length + 1 ≤ maxLen) (hbytes : (xs.length + 1) * bytes ≤ 140737488355328)
    (h : ∀ v' w', KeptRow w' e v' (xs ++ [y]) → w.grownBy w' v.ownBlock → (∀ k, v'.ownBlock = some k → v.ownBlock = some k ∨ k = w.heap.size) → wpList P ops Q rest (a.put o.dst v') w') : wpList P ops Q (o :: rest) a w := by
  refine wpList_plain hgd fun K hK => ?_
  obtain ⟨v', w', hr, h2, h3, h4⟩ := drun_append (P := P) w t o.type e i z bytes ht hi hz hs1 hby hzs v xs hown ad c y hnews h1 h63 hbytes
  unfold Oper.wp execOp
  simp only [ho, resolve, invoke, builtin, Sem.run_bind, Sem.run_pure, Result.andThen_ok, List.map_toArray, List.map_cons, List.map_nil, hs, hx, hr]
  exact hK _ _ (h v' w' h2 h3 h4)
end
end Go.Proofs.Qxb6500416a
