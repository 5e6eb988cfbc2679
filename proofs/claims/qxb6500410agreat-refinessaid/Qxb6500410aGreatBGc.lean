/-
  OWN WORK. THE B-TREE LAW's GHOST: Copy.
-/
import Derived.Test.Qxb6500410aGreatBGs
namespace Go.Proofs.Qxb6500410aGreat
open Go.RowKit Go.PlainAid
set_option linter.unusedSimpArgs false
set_option linter.unusedVariables false

theorem run_copy_row3 {P : Program} (w : World) (dT sT ty elem : TypeId) (g dLen dCap : Nat) (a : Addr) (sLen sCap n : Nat) (cur : Array Value) (t : TypeId) (cs : List Value)
    (hu : P.underlying dT = some (.slice elem)) (hs : (P.info? elem).map (·.size) = some 3)
    (hg : w.heap[g]? = some (.cells cur t (0, 0))) (hn : n = Nat.min sLen dLen) (hc : cs.length = n * 3)
    (hsrc : ∀ j v, cs[j]? = some v → w.cell? (a.add j) = some v) (hfit : cs.length ≤ cur.size) (h1 : ∀ v ∈ cs, v.oneCell' = true) :
    (Builtin.copy_ #[dT, sT] ty #[.slice (some ⟨g, 0, none⟩) dLen dCap, .slice (some a) sLen sCap]).run P w =
      .ok (goInt n) (w.setRow g (cs ++ cur.toList.drop cs.length).toArray) := by
  have hl := run_loadCells_list (P := P) w a cs hsrc
  have hst := run_storeCells_at P g 0 t cs 0 cur w hg (by simpa using hfit) h1
  cases hq : P.info? elem with
  | none => simp [hq] at hs
  | some i =>
    have hi : i.size = 3 := by simpa [hq] using hs
    simp only [Nat.zero_add, List.take_zero, List.nil_append] at hst
    simp [Builtin.copy_, run_underlying hu, Builtin.lenOf, Builtin.firstCells, sizeOf, typeInfo, hq, hi, ← hn, ← hc, hl, hst]
theorem itCells_len (l : List Itm) : (itCells l).length = l.length * 3 := by
  induction l with
  | nil => rfl
  | cons a r ih => simp [itCells, ih]; omega
theorem itCells_one (l : List Itm) : ∀ v ∈ itCells l, v.oneCell' = true := by
  induction l with
  | nil => simp [itCells]
  | cons a r ih =>
    intro v hv
    simp [itCells] at hv
    rcases hv with rfl | rfl | rfl | hv
    · rfl
    · rfl
    · rfl
    · exact ih v hv
theorem run_make_items (w : World) (n : Nat) (hn : n ≤ 1000) : ∃ cur : Array Value, cur.size = n * 3 ∧ (Instr.makeSlice 63 (.int .i64 n) (.int .i64 n)).run Tryz.prog w = .ok (.slice (some ⟨w.heap.size, 0, none⟩) n n) (w.alloc (.cells cur 72)) := by
  obtain ⟨i, hi, hz, hs, hb⟩ := info_parts Tryz.infoItm
  have := run_make (P := Tryz.prog) w 63 72 i _ Tryz.underlying63 hi hz .i64 .i64 (n : Int) (n : Int) (by omega) (by omega) (by rw [hb]; omega) (by omega)
  refine ⟨_, ?_, this⟩
  simp [madeCells, Value.cells, hs]
theorem run_copy_bools8 (w : World) (b c : Nat) (S T : Nat → Bool) (hb : Has w b (tabV 8 (fun i => .bool (S i))) 4) (hc : Has w c (tabV 8 (fun i => .bool (T i))) 4) (ty : TypeId) :
    (Builtin.copy_ #[62, 62] ty #[.slice (some ⟨b, 0, none⟩) 8 8, .slice (some ⟨c, 0, none⟩) 8 8]).run Tryz.prog w = .ok (goInt 8) (w.setRow b (tabV 8 (fun i => .bool (T i)))) := by
  obtain ⟨i, hi, hz, hs, hbb⟩ := info_parts Tryz.infoBoolG
  have h := run_copy_row (P := Tryz.prog) w 62 62 ty 4 b 0 8 8 ⟨c, 0, none⟩ 8 8 (tabV 8 (fun i => .bool (S i))) 4 ((List.range 8).map (fun i => Value.bool (T i)))
    Tryz.underlying62 (by rw [hi]; simp [hs]) hb (by simp) ?_ (by simp [tabV_size]) ?_
  · rw [h]
    rfl
  · intro j v hv
    rw [addr_add, hc.cell]
    have hj : j < 8 := by
      have := (List.getElem?_eq_some_iff.mp hv).1
      simpa using this
    rw [tabV_get _ _ _ (by simpa using hj)]
    simp [hj] at hv
    simp [hv]
  · intro v hv
    simp only [List.mem_map] at hv
    obtain ⟨a, _, rfl⟩ := hv
    rfl
theorem Has.setRowG {w : World} {k : Nat} {c : Array Value} {t : TypeId} (h : Has w k c t) (d : Array Value) : Has (w.setRow k d) k d t := setRow_heap w k c d t _ h
section
variable {w : World} {g tb : Nat} {iv : Value} {T : Nat → Bool} {its : List Itm}
set_option maxRecDepth 100000 in
set_option maxHeartbeats 4000000 in
theorem gcopy_any (G : GhAt w g tb iv T its) : Calls Tryz.prog 41 #[.pointer (some ⟨g, 0, none⟩)] w fun e w' => ∃ g' tb' iv', e = .returned (.pointer (some ⟨g', 0, none⟩)) ∧ GhAt w' g' tb' iv' T its ∧ (∀ k, GhF g' tb' iv' k → w.heap.size ≤ k) ∧ Only (fun _ => False) w w' := by
  have glt := G.lt
  have hl := G.len
  go_enter Tryz.func41, Tryz.ntmps41
  go_wp2_with fail
  refine (gnew_any w).mono ?_
  rintro e w1 ⟨g', tb', rfl, N, hg', htb', o1⟩
  have G1 := G.quiet o1
  have q0 := G1.c0
  have q1 := N.c0
  have cp1 := fun ty => run_copy_bools8 w1.drew tb' tb (fun _ => false) T N.tr.drew G1.tr.drew ty
  have o2 : Only (fun k => k = tb') w1 (w1.drew.setRow tb' (tabV 8 (fun i => .bool (T i)))) := ((Only.refl (fun k => k = tb') w1).drew).trans setRow_only (fun _ _ h => h)
  have t1 := glt tb (.inr (.inl rfl))
  have t2 := glt g (.inl rfl)
  have G2 := hide (G1.keep o2 (fun k hk e => by have := glt k hk; omega))
  have ngt : g' ≠ tb' := N.has.ne N.tr (by decide)
  have NH := hide (N.has.keep o2 ngt)
  have NT := hide (N.tr.drew.setRowG (tabV 8 (fun i => .bool (T i))))
  have O2 := hide (o1.trans o2 (fun i hi e => by omega))
  have s1 := o1.size
  clear G1 N o1 o2 G
  go_upto_region 2 with fail
  go_region
  generalize w1.drew.setRow tb' (tabV 8 (fun i => .bool (T i))) = w2 at *
  clear q0 q1 cp1
  obtain ⟨a, cap, rfl⟩ := (unhide G2).own.shape
  obtain ⟨cur, hcur, hmk⟩ := run_make_items w2 its.length (by omega)
  have q0 := (unhide G2).c1
  have z1 := (unhide NH).free 1
  have q1 : w2.cell? ⟨g', 1, none⟩ = some (.slice none 0 0) := by rw [(unhide NH).cell]; rfl
  have sl := (unhide O2).size
  have nlt : g' < w2.heap.size := (unhide NH).lt
  have tlt : tb' < w2.heap.size := (unhide NT).lt
  have hne : g' ≠ w2.heap.size := by omega
  have G3 := hide (show GhAt ((w2.setCell ⟨g', 1, none⟩ (.slice (some ⟨w2.heap.size, 0, none⟩) its.length its.length)).alloc (.cells cur 72)) g tb (.slice a its.length cap) T its from
    (unhide G2).keep (S := fun k => k = g') (((Only.refl (fun k => k = g') w2).more 1 _).alloc _) (fun k hk e => by have := glt k hk; omega))
  have N3 := hide (show Has ((w2.setCell ⟨g', 1, none⟩ (.slice (some ⟨w2.heap.size, 0, none⟩) its.length its.length)).alloc (.cells cur 72)) g' #[.slice (some ⟨tb', 0, none⟩) 8 8, .slice (some ⟨w2.heap.size, 0, none⟩) its.length its.length] 65 from
    ((unhide NH).setCell 1 _).keep (S := fun _ => False) ((Only.refl _ _).alloc _) (fun h => h))
  have T3 := hide (show Has ((w2.setCell ⟨g', 1, none⟩ (.slice (some ⟨w2.heap.size, 0, none⟩) its.length its.length)).alloc (.cells cur 72)) tb' (tabV 8 (fun i => .bool (T i))) 4 from
    (unhide NT).keep (S := fun k => k = g') (((Only.refl (fun k => k = g') w2).more 1 _).alloc _) (fun e => ngt e.symm))
  have I3 := hide (show Has ((w2.setCell ⟨g', 1, none⟩ (.slice (some ⟨w2.heap.size, 0, none⟩) its.length its.length)).alloc (.cells cur 72)) w2.heap.size cur 72 from Has.new' _ _ _ _ (by rw [World.size_setCell]))
  have O3 := hide (show Only (fun _ => False) w ((w2.setCell ⟨g', 1, none⟩ (.slice (some ⟨w2.heap.size, 0, none⟩) its.length its.length)).alloc (.cells cur 72)) from ((unhide O2).setCell (fun h => by have h' : g' < w.heap.size := h; omega) _).alloc _)
  go_upto_region 4 with fail
  clear q0 q1 z1 hmk
  have SZ := hide sl
  clear sl nlt tlt
  generalize hz : w2.heap.size = z at *
  generalize (w2.setCell ⟨g', 1, none⟩ (.slice (some ⟨z, 0, none⟩) its.length its.length)).alloc (.cells cur 72) = w3 at *
  have q0 := (unhide G3).c1
  have q1 : w3.cell? ⟨g', 1, none⟩ = some (.slice (some ⟨z, 0, none⟩) its.length its.length) := by rw [(unhide N3).cell]; rfl
  have key : ∃ w4, (∀ ty, (Builtin.copy_ #[63, 63] ty #[.slice (some ⟨z, 0, none⟩) its.length its.length, .slice a its.length cap]).run Tryz.prog w3.drew = .ok (goInt its.length) w4) ∧ Has w4 z (itCells its).toArray 72 ∧ Only (fun k => k = z) w3 w4 := by
    obtain ⟨i, hi, hzr, hs, hb⟩ := info_parts Tryz.infoItm
    rcases (unhide G3).own.2 with ⟨he, h0⟩ | ⟨ib, cap', cur', he, _⟩
    · have hn : its = [] := List.eq_nil_of_length_eq_zero h0
      subst hn
      simp at he
      obtain ⟨rfl, rfl⟩ := he
      refine ⟨w3.drew, fun ty => run_copy_nil Tryz.prog w3.drew 63 63 ty 72 _ 0 0 Tryz.underlying63 (by rw [hi]; rfl), ?_, (Only.refl _ _).drew⟩
      have : cur = #[] := by
        have : cur.size = 0 := by simpa using hcur
        exact Array.eq_empty_of_size_eq_zero this
      have h3 := (unhide I3).drew
      rw [this] at h3
      exact h3
    · obtain ⟨rfl, rfl⟩ : a = some ⟨ib, 0, none⟩ ∧ cap = cap' := by
        have := he
        simp at this
        exact this
      have hc3 := World.ownsRow.cells (unhide G3).own (g := ib) (by first | exact rfl | simp [Value.ownBlock])
      have h4 := run_copy_row3 (P := Tryz.prog) w3.drew 63 63
      refine ⟨_, fun ty => run_copy_row3 (P := Tryz.prog) w3.drew 63 63 ty 72 z its.length its.length ⟨ib, 0, none⟩ its.length cap its.length cur 72 (itCells its) Tryz.underlying63 (by rw [hi]; simp [hs]) (unhide I3).drew (by simp) (itCells_len _) (fun j v hv => hc3 j v hv) (by rw [hcur, itCells_len]; exact Nat.le_refl _) (itCells_one _), ?_, ((Only.refl (fun k => k = z) w3).drew).trans setRow_only (fun _ _ h => h)⟩
      have hd : cur.toList.drop (itCells its).length = [] := by
        rw [List.drop_eq_nil_iff, itCells_len]
        simp [hcur]
      rw [hd, List.append_nil]
      exact (unhide I3).drew.setRowG _
  obtain ⟨w4, cp, I4, O4⟩ := key
  have I4 := hide I4
  have O4 := hide O4
  clear hz
  go_region
  all_goals
    go_wp2_with fail
    go_ret
    have ntz : tb' ≠ z := (unhide T3).ne (unhide I3) (by decide)
    refine ⟨g', tb', .slice (some ⟨z, 0, none⟩) its.length its.length, rfl, ⟨(unhide N3).keep (unhide O4) hne, (unhide T3).keep (unhide O4) ntz, ⟨itCells_len _, .inr ⟨z, its.length, (itCells its).toArray, rfl, Nat.zero_le _, unhide I4, Nat.le_refl _, by simp [maxLen]; omega, by simp [itCells_len], by simp [← itCells_len]⟩⟩, hl⟩, fun k hk => ?_, (unhide O3).trans (unhide O4) (fun i h e => by have := unhide SZ; omega)⟩
    rcases hk with rfl | rfl | hk
    · exact hg'
    · exact htb'
    · have : z = k := by simpa [Value.ownBlock] using hk
      rw [← this]
      exact unhide SZ
end
end Go.Proofs.Qxb6500410aGreat
