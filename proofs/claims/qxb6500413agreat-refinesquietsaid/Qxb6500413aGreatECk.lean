/-
  OWN WORK. TABLE: Check. (written by tools/gen_eck.py)
-/
import Derived.Test.Qxb6500413aGreatEChT
namespace Go.Proofs.Qxb6500413aGreat
open Go.RowKit Go.PlainAid
set_option linter.unusedSimpArgs false
set_option linter.unusedVariables false

section
variable {q : Gnd} {w : World} {x : Nat} {op : Bool} {S S1 : Vu} {T : List (Tb × Hd)} {t : Tb} {h : Hd}
def nmF (T : List (Tb × Hd)) (k : Nat) (i : Nat) : Bool := decide (i = 0 ∨ i ∈ hands (T.take k))
theorem take_succ' {α : Type} {l : List α} {k : Nat} {x : α} (h : l[k]? = some x) : l.take (k + 1) = l.take k ++ [x] := by
  have hk := (List.getElem?_eq_some_iff.mp h).1
  rw [List.take_succ_eq_append_getElem hk]
  rw [List.getElem?_eq_getElem hk] at h
  rw [Option.some.inj h]
theorem hands_succ {k : Nat} {y : Tb × Hd} (h : T[k]? = some y) : hands (T.take (k + 1)) = hands (T.take k) ++ hnd y := by
  rw [take_succ' h]
  unfold hands
  rw [List.flatMap_append]
  simp
theorem cat_succ {k : Nat} {y : Tb × Hd} (h : T[k]? = some y) : (catL (T.take (k + 1))).length = (catL (T.take k)).length + (1 + y.1.cols.length) := by
  rw [take_succ' h]
  unfold catL
  rw [List.flatMap_append, List.length_append]
  simp [catT]
theorem cat_take_le (k : Nat) : (catL (T.take k)).length ≤ (catL T).length := by
  have : catL T = catL (T.take k) ++ catL (T.drop k) := by
    unfold catL
    rw [← List.flatMap_append, List.take_append_drop]
  rw [this, List.length_append]
  omega
theorem Lay.notyet (L : Lay S T) {k : Nat} {y : Tb × Hd} (h : T[k]? = some y) : ∀ i ∈ hnd y, i ∉ hands (T.take k) := by
  intro i hi c
  obtain ⟨z, hz, hzi⟩ := mem_hands.mp c
  have hp := L.nod
  have hk := (List.getElem?_eq_some_iff.mp h).1
  have e : T = T.take k ++ (y :: T.drop (k + 1)) := by
    rw [List.getElem?_eq_getElem hk] at h
    rw [← Option.some.inj h, ← List.drop_eq_getElem_cons hk, List.take_append_drop]
  rw [e] at hp
  exact (List.pairwise_append.mp hp).2.2 z hz y (by simp) i hzi i hi rfl
theorem Lay.usedIff (L : Lay S T) (i : Nat) : (S i).isSome = nmF T T.length i := by
  unfold nmF
  rw [List.take_length]
  by_cases c : i = 0 ∨ i ∈ hands T
  · rw [decide_eq_true c]
    rcases c with c | c
    · rw [c, L.cat]; rfl
    · cases hs : S i with
      | none => exact absurd c (L.free hs)
      | some l => rfl
  · rw [decide_eq_false c]
    cases hs : S i with
    | none => rfl
    | some l => exact absurd (.inr (L.used i (fun e => c (.inl e)) (by rw [hs]; simp))) c
theorem OwnN.at_ {v : Value} {l : List ByteArray} (h : OwnN w v l) {i : Nat} {y : ByteArray} (hy : l[i]? = some y) : ∃ g cap, v = .slice (some ⟨g, 0, none⟩) l.length cap ∧ w.cell? ⟨g, i, none⟩ = some (.string y) := by
  have hl := (List.getElem?_eq_some_iff.mp hy).1
  rcases h.2 with ⟨hv, hn⟩ | ⟨g, cap, cur, hv, _, hh, _⟩
  · omega
  · subst hv
    have hc := h.cells (g := g) rfl
    have := hc i (.string y) (by rw [List.getElem?_map, hy]; rfl)
    rw [addr_add] at this
    exact ⟨g, cap, rfl, this⟩
/-- Within Check. -/
structure CcI (q : Gnd) (w : World) (x : Nat) (op : Bool) (S : Vu) (T : List (Tb × Hd)) (nv : Value) (b : Nat) (N : Nat → Bool) (wr : World) : Prop where
  st : ST q wr x op S
  on : Only q.S w wr
  nb : Has wr b (tabV 8 (fun i => .bool (N i))) 95
  nn : OwnN wr nv (T.map (fun x => x.1.nm))
  bl : w.heap.size ≤ b
  nq : Newer w nv
theorem CcI.go {nv : Value} {b : Nat} {N : Nat → Bool} {wr w' : World} (H : ST q w x op S) (I : CcI q w x op S T nv b N wr) (st : ST q w' x op S) (o : Only q.S wr w') : CcI q w x op S T nv b N w' :=
  ⟨st, I.on.ss o, I.nb.keep o (H.new I.bl), ownsRow_keep I.nn o (fun k hk => H.new (I.nq k hk)), I.bl, I.nq⟩
theorem CcI.quiet {nv : Value} {b : Nat} {N : Nat → Bool} {wr w' : World} (I : CcI q w x op S T nv b N wr) (o : Only (fun _ => False) wr w') : CcI q w x op S T nv b N w' :=
  ⟨I.st.quiet o, I.on.andS o, I.nb.keep o (fun e => e), ownsRow_keep I.nn o (fun _ _ e => e), I.bl, I.nq⟩
theorem CcI.set {nv : Value} {b : Nat} {N : Nat → Bool} {wr : World} (H : ST q w x op S) (I : CcI q w x op S T nv b N wr) (i : Nat) : CcI q w x op S T nv b (fun j => if j = i then true else N j) (wr.setCell ⟨b, i, none⟩ (.bool true)) := by
  have oo : Only (fun k => k = b) wr (wr.setCell ⟨b, i, none⟩ (.bool true)) := only1 _ _
  have hA := H.fv.Alt
  have hx := H.has.lt
  have bl := I.bl
  refine ⟨I.st.keep oo (fun k hk e => ?_), I.on.trans oo (fun k hk e => by omega), ?_, ownsRow_keep I.nn oo (fun k hk e => ownsRow_ne I.nn I.nb (by decide) k hk e), bl, I.nq⟩
  · rcases hk with d | d
    · have := hA k d; omega
    · omega
  · have := I.nb.setCell i (.bool true)
    rw [tabV_set] at this
    have e : tabV 8 (fun j => if j = i then (.bool true) else (.bool (N j))) = tabV 8 (fun j => Value.bool (if j = i then true else N j)) := tabV_congr 8 (fun j _ => by split <;> rfl)
    rw [e] at this
    exact this
theorem CcI.turn {nv : Value} {b : Nat} {N M : Nat → Bool} {wr : World} (I : CcI q w x op S T nv b N wr) (h : ∀ i, i < 8 → N i = M i) : CcI q w x op S T nv b M wr :=
  ⟨I.st, I.on, by have := I.nb; rw [tabV_congr 8 (f := fun i => Value.bool (N i)) (g := fun i => Value.bool (M i)) (fun i hi => by rw [h i hi])] at this; exact this, I.nn, I.bl, I.nq⟩
theorem CcI.cell {nv : Value} {b : Nat} {N : Nat → Bool} {wr : World} (I : CcI q w x op S T nv b N wr) {i : Nat} (hi : i < 8) : wr.cell? ⟨b, i, none⟩ = some (.bool (N i)) := by rw [I.nb.cell, tabV_get _ _ _ hi]
set_option maxRecDepth 100000 in
set_option maxHeartbeats 8000000 in
theorem echeck_any (H : ST q w x op S) (L : Lay S T) : Calls Tryz.prog 44 #[.pointer (some ⟨x, 0, none⟩)] w fun e w' => e = .returned (.bool true) ∧ ST q w' x op S ∧ Only q.S w w' := by
  have o0 : Only (fun _ => False) w (w.alloc (.cells #[.bool false, .bool false, .bool false, .bool false, .bool false, .bool false, .bool false, .bool false] 95)) := (Only.refl _ w).alloc _
  have N0 := Has.new w #[.bool false, .bool false, .bool false, .bool false, .bool false, .bool false, .bool false, .bool false] 95
  have N0t : Has (w.alloc (.cells #[.bool false, .bool false, .bool false, .bool false, .bool false, .bool false, .bool false, .bool false] 95)) w.heap.size (tabV 8 (fun i => .bool ((fun _ => false) i))) 95 := N0
  have H0 := H
  have HL := hide L
  have hT3 := L.len
  clear L H
  go_enter Tryz.func44, Tryz.ntmps44
  go_upto_region 2 with fail
  generalize w.alloc (.cells #[.bool false, .bool false, .bool false, .bool false, .bool false, .bool false, .bool false, .bool false] 95) = w0 at *
  have c0 := N0.cell 0
  have f0 := N0.free 0
  simp at c0
  have oo : Only (fun k => k = w.heap.size) w0 (w0.setCell ⟨w.heap.size, 0, none⟩ (.bool true)) := only1 _ _
  have hA := H0.fv.Alt
  have hxl := H0.has.lt
  have S1 : ST q (w0.setCell ⟨w.heap.size, 0, none⟩ (.bool true)) x op S := (H0.quiet o0).keep oo (fun k hk e => by
    rcases hk with d | d
    · have := hA k d; omega
    · omega)
  have O1 : Only q.S w (w0.setCell ⟨w.heap.size, 0, none⟩ (.bool true)) := (o0.toS (q := q)).trans oo (fun k hk e => by omega)
  have N1 : Has (w0.setCell ⟨w.heap.size, 0, none⟩ (.bool true)) w.heap.size (tabV 8 (fun i => .bool (nmF T 0 i))) 95 := by
    have := N0t.setCell 0 (.bool true)
    rw [tabV_set] at this
    rw [tabV_congr 8 (g := fun i => Value.bool (nmF T 0 i)) (fun j hj => by
      unfold nmF hands
      by_cases d : j = 0
      · simp [d]
      · simp [d])] at this
    exact this
  have HS1 := hide (And.intro S1 (And.intro O1 N1))
  have CT := hide (etables_any S1 (unhide HL))
  clear N0 N0t o0 oo hA hxl S1 O1 N1
  go_upto_region 3 with fail
  generalize w0.setCell ⟨w.heap.size, 0, none⟩ (.bool true) = w1 at *
  clear c0 f0
  go_wp2_with fail
  refine (unhide CT).mono ?_
  rintro e w2 ⟨nv, rfl, hnv, nnv, st2, o2⟩
  obtain ⟨S1, O1, N1⟩ := unhide HS1
  have hs1 := O1.size
  have I2 : CcI q w x op S T nv w.heap.size (nmF T 0) w2 := ⟨st2, O1.ss o2, N1.keep o2 (H0.new (Nat.le_refl _)), hnv, Nat.le_refl _, fun k hk => Nat.le_trans hs1 (nnv k hk)⟩
  obtain ⟨na, nc, rfl⟩ : ∃ a c, nv = .slice a T.length c := by obtain ⟨a, c, e⟩ := ownsRow_shape hnv; exact ⟨a, c, by rw [e]; simp⟩
  have HI2 := hide I2
  clear hnv nnv st2 o2 CT S1 O1 N1 I2 HS1 hs1
  have d3 : decide ((T.length : Int) > 3) = false := decide_eq_false (by omega)
  have d3' : decide (3 < (T.length : Int)) = false := decide_eq_false (by omega)
  have d3n : decide (3 < T.length) = false := decide_eq_false (by omega)
  obtain ⟨b, hb⟩ : ∃ b, w.heap.size = b := ⟨_, rfl⟩
  rw [hb] at HI2
  rw [hb]
  clear hb
  go_upto_region 8 with fail
  clear d3 d3' d3n
  go_loopw [5, 6, 7, 8, 9] (fun pv iv _ _ _ wr => ∃ k : Nat, iv = .int .i64 k ∧ k ≤ T.length ∧ pv = .int .i64 ((catL (T.take k)).length : Int) ∧ CcI q w x op S T (.slice na T.length nc) b (nmF T k) wr) (fun _ iv _ _ _ _ => T.length - (intOf iv).toNat)
  case atStart => exact ⟨0, rfl, Nat.zero_le _, rfl, unhide HI2⟩
  case round =>
    clear HI2
    obtain ⟨k, rfl, hk, rfl, I⟩ := hrel
    have hcl := (unhide HL).clen
    by_cases hk2 : k < T.length
    · have a1 : decide ((k : Int) < (T.length : Int)) = true := decide_eq_true (by omega)
      have a1p : (k : Int) < (T.length : Int) := by omega
      obtain ⟨⟨t, h⟩, hth⟩ := getE hk2
      have hx := List.mem_of_getElem? hth
      have ok := (unhide HL).tb _ hx
      have hf := (unhide HL).hd _ hx
      obtain ⟨ng, nc2, hne, e0⟩ := OwnN.at_ I.nn (i := k) (y := t.nm) (by rw [List.getElem?_map, hth]; rfl)
      simp only [List.length_map, Value.slice.injEq] at hne
      obtain ⟨rfl, _, rfl⟩ := hne
      have CL := hide (eload_yes I.st (unhide HL) hx)
      have HI := hide I
      have hsucc := hands_succ hth
      have csucc := cat_succ hth
      have hny := (unhide HL).notyet hth
      have en : h.n = t.cols.length := hf.n
      have epk : h.pk = t.pk := hf.pk
      have HH := hide (And.intro hsucc (And.intro csucc (And.intro hny (And.intro hx (And.intro ok (And.intro en hf))))))
      have csz : (catL (T.take (k + 1))).length ≤ 100 := by have h1 := (unhide HL).len; have h2 := cat_take_le (T := T) (k + 1); omega
      have CSZ := hide csz
      clear I hsucc csucc hny hx ok hf en epk hth hcl csz
      go_wp2_with fail
      refine (unhide CL).mono ?_
      rintro e w3 ⟨cv, rfl, hoc, nc3, st3, o3⟩
      obtain ⟨ca, cc, rfl⟩ := hoc.shape
      have I3 := (unhide HI).go H0 st3 o3
      have oB : Only (fun _ => False) w3 ((w3.alloc (.cells (hdC h) 149)).alloc (.cells (scC t.nm (.slice ca t.cols.length cc) (t.pk : Int) (ixI t.ix)) 65)) := ((Only.refl _ w3).alloc _).alloc _
      have I4 := I3.quiet oB
      have A4 : Has ((w3.alloc (.cells (hdC h) 149)).alloc (.cells (scC t.nm (.slice ca t.cols.length cc) (t.pk : Int) (ixI t.ix)) 65)) w3.heap.size (hdC h) 149 := (Has.new w3 _ _).alloc _
      have B4 : Has ((w3.alloc (.cells (hdC h) 149)).alloc (.cells (scC t.nm (.slice ca t.cols.length cc) (t.pk : Int) (ixI t.ix)) 65)) (w3.heap.size + 1) (scC t.nm (.slice ca t.cols.length cc) (t.pk : Int) (ixI t.ix)) 65 := Has.new' _ _ _ _ (by simp)
      have C4 := hoc.keep oB (fun _ _ e => e)
      have szI := (unhide HI).on.size
      have ncw : ∀ k, (Value.slice ca t.cols.length cc).ownBlock = some k → w.heap.size ≤ k := fun k hk => Nat.le_trans szI (nc3 k hk)
      have gl : w.heap.size ≤ w3.heap.size := I3.on.size
      clear CL hoc nc3 st3 o3 I3 oB HI szI
      unfold hdC scC at I4 A4 B4 C4
      unfold hdC scC
      go_upto_region 11 with fail
      generalize (w3.alloc (.cells #[.int .i64 (h.n : Int), .int .i64 (h.pk : Int), .int .i64 (ixI h.ix), .int .i64 (h.rows : Int), .int .i64 (ixI h.idx)] 149)).alloc (.cells #[.string t.nm, .slice ca t.cols.length cc, .int .i64 (t.pk : Int), .int .i64 (ixI t.ix)] 65) = w4 at *
      generalize w3.heap.size = gg at *
      have G4 := eGoodCols_any C4 (t.pk : Int)
      rw [decide_eq_true (unhide HH).2.2.2.2.1.cols] at G4
      have G4 := hide G4
      have b1 := B4.cell 1
      have b2 := B4.cell 2
      have a3 := A4.cell 3
      simp at b1 b2 a3
      have r1 : 1 ≤ h.rows := (unhide HH).2.2.2.2.2.2.ok.r1
      have r8 : h.rows < 8 := (unhide HH).2.2.2.2.2.2.ok.r8
      have hrI : (h.rows : Int) < 8 := by omega
      have HQ := hide (And.intro I4 (And.intro A4 (And.intro B4 C4)))
      clear I4 A4 B4 C4
      go_wp2_with fail
      refine (unhide G4).mono ?_
      rintro e w5 ⟨rfl, o5⟩
      obtain ⟨I4, A4, B4, C4⟩ := unhide HQ
      have I5 := I4.quiet o5
      have A5 := A4.keep o5 (fun e => e)
      have B5 := B4.keep o5 (fun e => e)
      have C5 := C4.keep o5 (fun _ _ e => e)
      clear I4 A4 B4 C4 HQ G4 o5 b1 b2 a3
      have nrow : nmF T k h.rows = false := by
        unfold nmF
        refine decide_eq_false (fun e => ?_)
        rcases e with e | e
        · omega
        · exact (unhide HH).2.2.1 h.rows (by simp [hnd]) e
      have u3 := I5.cell r8
      have v3 := I5.nb.free h.rows
      rw [nrow] at u3
      have a3 := A5.cell 3
      have a4 := A5.cell 4
      simp at a3 a4
      have I6 := I5.set H0 h.rows
      have nbA : gg ≠ b := fun e => by have := A5.ne I5.nb (by decide); exact this e
      have nbB : gg + 1 ≠ b := fun e => by have := B5.ne I5.nb (by decide); exact this e
      have oS : Only (fun j => j = b) w5 (w5.setCell ⟨b, h.rows, none⟩ (.bool true)) := only1 _ _
      have A6 := A5.keep oS nbA
      have B6 := B5.keep oS nbB
      have C6 := C5.keep oS (fun j hj e => ownsRow_ne C5 I5.nb (by decide) j hj e)
      have HQ := hide (And.intro I6 (And.intro A6 (And.intro B6 C6)))
      clear I5 A5 B5 C5 I6 A6 B6 C6 oS nrow
      go_upto_region 14 with fail
      generalize w5.setCell ⟨b, h.rows, none⟩ (.bool true) = w6 at *
      clear u3 v3 a3 a4
      obtain ⟨I6, A6, B6, C6⟩ := unhide HQ
      have a4 := A6.cell 4
      simp at a4
      clear HQ
      rcases opt_or h.idx with hi | ⟨ib, hi⟩
      · rw [hi] at a4
        simp only [ixI] at a4
        have HI := hide hi
        clear hi
        go_upto_region 18 with fail
        clear a4
        have CC := echeckTable_any I6.st (unhide HL) (unhide HH).2.2.2.1 C6 (fun j hj => H0.new (ncw j hj))
        unfold hdA schA at CC
        have CC := hide CC
        have a0 := A6.cell 0
        have a1 := A6.cell 1
        have a2 := A6.cell 2
        have a3 := A6.cell 3
        have a4 := A6.cell 4
        have b0 := B6.cell 0
        have b1 := B6.cell 1
        have b2 := B6.cell 2
        have b3 := B6.cell 3
        simp at a0 a1 a2 a3 a4 b0 b1 b2 b3
        have HQ := hide (And.intro I6 A6)
        clear I6 A6 B6 C6
        go_wp2_with fail
        refine (unhide CC).mono ?_
        rintro e w9 ⟨rfl, st9, o9⟩
        have I9 := (unhide HQ).1.go H0 st9 o9
        have A9 := (unhide HQ).2.keep o9 (H0.new gl)
        clear HQ CC st9 o9 a0 a1 a2 a3 a4 b0 b1 b2 b3
        have a0 := A9.cell 0
        simp at a0
        rw [(unhide HH).2.2.2.2.2.1] at a0
        have HF := hide (I9.turn (M := nmF T (k + 1)) (fun i hi => by unfold nmF; rw [(unhide HH).1]; unfold hnd; simp only; rw [unhide HI]; simp only [Option.toList, List.mem_append, List.mem_cons, List.not_mem_nil, or_false]; by_cases d : i = h.rows <;> simp [d]))
        have CS2 := hide (unhide HH).2.1
        clear I9 A9
        have cI : ((catL (T.take k)).length : Int) + (1 + (t.cols.length : Int)) = ((catL (T.take (k + 1))).length : Int) := by rw [unhide CS2]; omega
        have cB : ((catL (T.take (k + 1))).length : Int) ≤ 100 := by have := unhide CSZ; omega
        have n3 : (t.cols.length : Int) ≤ 3 := by have := (unhide HH).2.2.2.2.1.n3; omega
        have cB0 : ((catL (T.take k)).length : Int) ≤ 100 := by omega
        obtain ⟨P1, hP1⟩ : ∃ P, (catL (T.take (k + 1))).length = P := ⟨_, rfl⟩
        rw [hP1] at cI cB
        have HP1 := hide hP1
        clear hP1
        generalize (catL (T.take k)).length = P0 at *
        go_wp2_with fail
        go_roundw
        case rel => exact ⟨k + 1, by go_num, by omega, by rw [unhide HP1, ← cI], unhide HF⟩
        case measure => simp [intOf]; omega
      · rw [hi] at a4
        simp only [ixI] at a4
        have hx2 := (unhide HH).2.2.2.2.2.2.ok.idx ib hi
        have i1 : 1 ≤ ib := hx2.1
        have i8 : ib < 8 := hx2.2.1
        have ir : ib ≠ h.rows := hx2.2.2
        have hiI : (ib : Int) < 8 := by omega
        have bi : decide ((ib : Int) ≥ 0) = true := decide_eq_true (by omega)
        have bi' : decide (0 ≤ (ib : Int)) = true := decide_eq_true (by omega)
        have nidx : (if ib = h.rows then true else nmF T k ib) = false := by
          rw [if_neg ir]
          unfold nmF
          refine decide_eq_false (fun e => ?_)
          rcases e with e | e
          · omega
          · exact (unhide HH).2.2.1 ib (by simp [hnd, hi]) e
        have u4 := I6.cell i8
        have v4 := I6.nb.free ib
        rw [nidx] at u4
        have I7 := I6.set H0 ib
        have nbA : gg ≠ b := fun e => by have := A6.ne I6.nb (by decide); exact this e
        have nbB : gg + 1 ≠ b := fun e => by have := B6.ne I6.nb (by decide); exact this e
        have oS : Only (fun j => j = b) w6 (w6.setCell ⟨b, ib, none⟩ (.bool true)) := only1 _ _
        have A7 := A6.keep oS nbA
        have B7 := B6.keep oS nbB
        have C7 := C6.keep oS (fun j hj e => ownsRow_ne C6 I6.nb (by decide) j hj e)
        have HQ := hide (And.intro I7 (And.intro A7 (And.intro B7 C7)))
        have HI := hide hi
        have HIR := hide ir
        clear I6 A6 B6 C6 I7 A7 B7 C7 oS nidx hx2 hi ir i1 r1
        go_upto_region 18 with fail
        generalize w6.setCell ⟨b, ib, none⟩ (.bool true) = w7 at *
        clear u4 v4 a4 bi bi'
        obtain ⟨I7, A7, B7, C7⟩ := unhide HQ
        clear HQ
        have CC := echeckTable_any I7.st (unhide HL) (unhide HH).2.2.2.1 C7 (fun j hj => H0.new (ncw j hj))
        unfold hdA schA at CC
        have CC := hide CC
        have a0 := A7.cell 0
        have a1 := A7.cell 1
        have a2 := A7.cell 2
        have a3 := A7.cell 3
        have a4 := A7.cell 4
        have b0 := B7.cell 0
        have b1 := B7.cell 1
        have b2 := B7.cell 2
        have b3 := B7.cell 3
        simp at a0 a1 a2 a3 a4 b0 b1 b2 b3
        have HQ := hide (And.intro I7 A7)
        clear I7 A7 B7 C7
        go_wp2_with fail
        refine (unhide CC).mono ?_
        rintro e w9 ⟨rfl, st9, o9⟩
        have I9 := (unhide HQ).1.go H0 st9 o9
        have A9 := (unhide HQ).2.keep o9 (H0.new gl)
        clear HQ CC st9 o9 a0 a1 a2 a3 a4 b0 b1 b2 b3
        have a0 := A9.cell 0
        simp at a0
        rw [(unhide HH).2.2.2.2.2.1] at a0
        have HF := hide (I9.turn (M := nmF T (k + 1)) (fun i hi => by unfold nmF; rw [(unhide HH).1]; unfold hnd; simp only; rw [unhide HI]; simp only [Option.toList, List.mem_append, List.mem_cons, List.not_mem_nil, or_false]; by_cases d : i = h.rows <;> by_cases d2 : i = ib <;> simp [d, d2]))
        have CS2 := hide (unhide HH).2.1
        clear I9 A9
        have cI : ((catL (T.take k)).length : Int) + (1 + (t.cols.length : Int)) = ((catL (T.take (k + 1))).length : Int) := by rw [unhide CS2]; omega
        have cB : ((catL (T.take (k + 1))).length : Int) ≤ 100 := by have := unhide CSZ; omega
        have n3 : (t.cols.length : Int) ≤ 3 := by have := (unhide HH).2.2.2.2.1.n3; omega
        have cB0 : ((catL (T.take k)).length : Int) ≤ 100 := by omega
        obtain ⟨P1, hP1⟩ : ∃ P, (catL (T.take (k + 1))).length = P := ⟨_, rfl⟩
        rw [hP1] at cI cB
        have HP1 := hide hP1
        clear hP1
        generalize (catL (T.take k)).length = P0 at *
        go_wp2_with fail
        go_roundw
        case rel => exact ⟨k + 1, by go_num, by omega, by rw [unhide HP1, ← cI], unhide HF⟩
        case measure => simp [intOf]; omega
    · obtain rfl : k = T.length := by omega
      have a1 : decide ((T.length : Int) < (T.length : Int)) = false := by simp
      have HI := hide I
      have hcl2 : (catL (T.take T.length)).length ≤ 100 := by rw [List.take_length]; omega
      have HC := hide (show catL (T.take T.length) = catL T from by rw [List.take_length])
      clear I hcl
      generalize catL (T.take T.length) = CA at *
      go_upto_region 22 with fail
      go_loopw [10] (fun jv wr => ∃ j : Nat, jv = .int .i64 j ∧ j ≤ 8 ∧ CcI q w x op S T (.slice na T.length nc) b (nmF T T.length) wr) (fun jv _ => 8 - (intOf jv).toNat)
      case atStart => exact ⟨0, rfl, by omega, unhide HI⟩
      case round =>
        clear HI
        obtain ⟨j, rfl, hj, I⟩ := hrel
        skip
        by_cases hj2 : j < 8
        · have a2 : decide ((j : Int) < 8) = true := decide_eq_true (by omega)
          have a2p : (j : Int) < 8 := by omega
          obtain ⟨N, hN⟩ : ∃ N, nmF T T.length j = N := ⟨_, rfl⟩
          have CU := vused_any (I.st.quiet ((Only.refl _ _).drew)).fv (j : Int)
          rw [Vz_nat S hj2, (unhide HL).usedIff j, hN] at CU
          have CU := hide CU
          have u := I.cell hj2
          rw [hN] at u
          have xc := I.st.c0
          have HI := hide I
          have bN : (!(N == N)) = false := by simp
          have bN' : (N != N) = false := by simp
          have HU := hide (fun (w9 : World) (o9 : Only q.S _ w9) => show w9.cell? ⟨b, j, none⟩ = some (.bool N) from by rw [((I.quiet ((Only.refl _ _).drew)).nb.keep o9 (H0.new I.bl)).cell, tabV_get _ _ _ hj2, hN])
          clear I hN
          go_upto_region 24 with fail
          go_cut [85] (fun zv wx => zv = .bool false ∧ CcI q w x op S T (.slice na T.length nc) b (nmF T T.length) wx)
          case first =>
            go_region_with (go_at_call 49; refine (unhide CU).mono ?_; rintro e w9 ⟨rfl, A9, o9⟩; have u9 := unhide HU w9 o9; have HF := hide (((unhide HI).quiet ((Only.refl _ _).drew)).go H0 (((unhide HI).st.quiet ((Only.refl _ _).drew)).turn A9 o9) o9); clear A9 o9)
            all_goals
              go_wp2_with fail
              go_meet
              exact ⟨by first | rfl | simp, unhide HF⟩
          case rest =>
          obtain ⟨rfl, hI⟩ := hcut
          have HF := hide hI
          clear hI HI CU HU u xc
          go_wp2_with fail
          go_roundw
          case rel => exact ⟨j + 1, by go_num, by omega, unhide HF⟩
          case measure => simp [intOf]; omega
        · obtain rfl : j = 8 := by omega
          have a2 : decide (((8 : Nat) : Int) < 8) = false := by decide
          have CA2 := eall_any I.st 0
          rw [show Lz S 0 = CA from (Lz_nat (i := 0) (by omega) (unhide HL).cat).trans (unhide HC).symm] at CA2
          have CA2 := hide CA2
          have HI := hide I
          clear I
          go_wp2_with fail
          refine (unhide CA2).mono ?_
          rintro e w8 ⟨va, rfl, hva, nva, st8, o8⟩
          obtain ⟨xa, xc, rfl⟩ := ownsRow_shape hva
          have HF := hide (And.intro st8 ((unhide HI).on.ss o8))
          clear hva nva st8 o8 HI CA2
          go_wp2_with fail
          go_ret
          exact ⟨by first | rfl | simp, unhide HF⟩
end
end Go.Proofs.Qxb6500413aGreat
