/-
  OWN WORK. TABLE: a row fetched; a table's head and schema read out of the catalog.
-/
import Derived.Test.Qxb6500412aGreatESt
import Derived.Test.Qxb6500412aGreatEHd2
import Derived.Test.Qxb6500412aGreatERw
namespace Go.Proofs.Qxb6500412aGreat
open Go.RowKit Go.PlainAid
set_option linter.unusedSimpArgs false
set_option linter.unusedVariables false

section
variable {q : Gnd} {w : World} {x : Nat} {op : Bool} {S : Vu} {T : List (Tb × Hd)} {t : Tb} {h : Hd}
theorem eget_any (H : ST q w x op S) (h : Int) (k : ByteArray) : Calls Tryz.prog 283 #[.pointer (some ⟨q.f, 0, none⟩), .int .i64 h, .string k] w fun e w' => e = .returned (getS S h k) ∧ ST q w' x op S ∧ Only q.S w w' := by
  refine (vget_any H.fv h k).mono ?_
  rintro e w' ⟨rfl, A, o⟩
  exact ⟨rfl, H.turn A o, o⟩
theorem getS_some {i : Nat} (hi : i < 8) {l : List KV} (hl : S i = some l) {k v : ByteArray} (hg : getL k l = some v) : getS S (i : Int) k = .tuple #[.string v, .int .i64 0] := by
  unfold getS
  rw [Vz_nat S hi, hl]
  simp only
  rw [hg]
  rfl
theorem getS_none {i : Nat} (hi : i < 8) {l : List KV} (hl : S i = some l) {k : ByteArray} (hg : getL k l = none) : getS S (i : Int) k = .tuple #[.string ⟨#[]⟩, .int .i64 9] := by
  unfold getS
  rw [Vz_nat S hi, hl]
  simp only
  rw [hg]
  rfl
theorem Lay.getCat (L : Lay S T) {y : Tb × Hd} (hy : y ∈ T) {i : Nat} (hi : i ≤ y.1.cols.length) : getS S 0 (catK y.1.nm i) = .tuple #[.string (part y i), .int .i64 0] :=
  getS_some (i := 0) (by omega) L.cat (L.csrt.get.mpr (catL_mem.mpr ⟨y, hy, i, hi, rfl⟩))
theorem Lay.getNo (L : Lay S T) {nm : ByteArray} (hn : nm.size ≤ 6) (hno : ∀ y ∈ T, y.1.nm ≠ nm) : getS S 0 (catK nm 0) = .tuple #[.string ⟨#[]⟩, .int .i64 9] := by
  refine getS_none (i := 0) (by omega) L.cat (getL_none (fun e he hc => ?_))
  obtain ⟨y, hy, i, hi, rfl⟩ := catL_mem.mp he
  have hs := L.small y hy
  exact hno y hy (catK_inj hs.1 hn (by omega) (by omega) hc).1
theorem run_make_cols (w : World) (n : Nat) (hn : n ≤ 1000) : ∃ cur : Array Value, cur.size = n * 2 ∧ (Instr.makeSlice 77 (.int .i64 n) (.int .i64 n)).run Tryz.prog w = .ok (.slice (some ⟨w.heap.size, 0, none⟩) n n) (w.alloc (.cells cur 149)) := by
  obtain ⟨i, hi, hz, hs, hb⟩ := info_parts Tryz.infoECol
  have := run_make (P := Tryz.prog) w 77 149 i _ Tryz.underlying77 hi hz .i64 .i64 (n : Int) (n : Int) (by omega) (by omega) (by rw [hb]; omega) (by omega)
  refine ⟨_, ?_, this⟩
  simp [madeCells, Value.cells, hs]
/-- The first i columns are laid in block g. -/
def CwI (c : List Cl) (g i : Nat) (wr : World) : Prop := ∃ cur : Array Value, cur.size = c.length * 2 ∧ Has wr g cur 149 ∧ ∀ j, j < i * 2 → cur[j]? = (ccs c)[j]?
theorem CwI.done {wr : World} {c : List Cl} {g : Nat} (h : CwI c g c.length wr) (hl : c.length ≤ 1000) : OwnC wr (.slice (some ⟨g, 0, none⟩) c.length c.length) c := by
  obtain ⟨cur, h1, h2, h3⟩ := h
  have hc : cur = (ccs c).toArray := by
    apply Array.ext_getElem?
    intro j
    by_cases d : j < c.length * 2
    · rw [h3 j d]; simp
    · rw [Array.getElem?_eq_none (by omega), List.getElem?_toArray, List.getElem?_eq_none (by rw [ccs_len]; omega)]
  rw [hc] at h2
  refine ⟨ccs_len c, .inr ⟨g, c.length, _, rfl, Nat.zero_le _, h2, Nat.le_refl _, ?_, ?_, ?_⟩⟩
  · unfold maxLen; omega
  · simp [ccs_len]
  · rw [List.toList_toArray, ← ccs_len, List.take_length]
theorem CwI.cells {wr : World} {c : List Cl} {g i : Nat} (h : CwI c g i wr) (hi : i < c.length) : ∃ a b, wr.cell? ⟨g, i * 2, none⟩ = some a ∧ wr.cell? ⟨g, i * 2 + 1, none⟩ = some b ∧ wr.frozen? ⟨g, i * 2, none⟩ = false ∧ wr.frozen? ⟨g, i * 2 + 1, none⟩ = false := by
  obtain ⟨cur, h1, h2, h3⟩ := h
  refine ⟨cur[i * 2], cur[i * 2 + 1], ?_, ?_, h2.free _, h2.free _⟩
  · rw [h2.cell]; exact Array.getElem?_eq_getElem (by omega)
  · rw [h2.cell]; exact Array.getElem?_eq_getElem (by omega)
theorem CwI.keep {B : Nat → Prop} {wr w' : World} {c : List Cl} {g i : Nat} (h : CwI c g i wr) (ho : Only B wr w') (hB : ¬ B g) : CwI c g i w' := by
  obtain ⟨cur, h1, h2, h3⟩ := h
  exact ⟨cur, h1, h2.keep ho hB, h3⟩
theorem CwI.step {wr : World} {c : List Cl} {g i : Nat} {v : Cl} (h : CwI c g i wr) (hv : c[i]? = some v) : CwI c g (i + 1) ((wr.setCell ⟨g, i * 2, none⟩ (.string v.1)).setCell ⟨g, i * 2 + 1, none⟩ (.bool v.2)) := by
  obtain ⟨cur, h1, h2, h3⟩ := h
  obtain ⟨a1, a2⟩ := ccs_at c i hv
  refine ⟨_, by simp [h1], (h2.setCell _ _).setCell _ _, fun j hj => ?_⟩
  have hi := (List.getElem?_eq_some_iff.mp hv).1
  simp only [Array.getElem?_setIfInBounds, Array.size_setIfInBounds]
  by_cases c1 : i * 2 + 1 = j
  · rw [if_pos c1, if_pos (by omega), ← c1, a2]
  · rw [if_neg c1]
    by_cases c0 : i * 2 = j
    · rw [if_pos c0, if_pos (by omega), ← c0, a1]
    · rw [if_neg c0]
      exact h3 j (by omega)
/-- The row under a key's code. -/
theorem getRow (L : Lay S T) (hx : (t, h) ∈ T) (k : ByteArray) : getS S (h.rows : Int) k = match t.rows.find? (fun r => decide (pkK t.pk r = k)) with
    | none => .tuple #[.string ⟨#[]⟩, .int .i64 9]
    | some r => .tuple #[.string (restP r t.pk), .int .i64 0] := by
  have h1 : S h.rows = some (rowsL t.pk t.rows) := L.rows _ hx
  have h2 := getL_rows (pk := t.pk) (rows := t.rows) k
  cases hf : t.rows.find? (fun r => decide (pkK t.pk r = k)) with
  | none => rw [hf] at h2; exact getS_none (L.hd _ hx).ok.r8 h1 h2
  | some r => rw [hf] at h2; exact getS_some (L.hd _ hx).ok.r8 h1 h2
def fndR (t : Tb) (k : ByteArray) : Option (List Vl) := t.rows.find? (fun r => decide (pkK t.pk r = k))
theorem fndR_some {r : List Vl} {k : ByteArray} (hf : fndR t k = some r) : r ∈ t.rows ∧ pkK t.pk r = k := by
  unfold fndR at hf
  exact ⟨List.mem_of_find?_eq_some hf, by simpa using List.find?_some hf⟩
theorem fndR_none {k : ByteArray} (hf : fndR t k = none) : ∀ r ∈ t.rows, pkK t.pk r ≠ k := by
  intro r hr
  unfold fndR at hf
  have := List.find?_eq_none.mp hf r hr
  simpa using this
def errR (o : Option (List Vl)) : Int := match o with
  | none => 9
  | some _ => 0
set_option maxRecDepth 100000 in
set_option maxHeartbeats 4000000 in
theorem efetch_o (H : ST q w x op S) (L : Lay S T) (hx : (t, h) ∈ T) {cv : Value} (hc : OwnC w cv t.cols) (hcq : ∀ k, cv.ownBlock = some k → ¬ q.S k) (nm : ByteArray) (ix : Int) (k : ByteArray) (o : Option (List Vl)) (ho : fndR t k = o) : Calls Tryz.prog 256 #[.pointer (some ⟨x, 0, none⟩), hdA h, schA nm cv (t.pk : Int) ix, .string k] w fun e w' => ∃ (v : Value) (c : Int), e = .returned (.tuple #[v, .int .i64 c]) ∧ OwnV w' v (o.getD []) ∧ Newer w v ∧ c = errR o ∧ ST q w' x op S ∧ Only q.S w w' := by
  have ok := L.tb _ hx
  have hg := getRow L hx k
  obtain ⟨a, cap, rfl⟩ := hc.shape
  have o0 : Only (fun _ => False) w ((w.alloc (.cells #[.int .i64 (h.n : Int), .int .i64 (h.pk : Int), .int .i64 (ixI h.ix), .int .i64 (h.rows : Int), .int .i64 (ixI h.idx)] 275)).alloc (.cells #[.string nm, .slice a t.cols.length cap, .int .i64 (t.pk : Int), .int .i64 ix] 79)) := ((Only.refl _ w).alloc _).alloc _
  have A0 := Has.new w #[.int .i64 (h.n : Int), .int .i64 (h.pk : Int), .int .i64 (ixI h.ix), .int .i64 (h.rows : Int), .int .i64 (ixI h.idx)] 275
  have A1 := A0.keep ((Only.refl (fun _ => False) _).alloc (.cells #[.string nm, .slice a t.cols.length cap, .int .i64 (t.pk : Int), .int .i64 ix] 79)) (fun e => e)
  have B1 := Has.new (w.alloc (.cells #[.int .i64 (h.n : Int), .int .i64 (h.pk : Int), .int .i64 (ixI h.ix), .int .i64 (h.rows : Int), .int .i64 (ixI h.idx)] 275)) #[.string nm, .slice a t.cols.length cap, .int .i64 (t.pk : Int), .int .i64 ix] 79
  simp only [World.size_alloc] at B1
  unfold hdA
  go_enter Tryz.func256, Tryz.ntmps256
  go_upto_region 1 with fail
  generalize (w.alloc (.cells #[.int .i64 (h.n : Int), .int .i64 (h.pk : Int), .int .i64 (ixI h.ix), .int .i64 (h.rows : Int), .int .i64 (ixI h.idx)] 275)).alloc (.cells #[.string nm, .slice a t.cols.length cap, .int .i64 (t.pk : Int), .int .i64 ix] 79) = w1 at *
  have H1 := H.quiet o0
  have c1 := H1.c0
  have a3 := A1.cell 3
  simp at a3
  have CG := eget_any (H1.quiet ((Only.refl _ w1).drew)) (h.rows : Int) k
  obtain ⟨V, C, hVC, hno, hso⟩ : ∃ (V : ByteArray) (C : Int), getS S (h.rows : Int) k = .tuple #[.string V, .int .i64 C] ∧ (fndR t k = none → C = 9) ∧ (∀ r, fndR t k = some r → C = 0 ∧ V = restP r t.pk) := by
    unfold fndR
    cases hf : t.rows.find? (fun r => decide (pkK t.pk r = k)) with
    | none => rw [hf] at hg; exact ⟨_, _, hg, (fun _ => rfl), (fun r e => nomatch e)⟩
    | some r => rw [hf] at hg; exact ⟨_, _, hg, (fun e => nomatch e), (fun r' e => by cases e; exact ⟨rfl, rfl⟩)⟩
  rw [hVC] at CG
  have CG := hide CG
  have HC := hide (And.intro hc hcq)
  have HH := hide H
  have HN := hide (And.intro hno hso)
  have hs0 := o0.size
  have bl1 := B1.lt
  clear A0 hg hVC hno hso hc hcq H1 H
  go_cut [10, 11] (fun vv cc wx => vv = .string V ∧ cc = .int .i64 C ∧ ST q wx x op S ∧ Only q.S w1 wx)
  case first =>
    go_region_with (go_at_call 283; refine (unhide CG).mono ?_; rintro e w2 ⟨rfl, st2, o2⟩; have HF := hide (And.intro st2 ((Only.refl q.S w1).drew.ss o2)); clear st2 o2)
    all_goals
      go_wp2_with fail
      go_meet
      exact ⟨rfl, rfl, unhide HF⟩
  case rest =>
  obtain ⟨rfl, rfl, st2, o2⟩ := hcut
  generalize wc = w2 at *
  have B2 := B1.keep o2 ((unhide HH).new (by omega))
  have O2 := hide ((o0.toS (q := q)).ss o2)
  have HST := hide st2
  have b0 := B2.cell 0
  have b1 := B2.cell 1
  have b2 := B2.cell 2
  have b3 := B2.cell 3
  simp at b0 b1 b2 b3
  clear A1 B1 c1 a3 CG st2
  cases o with
  | none =>
    obtain rfl := (unhide HN).1 ho
    clear B2 o2 ho
    go_wp2_with fail
    go_ret2
    exact ⟨.slice none 0 0, 9, rfl, OwnV.nil _, (fun k hk => by simp [Value.ownBlock] at hk), rfl, unhide HST, unhide O2⟩
  | some r =>
    obtain ⟨rfl, rfl⟩ := (unhide HN).2 r ho
    obtain ⟨hrm, hrk⟩ := fndR_some ho
    have hc2 : OwnC w2 (.slice a t.cols.length cap) t.cols := (unhide HC).1.keep (unhide O2) (fun k hk => (unhide HC).2 k hk)
    have CR := erowOf_any hc2 (ok.row r hrm) ok.n3 ok.pkn nm ix
    rw [hrk] at CR
    have CR := hide CR
    have hs2 := (unhide O2).size
    clear B2 o2 ho hrm hrk hc2 ok
    go_wp2_with fail
    refine (unhide CR).mono ?_
    rintro e w3 ⟨v, rfl, hv, nv, o3⟩
    have HF := hide (And.intro hv (And.intro nv o3))
    obtain ⟨va, vc, rfl⟩ := hv.shape
    clear hv nv o3 CR
    go_wp2_with fail
    go_ret2
    exact ⟨.slice va r.length vc, 0, rfl, (unhide HF).1, (fun k hk => Nat.le_trans hs2 ((unhide HF).2.1 k hk)), rfl, (unhide HST).quiet (unhide HF).2.2, (unhide O2).andS (unhide HF).2.2⟩
end
end Go.Proofs.Qxb6500412aGreat
