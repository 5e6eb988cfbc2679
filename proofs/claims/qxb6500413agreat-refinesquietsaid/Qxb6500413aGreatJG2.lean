/-
  OWN WORK. THE TABLE LAW's GHOST: GClone.
-/
import Derived.Test.Qxb6500413aGreatJG1
namespace Go.Proofs.Qxb6500413aGreat
open Go.RowKit Go.PlainAid
set_option linter.unusedSimpArgs false
set_option linter.unusedVariables false

theorem Tryz.infoJGTab : (Tryz.prog.info? 68).map (fun i => (i.zero, i.size, i.bytes)) = some (some (.agg #[.string ⟨#[]⟩, .slice none 0 0, .int .i64 0, .int .i64 0, .slice none 0 0]), 5, 80) := by kernel_rfl
theorem run_make_tabs (w : World) (n : Nat) (hn : n ≤ 1000) : ∃ cur : Array Value, cur.size = n * 5 ∧ (Instr.makeSlice 36 (.int .i64 n) (.int .i64 n)).run Tryz.prog w = .ok (.slice (some ⟨w.heap.size, 0, none⟩) n n) (w.alloc (.cells cur 68)) := by
  obtain ⟨i, hi, hz, hs, hb⟩ := info_parts Tryz.infoJGTab
  have := run_make (P := Tryz.prog) w 36 68 i _ Tryz.underlying36 hi hz .i64 .i64 (n : Int) (n : Int) (by omega) (by omega) (by rw [hb]; omega) (by omega)
  refine ⟨_, ?_, this⟩
  simp [madeCells, Value.cells, hs]
/-- copy of a table's rows. -/
theorem run_copy_rows {w : World} {e : GE} (E : GEl w e) {z : Nat} {cur : Array Value} (Z : Has w z cur 76) (hc : cur.size = e.us.length) : ∃ w4, (∀ ty, (Builtin.copy_ #[66, 66] ty #[.slice (some ⟨z, 0, none⟩) e.us.length e.us.length, e.rv]).run Tryz.prog w = .ok (goInt e.us.length) w4) ∧ Has w4 z e.us.toArray 76 ∧ Only (fun k => k = z) w w4 := by
  obtain ⟨i, hi, hzr, hs, hb⟩ := info_parts Tryz.infoEVals
  rcases E.rs.2 with ⟨he, h0⟩ | ⟨ib, cap', cur', he, _⟩
  · have hn : e.us = [] := List.eq_nil_of_length_eq_zero h0
    rw [he]
    refine ⟨w, fun ty => ?_, ?_, Only.refl _ _⟩
    · rw [hn]
      exact run_copy_nil Tryz.prog w 66 66 ty 76 _ 0 0 Tryz.underlying66 (by rw [hi]; rfl)
    · have : cur = #[] := Array.eq_empty_of_size_eq_zero (by rw [hc, h0])
      rw [this] at Z
      rw [hn]
      exact Z
  · have hc3 := World.ownsRow.cells E.rs (g := ib) (by rw [he]; rfl)
    rw [he]
    have h1 : ∀ v ∈ e.us, v.oneCell' = true := fun v hv => by
      obtain ⟨j, hj⟩ := List.getElem?_of_mem hv
      obtain ⟨r, hr⟩ := getE (l := e.t.rows) (i := j) (by rw [← E.n]; exact (List.getElem?_eq_some_iff.mp hj).1)
      obtain ⟨a, cap, rfl⟩ := (E.row j v r hj hr).shape
      rfl
    refine ⟨_, fun ty => run_copy_row (P := Tryz.prog) w 66 66 ty 76 z 0 e.us.length e.us.length ⟨ib, 0, none⟩ e.us.length cap' cur 76 e.us Tryz.underlying66 (by rw [hi]; simp [hs]) Z (by simp) (fun j v hv => hc3 j v hv) (by omega) h1, ?_, setRow_only⟩
    rw [List.take_zero, List.nil_append, Nat.zero_add, List.drop_of_length_le (by simp [hc]), List.append_nil]
    exact setRow_heap w z cur _ _ _ Z
def ce (e : GE) (z : Nat) : GE := ⟨e.t, e.cv, .slice (some ⟨z, 0, none⟩) e.us.length e.us.length, e.us⟩
def cln (l : List GE) (zs : List Nat) : List GE := List.zipWith ce l zs
theorem cln_snoc : ∀ {l : List GE} {zs : List Nat} {e : GE} {z : Nat}, l[zs.length]? = some e → cln l (zs ++ [z]) = cln l zs ++ [ce e z]
  | [], zs, e, z, h => by simp at h
  | a :: r, [], e, z, h => by
    obtain rfl : a = e := by simpa using h
    simp [cln]
  | a :: r, y :: ys, e, z, h => by
    have := cln_snoc (l := r) (zs := ys) (e := e) (z := z) (by simpa using h)
    unfold cln at this ⊢
    simp [this]
theorem cln_len {l : List GE} {zs : List Nat} (h : zs.length ≤ l.length) : (cln l zs).length = zs.length := by unfold cln; rw [List.length_zipWith]; omega
theorem cln_t : ∀ {l : List GE} {zs : List Nat}, zs.length = l.length → (cln l zs).map (·.t) = l.map (·.t)
  | [], zs, h => by simp [cln]
  | a :: r, [], h => by simp at h
  | a :: r, y :: ys, h => by
    have := cln_t (l := r) (zs := ys) (by simpa using h)
    unfold cln at this ⊢
    simp [this, ce]
theorem cln_mem : ∀ {l : List GE} {zs : List Nat} {x : GE}, x ∈ cln l zs → ∃ e ∈ l, ∃ z ∈ zs, x = ce e z
  | [], zs, x, h => by simp [cln] at h
  | a :: r, [], x, h => by simp [cln] at h
  | a :: r, y :: ys, x, h => by
    unfold cln at h
    rw [List.zipWith_cons_cons, List.mem_cons] at h
    rcases h with rfl | h
    · exact ⟨a, List.mem_cons_self, y, List.mem_cons_self, rfl⟩
    · obtain ⟨e, he, z, hz, hx⟩ := cln_mem (l := r) (zs := ys) h
      exact ⟨e, List.mem_cons_of_mem _ he, z, List.mem_cons_of_mem _ hz, hx⟩
theorem cln_sep : ∀ {l : List GE} {zs : List Nat}, zs.Nodup → (cln l zs).Pairwise (fun a b => ∀ k, GEm a k → ¬ GEm b k)
  | [], zs, h => by simp [cln]
  | a :: r, [], h => by simp [cln]
  | a :: r, y :: ys, h => by
    have := cln_sep (l := r) (zs := ys) (List.nodup_cons.mp h).2
    unfold cln
    rw [List.zipWith_cons_cons]
    refine List.Pairwise.cons (fun x hx k h1 h2 => ?_) this
    obtain ⟨e, _, z, hz, rfl⟩ := cln_mem (l := r) (zs := ys) hx
    unfold GEm ce at h1 h2
    simp [Value.ownBlock] at h1 h2
    subst h1
    subst h2
    exact (List.nodup_cons.mp h).1 hz
/-- The first i tables are cloned into block g. -/
structure ClI (w : World) (l : List GE) (g i : Nat) (zs : List Nat) (wr : World) : Prop where
  n : zs.length = i
  nd : zs.Nodup
  fr : ∀ z ∈ zs, w.heap.size ≤ z
  has : ∃ cur : Array Value, cur.size = l.length * 5 ∧ Has wr g cur 68 ∧ ∀ j, j < i * 5 → cur[j]? = (gcs (cln l zs))[j]?
  el : ∀ e ∈ cln l zs, GEl wr e
  on : Only (fun _ => False) w wr
theorem ClI.cells {w wr : World} {l : List GE} {g i : Nat} {zs : List Nat} (h : ClI w l g i zs wr) (hi : i < l.length) : ∃ a b c d e, (wr.cell? ⟨g, i * 5, none⟩ = some a ∧ wr.cell? ⟨g, i * 5 + 1, none⟩ = some b ∧ wr.cell? ⟨g, i * 5 + 2, none⟩ = some c ∧ wr.cell? ⟨g, i * 5 + 3, none⟩ = some d ∧ wr.cell? ⟨g, i * 5 + 4, none⟩ = some e) ∧ ∀ j, wr.frozen? ⟨g, j, none⟩ = false := by
  obtain ⟨cur, h1, h2, h3⟩ := h.has
  refine ⟨cur[i * 5], cur[i * 5 + 1], cur[i * 5 + 2], cur[i * 5 + 3], cur[i * 5 + 4], ⟨?_, ?_, ?_, ?_, ?_⟩, fun j => h2.free _⟩
  all_goals
    rw [h2.cell]; exact Array.getElem?_eq_getElem (by omega)
theorem ClI.far {w wr w' : World} {l : List GE} {g i : Nat} {zs : List Nat} {z : Nat} (h : ClI w l g i zs wr) (ho : Only (fun k => k = z) wr w') (hz : wr.heap.size ≤ z) : ClI w l g i zs w' := by
  obtain ⟨cur, h1, h2, h3⟩ := h.has
  refine ⟨h.n, h.nd, h.fr, ⟨cur, h1, h2.keep ho (fun e => by have := h2.lt; omega), h3⟩, fun e he => (h.el e he).keep ho (fun k hk e' => by have := (h.el e he).lt k (.inl hk); omega) (fun k hk e' => by have := (h.el e he).lt k (.inr hk); omega), h.on.fresh ho (by have := h.on.size; omega)⟩
def st5 (w : World) (g i : Nat) (e : GE) : World := ((((w.setCell ⟨g, i * 5, none⟩ (.string e.t.nm)).setCell ⟨g, i * 5 + 1, none⟩ e.cv).setCell ⟨g, i * 5 + 2, none⟩ (.int .i64 (e.t.pk : Int))).setCell ⟨g, i * 5 + 3, none⟩ (.int .i64 (ixI e.t.ix))).setCell ⟨g, i * 5 + 4, none⟩ e.rv
theorem st5_only (w : World) (g i : Nat) (e : GE) : Only (fun k => k = g) w (st5 w g i e) := ((((only1 (p := g) _ _).trans (only1 (p := g) _ _) (fun _ _ h => h)).trans (only1 (p := g) _ _) (fun _ _ h => h)).trans (only1 (p := g) _ _) (fun _ _ h => h)).trans (only1 (p := g) _ _) (fun _ _ h => h)
theorem ClI.step {w wr : World} {l : List GE} {g i z : Nat} {zs : List Nat} {e : GE} (h : ClI w l g i zs wr) (he : l[i]? = some e) (E : GEl wr e) (Z : Has wr z e.us.toArray 76) (hz : w.heap.size ≤ z) (hzn : z ∉ zs) (hg : w.heap.size ≤ g) : ClI w l g (i + 1) (zs ++ [z]) (st5 wr g i (ce e z)) := by
  obtain ⟨cur, h1, h2, h3⟩ := h.has
  have hn := h.n
  have hi := (List.getElem?_eq_some_iff.mp he).1
  have hs : cln l (zs ++ [z]) = cln l zs ++ [ce e z] := cln_snoc (by rw [hn]; exact he)
  have hcl : (cln l zs).length = i := by rw [cln_len (by omega), hn]
  have ha : (cln l (zs ++ [z]))[i]? = some (ce e z) := by rw [hs, ← hcl]; simp
  obtain ⟨a1, a2, a3, a4, a5⟩ := gcs_at _ i ha
  have oo := st5_only wr g i (ce e z)
  have kp : ∀ x, GEl wr x → GEl (st5 wr g i (ce e z)) x := fun x X => X.keep oo (fun k hk e' => by
      obtain ⟨c, hc⟩ := ownsRow_has X.rs hk
      subst e'
      exact absurd (h2.inj hc).2 (by decide)) (fun k hk e' => by
      subst e'
      exact X.imm hk h2 (by decide) (by decide))
  refine ⟨by simp [hn], List.nodup_append.mpr ⟨h.nd, by simp, fun x hx y hy => by simp at hy; subst hy; exact fun e' => hzn (e' ▸ hx)⟩, fun y hy => ?_, ⟨_, by simp [h1], ((((h2.setCell _ _).setCell _ _).setCell _ _).setCell _ _).setCell _ _, fun j hj => ?_⟩, fun x hx => ?_, h.on.fresh oo hg⟩
  · rcases List.mem_append.mp hy with hy | hy
    · exact h.fr y hy
    · simp at hy; omega
  · simp only [Array.getElem?_setIfInBounds, Array.size_setIfInBounds]
    by_cases c4 : i * 5 + 4 = j
    · rw [if_pos c4, if_pos (by omega), ← c4, a5]
    · rw [if_neg c4]
      by_cases c3 : i * 5 + 3 = j
      · rw [if_pos c3, if_pos (by omega), ← c3, a4]
      · rw [if_neg c3]
        by_cases c2 : i * 5 + 2 = j
        · rw [if_pos c2, if_pos (by omega), ← c2, a3]
        · rw [if_neg c2]
          by_cases c1 : i * 5 + 1 = j
          · rw [if_pos c1, if_pos (by omega), ← c1, a2]
          · rw [if_neg c1]
            by_cases c0 : i * 5 = j
            · rw [if_pos c0, if_pos (by omega), ← c0, a1]
            · rw [if_neg c0, h3 j (by omega), hs, gcs_app, List.getElem?_append_left (by rw [gcs_len, hcl]; omega)]
  · rw [hs] at hx
    rcases List.mem_append.mp hx with hx | hx
    · exact kp x (h.el x hx)
    · simp at hx
      subst hx
      refine kp _ ⟨E.ok, E.col, ⟨by simp [ce], .inr ⟨z, e.us.length, _, rfl, Nat.zero_le _, Z, Nat.le_refl _, ?_, by simp, by simp [ce]⟩⟩, E.n, E.row⟩
      have := E.n
      have := E.ok.len
      unfold maxLen
      omega
theorem ClI.done {w wr : World} {v : Value} {l : List GE} {g : Nat} {zs : List Nat} (G : GL w v l) (h : ClI w l g l.length zs wr) (hg : w.heap.size ≤ g) : GL wr (.slice (some ⟨g, 0, none⟩) l.length l.length) (cln l zs) ∧ (cln l zs).map (·.t) = l.map (·.t) ∧ (∀ k, GLm (.slice (some ⟨g, 0, none⟩) l.length l.length) (cln l zs) k → w.heap.size ≤ k) ∧ ∀ k, GLi (cln l zs) k → GLi l k := by
  obtain ⟨cur, h1, h2, h3⟩ := h.has
  have hcl : (cln l zs).length = l.length := by rw [cln_len (by rw [h.n]; omega), h.n]
  have ht := cln_t (l := l) (zs := zs) h.n
  have hc : cur = (gcs (cln l zs)).toArray := by
    apply Array.ext_getElem?
    intro j
    by_cases c : j < l.length * 5
    · rw [h3 j c]; simp
    · rw [Array.getElem?_eq_none (by omega), List.getElem?_toArray, List.getElem?_eq_none (by rw [gcs_len, hcl]; omega)]
  rw [hc] at h2
  have h3l := G.len
  refine ⟨⟨⟨gcs_len _, .inr ⟨g, l.length, _, by rw [hcl], Nat.zero_le _, h2, by omega, ?_, ?_, ?_⟩⟩, h.el, ?_, by omega, cln_sep h.nd⟩, ht, ?_, ?_⟩
  · unfold maxLen; omega
  · simp [gcs_len, hcl]
  · rw [List.toList_toArray, ← gcs_len, List.take_length]
  · have : (cln l zs).map (·.t.nm) = l.map (·.t.nm) := by
      have := congrArg (List.map (·.nm)) ht
      rw [List.map_map, List.map_map] at this
      exact this
    rw [this]
    exact G.nd
  · rintro k (hk | ⟨e, he, hk⟩)
    · simp [Value.ownBlock] at hk
      omega
    · obtain ⟨e', _, z, hz, rfl⟩ := cln_mem he
      unfold GEm ce at hk
      simp [Value.ownBlock] at hk
      have := h.fr z hz
      omega
  · rintro k ⟨e, he, hk⟩
    obtain ⟨e', h', z, hz, rfl⟩ := cln_mem he
    exact ⟨e', h', hk⟩
set_option maxRecDepth 100000 in
set_option maxHeartbeats 8000000 in
theorem jgclone_any {w : World} {v : Value} {l : List GE} (G : GL w v l) : Calls Tryz.prog 18 #[v] w fun x w' => ∃ v' l', x = .returned v' ∧ GL w' v' l' ∧ l'.map (·.t) = l.map (·.t) ∧ (∀ k, GLm v' l' k → w.heap.size ≤ k) ∧ (∀ k, GLi l' k → GLi l k) ∧ Only (fun _ => False) w w' := by
  obtain ⟨a, cap, rfl⟩ := G.shape
  have hl := G.len
  obtain ⟨cur0, hcs, hmk⟩ := run_make_tabs w l.length (by omega)
  have I0 : ClI w l w.heap.size 0 [] (w.alloc (.cells cur0 68)) := ⟨rfl, List.nodup_nil, fun _ h => by simp at h, ⟨cur0, hcs, Has.new w _ _, fun j hj => by omega⟩, fun e he => by simp [cln] at he, (Only.refl _ w).alloc _⟩
  have HG := hide G
  have HI := hide I0
  clear G I0 hcs
  go_enter Tryz.func18, Tryz.ntmps18
  go_upto_region 3 with fail
  have hgw : w.heap.size ≤ w.heap.size := Nat.le_refl _
  generalize hg : w.heap.size = g at *
  generalize w.alloc (.cells cur0 68) = w1 at *
  have HGW := hide (And.intro hg hgw)
  clear hg hgw hmk
  go_loopw [4] (fun iv wr => ∃ (i : Nat) (zs : List Nat), iv = .int .i64 i ∧ i ≤ l.length ∧ ClI w l g i zs wr) (fun iv _ => l.length - (intOf iv).toNat)
  case atStart => exact ⟨0, [], rfl, Nat.zero_le _, unhide HI⟩
  case round =>
    clear HI
    obtain ⟨i, zs, rfl, hi, I⟩ := hrel
    by_cases hi2 : i < l.length
    · have a1 : decide ((i : Int) < (l.length : Int)) = true := decide_eq_true (by omega)
      have a1p : (i : Int) < (l.length : Int) := by omega
      obtain ⟨e, he⟩ := getE hi2
      obtain ⟨b, cap2, hve, P, E⟩ := ((unhide HG).quiet I.on).pt he
      simp only [Value.slice.injEq] at hve
      obtain ⟨rfl, _, rfl⟩ := hve
      obtain ⟨ra, rc, hrv⟩ := E.rshape
      obtain ⟨ca, cc, hcv⟩ := E.col.shape
      have hus := E.n
      have h8 := E.ok.len
      obtain ⟨cur2, hc2, hmk⟩ := run_make_rows wr e.us.length (by omega)
      have o2 : Only (fun _ => False) wr (wr.alloc (.cells cur2 76)) := (Only.refl _ _).alloc _
      have E2 := E.keep o2 (fun _ _ e => e) (fun _ _ e => e)
      have Z2 : Has (wr.alloc (.cells cur2 76)) wr.heap.size cur2 76 := Has.new wr _ _
      obtain ⟨w4, cp, Z4, o4⟩ := run_copy_rows E2 Z2 hc2
      have o24 : Only (fun k => k = wr.heap.size) wr w4 := (o2.mono (fun _ _ e => e.elim)).trans o4 (fun _ _ e => e)
      have I4 := I.far o24 (Nat.le_refl _)
      have E4 := E.keep o24 (fun k hk e' => by have := E.lt k (.inl hk); omega) (fun k hk e' => by have := E.lt k (.inr hk); omega)
      have P2 := P.keep o2 (fun e => e)
      have hb4 : b ≠ wr.heap.size := by have := cell_lt P.c0; simp at this; omega
      have P4 := P.keep o24 (fun e => hb4 e)
      obtain ⟨y0, y1, y2, y3, y4, ⟨d0, d1, d2, d3, d4⟩, fz⟩ := I4.cells hi2
      have f0 := fz (i * 5)
      have f1 := fz (i * 5 + 1)
      have f2 := fz (i * 5 + 2)
      have f3 := fz (i * 5 + 3)
      have f4 := fz (i * 5 + 4)
      have S4 := hide (I4.step he E4 Z4 (by have := I.on.size; omega) (fun hm => by
        have hx : ce e wr.heap.size ∈ [ce e wr.heap.size] := by simp
        obtain ⟨j, hj⟩ := List.getElem?_of_mem hm
        obtain ⟨e2, he2⟩ := getE (l := l) (i := j) (by have := (List.getElem?_eq_some_iff.mp hj).1; rw [I.n] at this; omega)
        have hmm : ce e2 wr.heap.size ∈ cln l zs := List.mem_of_getElem? (i := j) (by unfold cln; rw [List.getElem?_zipWith, he2, hj])
        have := (I.el _ hmm).lt wr.heap.size (.inl rfl)
        omega) (by have := unhide HGW; omega))
      have q4 := P.c4
      have q4' := P2.c4
      have q0 := P4.c0
      have q1 := P4.c1
      have q2 := P4.c2
      have q3 := P4.c3
      rw [hus] at hmk cp
      rw [hrv] at q4 q4' cp
      unfold st5 ce at S4
      simp only at S4
      rw [hus, hcv] at S4
      rw [hcv] at q1
      clear hcv P P2 P4 E E2 E4 Z2 Z4 o2 o4 o24 I4 hus hrv I he fz hc2
      go_wp2_with fail
      go_roundw
      case rel => exact ⟨i + 1, _, by go_num, by omega, unhide S4⟩
      case measure => simp [intOf]; omega
    · obtain rfl : i = l.length := by omega
      have a1 : decide ((l.length : Int) < (l.length : Int)) = false := by simp
      have HD := hide (I.done (unhide HG) (by have := unhide HGW; omega))
      have HO := hide I.on
      clear I
      go_wp2_with fail
      go_ret
      refine ⟨.slice (some ⟨g, 0, none⟩) l.length l.length, ?_, cln l zs, (unhide HD).1, (unhide HD).2.1, (unhide HD).2.2.1, (unhide HD).2.2.2, unhide HO⟩
      rfl
end Go.Proofs.Qxb6500413aGreat
