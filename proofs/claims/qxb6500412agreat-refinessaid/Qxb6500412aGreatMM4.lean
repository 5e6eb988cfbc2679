/-
  OWN WORK. THE TABLE LAW's MODEL: Clone of a database.
-/
import Derived.Test.Qxb6500412aGreatMM3
namespace Go.Proofs.Qxb6500412aGreat
open Go.RowKit Go.PlainAid
set_option linter.unusedSimpArgs false
set_option linter.unusedVariables false

theorem Tryz.infoYTab : (Tryz.prog.info? 249).map (fun i => (i.zero, i.size, i.bytes)) = some (some (.agg #[.string ⟨#[]⟩, .slice none 0 0, .int .i64 0, .int .i64 0, .slice none 0 0]), 5, 80) := by kernel_rfl
theorem run_make_ytabs (w : World) (n : Nat) (hn : n ≤ 1000) : ∃ cur : Array Value, cur.size = n * 5 ∧ (Instr.makeSlice 105 (.int .i64 n) (.int .i64 n)).run Tryz.prog w = .ok (.slice (some ⟨w.heap.size, 0, none⟩) n n) (w.alloc (.cells cur 249)) := by
  obtain ⟨i, hi, hz, hs, hb⟩ := info_parts Tryz.infoYTab
  have := run_make (P := Tryz.prog) w 105 249 i _ Tryz.underlying105 hi hz .i64 .i64 (n : Int) (n : Int) (by omega) (by omega) (by rw [hb]; omega) (by omega)
  refine ⟨_, ?_, this⟩
  simp [madeCells, Value.cells, hs]
/-- The first tables are cloned into block g. -/
structure CdI (w : World) (l : List GE) (g : Nat) (ls : List GE) (wr : World) : Prop where
  n : ls.length ≤ l.length
  has : ∃ cur : Array Value, cur.size = l.length * 5 ∧ Has wr g cur 249 ∧ ∀ j, j < ls.length * 5 → cur[j]? = (gcs ls)[j]?
  el : ∀ e ∈ ls, GEl wr e
  tt : ls.map (·.t) = (l.take ls.length).map (·.t)
  fr : ∀ e ∈ ls, ∀ k, GEm e k ∨ GEi e k → w.heap.size ≤ k
  sep : ls.Pairwise (fun a b => ∀ k, GEm a k → ¬ GEm b k)
  on : Only (fun _ => False) w wr
  gl : w.heap.size ≤ g
section
variable {w wr w' : World} {l ls : List GE} {g : Nat}
theorem CdI.quiet (h : CdI w l g ls wr) (ho : Only (fun _ => False) wr w') : CdI w l g ls w' := by
  obtain ⟨cur, h1, h2, h3⟩ := h.has
  exact ⟨h.n, ⟨cur, h1, h2.keep ho (fun e => e), h3⟩, fun e he => (h.el e he).keep ho (fun _ _ e => e) (fun _ _ e => e), h.tt, h.fr, h.sep, h.on.trans ho (fun _ _ e => e), h.gl⟩
theorem CdI.cells (h : CdI w l g ls wr) (hi : ls.length < l.length) : ∃ a b c d e, (wr.cell? ⟨g, ls.length * 5, none⟩ = some a ∧ wr.cell? ⟨g, ls.length * 5 + 1, none⟩ = some b ∧ wr.cell? ⟨g, ls.length * 5 + 2, none⟩ = some c ∧ wr.cell? ⟨g, ls.length * 5 + 3, none⟩ = some d ∧ wr.cell? ⟨g, ls.length * 5 + 4, none⟩ = some e) ∧ ∀ j, wr.frozen? ⟨g, j, none⟩ = false := by
  obtain ⟨cur, h1, h2, h3⟩ := h.has
  refine ⟨cur[ls.length * 5], cur[ls.length * 5 + 1], cur[ls.length * 5 + 2], cur[ls.length * 5 + 3], cur[ls.length * 5 + 4], ⟨?_, ?_, ?_, ?_, ?_⟩, fun j => h2.free _⟩
  all_goals
    rw [h2.cell]; exact Array.getElem?_eq_getElem (by omega)
theorem CdI.step {w0 : World} (h : CdI w l g ls wr) {e e' : GE} (he : l[ls.length]? = some e) (E : GEl wr e') (ht : e'.t = e.t) (hf : ∀ k, GEm e' k ∨ GEi e' k → w0.heap.size ≤ k) (hw0 : w.heap.size ≤ w0.heap.size) (hold : ∀ x ∈ ls, ∀ k, GEm x k → k < w0.heap.size) : CdI w l g (ls ++ [e']) (st5 wr g ls.length e') := by
  obtain ⟨cur, h1, h2, h3⟩ := h.has
  have hi := (List.getElem?_eq_some_iff.mp he).1
  have oo := st5_only wr g ls.length e'
  have ha : (ls ++ [e'])[ls.length]? = some e' := by simp
  obtain ⟨a1, a2, a3, a4, a5⟩ := gcs_at _ ls.length ha
  have kp : ∀ x, GEl wr x → GEl (st5 wr g ls.length e') x := fun x X => X.keep oo (fun k hk e' => by
      obtain ⟨c, hc⟩ := ownsRow_has X.rs hk
      subst e'
      exact absurd (h2.inj hc).2 (by decide)) (fun k hk e' => by
      subst e'
      exact X.imm hk h2 (by decide) (by decide))
  refine ⟨by simp; omega, ⟨_, by simp [h1], ((((h2.setCell _ _).setCell _ _).setCell _ _).setCell _ _).setCell _ _, fun j hj => ?_⟩, fun x hx => ?_, ?_, fun x hx k hk => ?_, ?_, h.on.fresh oo h.gl, h.gl⟩
  · rw [List.length_append, List.length_singleton] at hj
    simp only [Array.getElem?_setIfInBounds, Array.size_setIfInBounds]
    by_cases c4 : ls.length * 5 + 4 = j
    · rw [if_pos c4, if_pos (by omega), ← c4, a5]
    · rw [if_neg c4]
      by_cases c3 : ls.length * 5 + 3 = j
      · rw [if_pos c3, if_pos (by omega), ← c3, a4]
      · rw [if_neg c3]
        by_cases c2 : ls.length * 5 + 2 = j
        · rw [if_pos c2, if_pos (by omega), ← c2, a3]
        · rw [if_neg c2]
          by_cases c1 : ls.length * 5 + 1 = j
          · rw [if_pos c1, if_pos (by omega), ← c1, a2]
          · rw [if_neg c1]
            by_cases c0 : ls.length * 5 = j
            · rw [if_pos c0, if_pos (by omega), ← c0, a1]
            · rw [if_neg c0, h3 j (by omega), gcs_app, List.getElem?_append_left (by rw [gcs_len]; omega)]
  · rcases List.mem_append.mp hx with hx | hx
    · exact kp x (h.el x hx)
    · obtain rfl : x = e' := by simpa using hx
      exact kp x E
  · rw [List.map_append, h.tt, List.length_append, List.length_singleton, List.take_add_one, he, List.map_append]
    simp [ht]
  · rcases List.mem_append.mp hx with hx | hx
    · exact h.fr x hx k hk
    · obtain rfl : x = e' := by simpa using hx
      have := hf k hk
      omega
  · rw [List.pairwise_append]
    refine ⟨h.sep, List.pairwise_singleton _ _, fun a hma b hb k h1 h2 => ?_⟩
    obtain rfl : b = e' := by simpa using hb
    have := hold a hma k h1
    have := hf k (.inl h2)
    omega
theorem CdI.done {v : Value} (G : ML w v l) (h : CdI w l g ls wr) (hn : ls.length = l.length) : ML wr (.slice (some ⟨g, 0, none⟩) ls.length ls.length) ls ∧ ls.map (·.t) = l.map (·.t) ∧ ∀ k, MLm (.slice (some ⟨g, 0, none⟩) ls.length ls.length) ls k ∨ MLi ls k → w.heap.size ≤ k := by
  obtain ⟨cur, h1, h2, h3⟩ := h.has
  have ht := h.tt
  rw [hn, List.take_length] at ht
  have hc : cur = (gcs ls).toArray := by
    apply Array.ext_getElem?
    intro j
    by_cases c : j < ls.length * 5
    · rw [h3 j c]; simp
    · rw [Array.getElem?_eq_none (by omega), List.getElem?_toArray, List.getElem?_eq_none (by rw [gcs_len]; omega)]
  rw [hc] at h2
  have h3l := G.len
  refine ⟨⟨own_made h2 (gcs_len _) (by omega), h.el, ?_, by omega, h.sep⟩, ht, ?_⟩
  · have : ls.map (·.t.nm) = l.map (·.t.nm) := by
      have := congrArg (List.map (·.nm)) ht
      rw [List.map_map, List.map_map] at this
      exact this
    rw [this]
    exact G.nd
  · rintro k ((hk | ⟨e, he, hk⟩) | ⟨e, he, hk⟩)
    · simp [Value.ownBlock] at hk
      have := h.gl
      omega
    · exact h.fr e he k (.inl hk)
    · exact h.fr e he k (.inr hk)
end
/-- What Clone leaves. -/
def DcP (w : World) (l : List GE) (x : Ending) (w' : World) : Prop := ∃ (g n : Nat) (l' : List GE), x = .returned (.agg #[.slice (some ⟨g, 0, none⟩) n n]) ∧ ML w' (.slice (some ⟨g, 0, none⟩) n n) l' ∧ l'.map (·.t) = l.map (·.t) ∧ (∀ k, MLm (.slice (some ⟨g, 0, none⟩) n n) l' k ∨ MLi l' k → w.heap.size ≤ k) ∧ Only (fun _ => False) w w'
section
variable {w : World} {v : Value} {l : List GE}
set_option maxRecDepth 100000 in
set_option maxHeartbeats 4000000 in
theorem mdbClone_any {dk o : Nat} (c0 : w.cell? ⟨dk, o, none⟩ = some v) (G : ML w v l) : Calls Tryz.prog 120 #[.pointer (some ⟨dk, o, none⟩)] w (DcP w l) := by
  obtain ⟨a, cap, hv⟩ := G.shape
  subst hv
  have hl := G.len
  have o1 : Only (fun _ => False) w (w.alloc (.cells #[.slice none 0 0] 107)) := (Only.refl _ w).alloc _
  have B1 : Has (w.alloc (.cells #[.slice none 0 0] 107)) w.heap.size #[.slice none 0 0] 107 := Has.new w _ _
  have HX := hide (And.intro o1 (And.intro B1 (And.intro (G.quiet o1) (And.intro (cell_keep c0 o1 (fun e => e)) G))))
  obtain ⟨n, hn⟩ : ∃ n, l.length = n := ⟨_, rfl⟩
  have HN := hide hn
  rw [hn] at hl HX c0
  clear G o1 B1 hn c0
  go_enter Tryz.func120, Tryz.ntmps120
  go_upto_region 1 with fail
  generalize w.alloc (.cells #[.slice none 0 0] 107) = w1 at *
  generalize hkb : w.heap.size = kb at *
  have HKB := hide hkb
  clear hkb
  obtain ⟨cur0, hcs, hmk⟩ := run_make_ytabs w1 n (by omega)
  have d0 := (unhide HX).2.2.2.1
  have I0 : CdI w1 l w1.heap.size [] (w1.alloc (.cells cur0 249)) := ⟨Nat.zero_le _, ⟨cur0, by rw [unhide HN]; exact hcs, Has.new w1 _ _, fun j hj => by simp at hj⟩, fun e he => by simp at he, by simp, fun e he => by simp at he, List.Pairwise.nil, (Only.refl _ w1).alloc _, Nat.le_refl _⟩
  have HI := hide I0
  clear I0 hcs
  go_upto_region 3 with fail
  generalize w1.alloc (.cells cur0 249) = w2 at *
  generalize hg : w1.heap.size = g at *
  have HG := hide hg
  clear hg hmk d0
  go_loopw [4] (fun iv wr => ∃ ls : List GE, iv = .int .i64 ls.length ∧ CdI w1 l g ls wr) (fun iv _ => n - (intOf iv).toNat)
  case atStart => exact ⟨[], rfl, unhide HI⟩
  case round =>
    clear HI
    obtain ⟨ls, rfl, I⟩ := hrel
    have hin := I.n
    rw [unhide HN] at hin
    have d0 := cell_keep (unhide HX).2.2.2.1 I.on (fun e => e)
    by_cases hi2 : ls.length < n
    · have a1 : decide ((ls.length : Int) < (n : Int)) = true := decide_eq_true (by omega)
      have a1p : (ls.length : Int) < (n : Int) := by omega
      obtain ⟨e, he⟩ := getE (l := l) (i := ls.length) (by rw [unhide HN]; exact hi2)
      obtain ⟨b, cp, hvx, P, E⟩ := ((unhide HX).2.2.1.quiet I.on).pt he
      rw [unhide HN] at hvx
      simp only [Value.slice.injEq] at hvx
      obtain ⟨rfl, _, rfl⟩ := hvx
      have CC := mcloneTable_any E
      obtain ⟨ca, cc, hcv⟩ := E.col.shape
      obtain ⟨ra, rc, hrv⟩ := E.rshape
      have p0 := P.c0
      have p1 := P.c1
      have p2 := P.c2
      have p3 := P.c3
      have p4 := P.c4
      unfold tbA at CC
      rw [hcv, hrv] at CC
      rw [hcv] at p1
      rw [hrv] at p4
      have CC := hide CC
      have HII := hide (And.intro I he)
      clear I E P he hcv hrv
      obtain ⟨i, hie⟩ : ∃ i, ls.length = i := ⟨_, rfl⟩
      have HIE := hide hie
      rw [hie] at a1 a1p hin hi2 p0 p1 p2 p3 p4 ⊢
      clear hie
      go_wp2_with fail
      refine (unhide CC).mono ?_
      rintro x w3 ⟨e', rfl, E', ht, hf, o3⟩
      have I3 := (unhide HII).1.quiet o3
      obtain ⟨y0, y1, y2, y3, y4, ⟨k0, k1, k2, k3, k4⟩, fz⟩ := I3.cells (by rw [unhide HIE, unhide HN]; exact hi2)
      have S3 := I3.step (w0 := wr) (unhide HII).2 E' ht hf (unhide HII).1.on.size (fun x hx k hk => (((unhide HII).1.el x hx).lt k (.inl hk)))
      rw [unhide HIE] at S3 k0 k1 k2 k3 k4
      have f0 := fz (i * 5)
      have f1 := fz (i * 5 + 1)
      have f2 := fz (i * 5 + 2)
      have f3 := fz (i * 5 + 3)
      have f4 := fz (i * 5 + 4)
      obtain ⟨ca', cc', hcv'⟩ := E'.col.shape
      obtain ⟨ra', rc', hrv'⟩ := E'.rshape
      unfold st5 at S3
      unfold tbA
      rw [hcv', hrv'] at S3 ⊢
      have HS := hide S3
      clear CC E' ht hf o3 I3 S3 p0 p1 p2 p3 p4 HII fz hcv' hrv' d0
      go_wp2_with fail
      go_roundw
      case rel => exact ⟨ls ++ [e'], by rw [List.length_append, List.length_singleton, unhide HIE]; go_num, unhide HS⟩
      case measure => simp [intOf]; omega
    · have hlen : ls.length = n := by omega
      have a1 : decide ((ls.length : Int) < (n : Int)) = false := decide_eq_false (by omega)
      obtain ⟨D1, D2, D3⟩ := I.done (unhide HX).2.2.1 (by rw [unhide HN]; exact hlen)
      rw [hlen] at D1 D3
      have B4 := (unhide HX).2.1.keep I.on (fun e => e)
      have e0 := B4.cell 0
      have f0 := B4.free 0
      simp at e0
      have og : Only (fun k => k = kb) wr (wr.setCell ⟨kb, 0, none⟩ (.slice (some ⟨g, 0, none⟩) n n)) := only1 _ _
      have q0 := (B4.setCell 0 (.slice (some ⟨g, 0, none⟩) n n)).cell 0
      simp at q0
      have zz := (unhide HX).1.size
      have kl := (unhide HX).2.1.lt
      have HP := hide (show DcP w l (.returned (.agg #[.slice (some ⟨g, 0, none⟩) n n])) (wr.setCell ⟨kb, 0, none⟩ (.slice (some ⟨g, 0, none⟩) n n)) from ⟨g, n, ls, rfl, D1.keep og (fun k hk e => by have := D3 k (.inl hk); omega) (fun k hk e => by have := D3 k (.inr hk); omega), D2, fun k hk => by have := D3 k hk; omega, ((unhide HX).1.trans I.on (fun _ _ e => e)).fresh og (by have := unhide HKB; omega)⟩)
      have HQ := hide q0
      clear I D1 D2 D3 B4 og q0 zz kl
      go_wp2_with fail
      have q0 := unhide HQ
      refine bodyPost_ret (v := .agg #[.slice (some ⟨g, 0, none⟩) n n]) (by simp [results, Tryz.results120, go_sem, q0]) rfl (unhide HP)
end
end Go.Proofs.Qxb6500412aGreat
