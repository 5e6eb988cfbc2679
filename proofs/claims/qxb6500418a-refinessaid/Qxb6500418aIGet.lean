/-
  OWN WORK. THE INDEX: Get.
-/
import Derived.Test.Qxb6500418aISetW
namespace Go.Proofs.Qxb6500418a
open Go.RowKit Go.PlainAid
set_option linter.unusedSimpArgs false
set_option linter.unusedVariables false

theorem look_lay {P : Nat → Nd} : ∀ {ps : List Str} {F : Fo} {p c : Nat} {d : Str} {m : Int}, Lay P F p → look ps F = .file c d m → (P c).data = d ∧ (P c).mode = m ∧ c < 49 ∧ 1 ≤ c
  | [], F, p, c, d, m, _, h => by cases h
  | n :: ps, F, p, c, d, m, hl, h => by
    rw [look_hit] at h
    cases hh : F.hit n with
    | none => rw [hh] at h; cases h
    | file c' d' m' =>
      rw [hh] at h
      by_cases e : ps = []
      · simp [e] at h
        obtain ⟨rfl, rfl, rfl⟩ := h
        have := hl.hit_file hh
        have hr := hl.rng _ (hit_file_id hh)
        refine ⟨by rw [this], by rw [this], hr.2, hr.1⟩
      · simp [e] at h
    | dir c' k =>
      rw [hh] at h
      by_cases e : ps = []
      · simp [e] at h
      · simp [e] at h
        exact look_lay (hl.hit_dir hh).1 h
theorem getL_mem {L : List Fl} (hs : L.Pairwise (fun a b => bl (pth a) (pth b) = true)) {f : Fl} (hf : f ∈ L) : getL L f.path = f := by
  have huniq : ∀ g ∈ L, pth g = pth f → g = f := by
    intro g hg e
    by_cases h : g = f
    · exact h
    · exfalso
      have : ∀ {L : List Fl}, L.Pairwise (fun a b => bl (pth a) (pth b) = true) → ∀ a ∈ L, ∀ b ∈ L, pth a = pth b → a = b := by
        intro L
        induction L with
        | nil => intro _ a ha; simp at ha
        | cons x L ih =>
          intro hs a ha b hb e
          rw [List.pairwise_cons] at hs
          simp at ha hb
          rcases ha with rfl | ha
          · rcases hb with rfl | hb
            · rfl
            · have := hs.1 b hb; rw [e, bl_irr] at this; cases this
          · rcases hb with rfl | hb
            · have := hs.1 a ha; rw [e, bl_irr] at this; cases this
            · exact ih hs.2 a ha b hb e
      exact h (this hs g hg f hf e)
  unfold getL
  cases hq : L.findIdx? (fun g => decide (g.path = f.path)) with
  | none =>
    rw [List.findIdx?_eq_none_iff] at hq
    have := hq f hf
    simp at this
  | some i =>
    rw [List.findIdx?_eq_some_iff_getElem] at hq
    obtain ⟨hi, hp, _⟩ := hq
    have hp' : L[i].path = f.path := by simpa using hp
    have : L[i] = f := huniq L[i] (List.getElem_mem hi) (by unfold pth; rw [hp'])
    simp [List.getD, hi, this]
theorem getL_no {L : List Fl} {p : ByteArray} (h : findI L p = -1) : getL L p = zeroFl := by
  unfold findI at h
  unfold getL
  cases hq : L.findIdx? (fun f => decide (f.path = p)) with
  | none => rfl
  | some j => rw [hq] at h; simp at h

section
variable {w : World} {x : Nat} {L : List Fl}
theorem IX.bad (h : IX w x L) {p : ByteArray} (hg : goodB (ls p) = false) : findI L p = -1 := by
  rw [findI_iff]
  intro g hgm e
  have := (h.good g hgm).1
  rw [e, hg] at this
  cases this

set_option maxRecDepth 100000 in
set_option maxHeartbeats 2000000 in
theorem iget_any (h : IX w x L) (p : ByteArray) :
    Calls Try.prog 24 #[.pointer (some ⟨x, 0, none⟩), .string p] w fun e w' => e = .returned (.tuple #[.agg #[.string (getL L p).path, .string (getL L p).data, .int .i64 (getL L p).mode], .int .i64 (if findI L p = -1 then 13 else 0)]) ∧ Only (fun _ => False) w w' := by
  have hxl := h.lt
  have o1 : Only (fun _ => False) w (w.alloc (.cells #[.string ⟨#[]⟩, .string ⟨#[]⟩, .int .i64 0] 40)) := (Only.refl _ w).alloc _
  have r0 := Has.new w #[.string ⟨#[]⟩, .string ⟨#[]⟩, .int .i64 0] 40
  have q0 := r0.cell 0
  have q1 := r0.cell 1
  have q2 := r0.cell 2
  have z0 := r0.free 0
  have z1 := r0.free 1
  have z2 := r0.free 2
  have C1 := goodPath_any p (w.alloc (.cells #[.string ⟨#[]⟩, .string ⟨#[]⟩, .int .i64 0] 40))
  cases hg : goodB (ls p) with
  | false =>
    have hf := h.bad hg
    rw [if_pos hf, getL_no hf]
    rw [hg] at C1
    have C1 := hide C1
    clear hg hf h
    go_enter Try.func24, Try.ntmps24
    go_wp2_with fail
    refine (unhide C1).mono ?_
    rintro e w1 ⟨rfl, rfl⟩
    go_wp2_with fail
    refine bodyPost_ret (v := .tuple #[.agg #[.string ⟨#[]⟩, .string ⟨#[]⟩, .int .i64 0], .int .i64 13]) (by simp [results, Try.results24, go_sem, q0, q1, q2]) rfl ?_
    exact ⟨rfl, (Only.refl _ w).alloc _⟩
  | true =>
    rw [hg] at C1
    have C1 := hide C1
    have hp12 := (goodB_size hg).2
    obtain ⟨ps, hne, hn, hp⟩ := good_parts hg
    have hlaw := h.lawful
    obtain ⟨⟨P, fr, F, fl, hA, hv, hw, hfu, hsh, hL⟩, hcnt, hgd⟩ := h
    obtain ⟨k1, k2, k3, k4⟩ := look_list hw hfu hL hp hne hn
    have hA1 := hA.keep o1 (fun h => h)
    have C2 := probe_any hA1 hv.tr p ps hp hne hn (by omega)
    have hbx : ∃ bx, bx = w.heap.size := ⟨_, rfl⟩
    obtain ⟨bx, hbx⟩ := hbx
    have hbx1 : w.heap.size ≤ bx := by omega
    have hbxx : bx ≠ x := by omega
    have hxb : x ≠ bx := by omega
    rw [← hbx] at r0
    clear q0 q1 q2 z0 z1 z2
    have hnot : (∀ c d m, look ps F ≠ .file c d m) → findI L p = -1 := by
      intro hno
      cases hl : look ps F with
      | clash c => exact k4 ⟨c, hl⟩
      | new => exact (k2.1 hl).2
      | file c d m => exact absurd hl (hno c d m)
    have R0 := hide r0
    clear r0
    cases hl : look ps F with
    | clash c =>
      have hf := hnot (fun c d m e => by rw [hl] at e; cases e)
      rw [if_pos hf, getL_no hf]
      rw [hl] at C2
      have C2 : Calls Try.prog 41 #[.pointer (some ⟨x, 0, none⟩), .string p] (w.alloc (.cells #[.string ⟨#[]⟩, .string ⟨#[]⟩, .int .i64 0] 40)) fun e w' => e = .returned (.tuple #[.int .i64 (c : Int), .bool true]) ∧ Only (fun _ => False) (w.alloc (.cells #[.string ⟨#[]⟩, .string ⟨#[]⟩, .int .i64 0] 40)) w' := C2
      have C2 := hide C2
      clear hg hf hl k1 k2 k3 k4 hA hA1 hv hw hfu hsh hL hgd hp hn hne hnot hlaw
      go_enter Try.func24, Try.ntmps24
      go_wp2_with fail
      rw [← hbx]
      clear hbx
      refine (unhide C1).mono ?_
      rintro e w1 ⟨rfl, rfl⟩
      go_wp2_with fail
      refine (unhide C2).mono ?_
      rintro e w2 ⟨rfl, ho2⟩
      have r2 := (unhide R0).keep ho2 (fun h => h)
      have q0 := r2.cell 0
      have q1 := r2.cell 1
      have q2 := r2.cell 2
      have z0 := r2.free 0
      have z1 := r2.free 1
      have z2 := r2.free 2
      have r3 := ((r2.setCell 0 (.string ⟨#[]⟩)).setCell 1 (.string ⟨#[]⟩)).setCell 2 (.int .i64 0)
      have p0 := r3.cell 0
      have p1 := r3.cell 1
      have p2 := r3.cell 2
      simp at p0 p1 p2
      have o3 := o1.trans ho2 (fun _ _ h => h)
      by_cases hc0 : c = 0
      · have e0 : ((c : Int) == 0) = true := by rw [hc0]; rfl
        clear hc0
        go_wp2_with fail
        refine bodyPost_ret (v := .tuple #[.agg #[.string ⟨#[]⟩, .string ⟨#[]⟩, .int .i64 0], .int .i64 13]) (by simp [results, Try.results24, go_sem, p0, p1, p2]) rfl ?_
        exact ⟨rfl, ((o3.setCell (p := ⟨bx, 0, none⟩) (fun h => by simp at h; omega) _).setCell (p := ⟨bx, 1, none⟩) (fun h => by simp at h; omega) _).setCell (p := ⟨bx, 2, none⟩) (fun h => by simp at h; omega) _⟩
      · have e0 : ((c : Int) == 0) = false := by simp; omega
        clear hc0
        go_wp2_with fail
        refine bodyPost_ret (v := .tuple #[.agg #[.string ⟨#[]⟩, .string ⟨#[]⟩, .int .i64 0], .int .i64 13]) (by simp [results, Try.results24, go_sem, p0, p1, p2]) rfl ?_
        exact ⟨rfl, ((o3.setCell (p := ⟨bx, 0, none⟩) (fun h => by simp at h; omega) _).setCell (p := ⟨bx, 1, none⟩) (fun h => by simp at h; omega) _).setCell (p := ⟨bx, 2, none⟩) (fun h => by simp at h; omega) _⟩
    | new =>
      have hf := hnot (fun c d m e => by rw [hl] at e; cases e)
      rw [if_pos hf, getL_no hf]
      rw [hl] at C2
      have C2 : Calls Try.prog 41 #[.pointer (some ⟨x, 0, none⟩), .string p] (w.alloc (.cells #[.string ⟨#[]⟩, .string ⟨#[]⟩, .int .i64 0] 40)) fun e w' => e = .returned (.tuple #[.int .i64 0, .bool false]) ∧ Only (fun _ => False) (w.alloc (.cells #[.string ⟨#[]⟩, .string ⟨#[]⟩, .int .i64 0] 40)) w' := C2
      have C2 := hide C2
      clear hg hf hl k1 k2 k3 k4 hA hA1 hv hw hfu hsh hL hgd hp hn hne hnot hlaw
      go_enter Try.func24, Try.ntmps24
      go_wp2_with fail
      rw [← hbx]
      clear hbx
      refine (unhide C1).mono ?_
      rintro e w1 ⟨rfl, rfl⟩
      go_wp2_with fail
      refine (unhide C2).mono ?_
      rintro e w2 ⟨rfl, ho2⟩
      have r2 := (unhide R0).keep ho2 (fun h => h)
      have q0 := r2.cell 0
      have q1 := r2.cell 1
      have q2 := r2.cell 2
      have z0 := r2.free 0
      have z1 := r2.free 1
      have z2 := r2.free 2
      have r3 := ((r2.setCell 0 (.string ⟨#[]⟩)).setCell 1 (.string ⟨#[]⟩)).setCell 2 (.int .i64 0)
      have p0 := r3.cell 0
      have p1 := r3.cell 1
      have p2 := r3.cell 2
      simp at p0 p1 p2
      have o3 := o1.trans ho2 (fun _ _ h => h)
      go_wp2_with fail
      refine bodyPost_ret (v := .tuple #[.agg #[.string ⟨#[]⟩, .string ⟨#[]⟩, .int .i64 0], .int .i64 13]) (by simp [results, Try.results24, go_sem, p0, p1, p2]) rfl ?_
      exact ⟨rfl, ((o3.setCell (p := ⟨bx, 0, none⟩) (fun h => by simp at h; omega) _).setCell (p := ⟨bx, 1, none⟩) (fun h => by simp at h; omega) _).setCell (p := ⟨bx, 2, none⟩) (fun h => by simp at h; omega) _⟩
    | file c d m =>
      have hmem := k3 c d m hl
      obtain ⟨y1, y2, y3, y4⟩ := look_lay hv.tr.lay hl
      have hfp : (mkFl (joinP ps) d m).path = p := ls_inj (by rw [hp]; exact pth_mk _ _ _)
      have hgl : getL L p = mkFl (joinP ps) d m := by rw [← hfp]; exact getL_mem hlaw.srt hmem
      have hf : findI L p ≠ -1 := fun e => findI_iff.1 e _ hmem (by rw [pth_mk, hp])
      rw [if_neg hf, hgl, hfp]
      rw [hl] at C2
      have C2 : Calls Try.prog 41 #[.pointer (some ⟨x, 0, none⟩), .string p] (w.alloc (.cells #[.string ⟨#[]⟩, .string ⟨#[]⟩, .int .i64 0] 40)) fun e w' => e = .returned (.tuple #[.int .i64 (c : Int), .bool false]) ∧ Only (fun _ => False) (w.alloc (.cells #[.string ⟨#[]⟩, .string ⟨#[]⟩, .int .i64 0] 40)) w' := C2
      have C2 := hide C2
      have HA1 := hide hA1
      have e0 : ((c : Int) == 0) = false := by simp; omega
      have c49 : (c : Int) < 49 := by omega
      clear hg hf hl k1 k2 k3 k4 hA hA1 hv hw hfu hsh hL hgd hp hn hne hnot hlaw hgl hfp hmem
      go_enter Try.func24, Try.ntmps24
      go_wp2_with fail
      rw [← hbx]
      clear hbx
      refine (unhide C1).mono ?_
      rintro e w1 ⟨rfl, rfl⟩
      go_wp2_with fail
      refine (unhide C2).mono ?_
      rintro e w2 ⟨rfl, ho2⟩
      have r2 := (unhide R0).keep ho2 (fun h => h)
      have a2 := (unhide HA1).keep ho2 (fun h => h)
      have hx2 := a2.lt
      have t4 := a2.da c y3
      have t5 := a2.mo c y3
      rw [y1] at t4
      rw [y2] at t5
      have q0 := r2.cell 0
      have q1 := r2.cell 1
      have q2 := r2.cell 2
      have z0 := r2.free 0
      have z1 := r2.free 1
      have z2 := r2.free 2
      have hb2 := r2.lt
      have r3 := (((r2.setCell 0 (.string p)).setCell 1 (.string (st d))).setCell 2 (.int .i64 m)).drew
      have p0 := r3.cell 0
      have p1 := r3.cell 1
      have p2 := r3.cell 2
      simp at p0 p1 p2
      have o3 := o1.trans ho2 (fun _ _ h => h)
      clear C1 C2 R0 HA1 a2 y1 y2
      go_upto_region 7 with fail
      go_region
      go_wp2_with fail
      refine bodyPost_ret (v := .tuple #[.agg #[.string p, .string (st d), .int .i64 m], .int .i64 0]) (by simp [results, Try.results24, go_sem, p0, p1, p2]) rfl ?_
      exact ⟨rfl, (((o3.setCell (p := ⟨bx, 0, none⟩) (fun h => by simp at h; omega) _).setCell (p := ⟨bx, 1, none⟩) (fun h => by simp at h; omega) _).setCell (p := ⟨bx, 2, none⟩) (fun h => by simp at h; omega) _).drew⟩
end
end Go.Proofs.Qxb6500418a
