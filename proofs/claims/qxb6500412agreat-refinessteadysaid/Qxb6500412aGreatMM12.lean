/-
  OWN WORK. THE TABLE LAW's MODEL: DropTable.
-/
import Derived.Test.Qxb6500412aGreatMM11
namespace Go.Proofs.Qxb6500412aGreat
open Go.RowKit Go.PlainAid
set_option linter.unusedSimpArgs false
set_option linter.unusedVariables false

theorem cutp_sub {α : Type} (l : List α) (p : Nat) : (l.take p ++ l.drop (p + 1)).Sublist l := by
  rw [← List.eraseIdx_eq_take_drop_succ]
  exact List.eraseIdx_sublist l p
/-- Some of the tables, in their order. -/
theorem ML.sub {w wF : World} {l l' : List GE} {v v' : Value} (h : ML w v l) (hs : l'.Sublist l) (own : wF.ownsRow 0 249 5 v' l'.length (gcs l')) {B : Nat → Prop} (oo : Only B w wF) (hB : ∀ k, B k → ∀ e ∈ l, ¬ GEm e k ∧ ¬ GEi e k) : ML wF v' l' :=
  ⟨own, fun e he => (h.el e (hs.subset he)).keep oo (fun k hk hb => (hB k hb e (hs.subset he)).1 hk) (fun k hk hb => (hB k hb e (hs.subset he)).2 hk), (hs.map _).nodup h.nd, Nat.le_trans hs.length_le h.len, h.sep.sublist hs⟩
theorem st5_own {w : World} {l Y : List GE} {b cap n j : Nat} {e : GE} (R : w.ownsRow 0 249 5 (.slice (some ⟨b, 0, none⟩) n cap) n (gcs Y)) : (st5 w b j e).ownsRow 0 249 5 (.slice (some ⟨b, 0, none⟩) n cap) n (gcs (Y.set j e)) := by
  rw [gcs_set]
  exact gbrowset (gbrowset (gbrowset (gbrowset (gbrowset (i := j * 5) R (.string e.t.nm)) (i := j * 5 + 1) e.cv) (i := j * 5 + 2) (.int .i64 (e.t.pk : Int))) (i := j * 5 + 3) (.int .i64 (ixI e.t.ix))) (i := j * 5 + 4) e.rv
section
variable {ty : TypeId} {w w' : World} {dk o : Nat} {cs : Array Value} {v : Value} {l : List GE} {D : Db}
set_option maxRecDepth 100000 in
set_option maxHeartbeats 4000000 in
theorem mdbDrop_any (M : MDc ty w dk o cs v l D) (nm : ByteArray) : Calls Tryz.prog 272 #[.pointer (some ⟨dk, o, none⟩), .string nm] w (MdP ty w dk o cs v l (drpD D nm).1 (drpD D nm).2) := by
  obtain ⟨D', zz, hDz⟩ : ∃ D' zz, drpD D nm = (D', zz) := ⟨_, _, rfl⟩
  rw [hDz]
  have HDZ := hide hDz
  have CF := hide (mfind_any M.db.c0 M.db.ml nm)
  have HM := hide M
  have c0 := M.db.c0
  clear M hDz
  go_enter Tryz.func272, Tryz.ntmps272
  go_wp2_with fail
  refine (unhide CF).mono ?_
  rintro x w2 ⟨r, rfl, hr, rfl⟩
  clear CF
  by_cases r0 : r < 0
  · have dr : decide (r < 0) = true := decide_eq_true r0
    have HP := hide (show MdP ty w dk o cs v l D' zz (.returned (.int .i64 10)) w from by
      have h := unhide HDZ
      unfold drpD at h
      rw [hr.mno (unhide HM).tt (unhide HM).ok r0] at h
      cases h
      exact MdP.same (unhide HM) (Only.refl _ _))
    clear hr r0
    go_wp2_with fail
    go_ret
    exact unhide HP
  have dr : decide (r < 0) = false := decide_eq_false r0
  obtain ⟨i, e, rfl, hi, hn, hf, hm⟩ := hr.myes (unhide HM).tt (unhide HM).ok (by omega)
  have HC := hide (show (D.filter (fun t => decide (t.nm ≠ nm)), (0 : Int)) = (D', zz) from by
    have h := unhide HDZ
    unfold drpD at h
    rw [hf] at h
    exact h)
  have hfl : D.filter (fun t => decide (t.nm ≠ nm)) = D.take i ++ D.drop (i + 1) := by
    classical
    rw [← hn]
    exact drop_at (f := fun t : Tb => t.nm) (unhide HM).ok.srt (by rw [← (unhide HM).tt, List.getElem?_map, hi]; rfl)
  obtain ⟨b, cap, hvx, _, _⟩ := (unhide HM).ml.pt hi
  have il := (List.getElem?_eq_some_iff.mp hi).1
  have h3 := (unhide HM).ml.len
  rw [hvx] at c0
  have G := (unhide HM).ml
  rw [hvx] at G
  have hbd : b ≠ dk := (unhide HM).dkne b (.inl (.inl (by rw [hvx]; rfl)))
  have fd := fun k => (unhide HM).has.free k
  have HG := hide (And.intro G (And.intro hfl hvx))
  obtain ⟨n, hN⟩ : ∃ n, l.length = n := ⟨_, rfl⟩
  have HN := hide hN
  rw [hN] at il h3 c0 G
  have hcap : n ≤ cap := by
    rcases G.own.2 with ⟨h, _⟩ | ⟨g', c', cur, h, _, _, hh, _⟩
    · simp at h
    · simp at h
      omega
  have R0 : w.ownsRow 0 249 5 (.slice (some ⟨b, 0, none⟩) n cap) n (gcs l) := by have := G.own; rw [hN] at this; exact this
  have HR0 := hide R0
  clear hi hn hf hm hr r0 hvx G hfl hN R0
  go_upto_region 5 with fail
  go_loopw [6] (fun jv wr => ∃ (j : Nat) (Y : List GE), jv = .int .i64 j ∧ i ≤ j ∧ j < n ∧ Shf l i j Y ∧ wr.ownsRow 0 249 5 (.slice (some ⟨b, 0, none⟩) n cap) n (gcs Y) ∧ Only (fun k => k = b) w wr) (fun jv _ => n - (intOf jv).toNat)
  case atStart => exact ⟨i, l, rfl, Nat.le_refl _, il, Shf.start _ _, unhide HR0, Only.refl _ _⟩
  case round =>
    obtain ⟨j, Y, rfl, hij, hjn, hS, R, oW⟩ := hrel
    have cW := cell_keep c0 oW (fun e => hbd e.symm)
    have hNl := unhide HN
    by_cases hj : j + 1 < n
    · have dj : decide ((j : Int) + 1 < (n : Int)) = true := decide_eq_true (by omega)
      have djn : decide (j + 1 < n) = true := decide_eq_true hj
      obtain ⟨x, hx⟩ := getE (l := l) (i := j + 1) (by omega)
      have hY1 : Y[j + 1]? = some x := by rw [hS.2 (j + 1) (by omega), if_neg (by omega)]; exact hx
      obtain ⟨y, hy⟩ := getE (l := Y) (i := j) (by rw [hS.1]; omega)
      have hc := World.ownsRow.cells R (g := b) rfl
      obtain ⟨a0, a1, a2, a3, a4⟩ := gcs_at Y (j + 1) hY1
      obtain ⟨b0, b1, b2, b3, b4⟩ := gcs_at Y j hy
      have d0 := hc _ _ a0
      have d1 := hc _ _ a1
      have d2 := hc _ _ a2
      have d3 := hc _ _ a3
      have d4 := hc _ _ a4
      have k0 := hc _ _ b0
      have k1 := hc _ _ b1
      have k2 := hc _ _ b2
      have k3 := hc _ _ b3
      have k4 := hc _ _ b4
      rw [addr_add] at d0 d1 d2 d3 d4 k0 k1 k2 k3 k4
      have f0 := gownFree R (j * 5)
      have f1 := gownFree R (j * 5 + 1)
      have f2 := gownFree R (j * 5 + 2)
      have f3 := gownFree R (j * 5 + 3)
      have f4 := gownFree R (j * 5 + 4)
      have X := (unhide HG).1.el x (List.mem_of_getElem? hx)
      obtain ⟨ca, cc, hcv⟩ := X.col.shape
      obtain ⟨ra, rc, hrv⟩ := X.rshape
      have S5 : (st5 wr b j x).drew.ownsRow 0 249 5 (.slice (some ⟨b, 0, none⟩) n cap) n (gcs (Y.set j x)) := st5_own (l := l) R
      have HR := hide (And.intro (hS.step hij (by omega) hx) (And.intro S5 (oW.trans (st5_only wr b j x).drew (fun _ _ h => h))))
      unfold st5 at HR
      rw [hcv, hrv] at HR
      rw [hcv] at d1
      rw [hrv] at d4
      have hjI : (j : Int) < (n : Int) := by omega
      have hj1 : (j : Int) + 1 < (n : Int) := by omega
      have HJ := hide hj
      clear R oW hx hY1 hy hc hS S5 X hcv hrv hj a0 a1 a2 a3 a4 b0 b1 b2 b3 b4 hNl
      go_upto_region 7 with fail
      go_region
      go_wp2_with fail
      go_roundw
      case rel => exact ⟨j + 1, Y.set j x, by go_num, by omega, unhide HJ, (unhide HR).1, (unhide HR).2.1, (unhide HR).2.2⟩
      case measure => have := unhide HJ; simp [intOf]; omega
    · have dj : decide ((j : Int) + 1 < (n : Int)) = false := decide_eq_false (by omega)
      have djn : decide (j + 1 < n) = false := decide_eq_false hj
      have hW := (unhide HM).has.keep oW (fun e => hbd e.symm)
      have fW := hW.free o
      have HD := hide (show MdP ty w dk o cs v l D' zz (.returned (.int .i64 0)) (wr.drew.setCell ⟨dk, o, none⟩ (.slice (some ⟨b, 0, none⟩) (n - 1) cap)) from by
        have h := unhide HC
        rw [(unhide HG).2.1] at h
        cases h
        have oD : Only (fun k => k = b) w wr.drew := oW.drew
        have od : Only (fun k => k = dk) wr.drew (wr.drew.setCell ⟨dk, o, none⟩ (.slice (some ⟨b, 0, none⟩) (n - 1) cap)) := only1 _ _
        have R9 : wr.drew.ownsRow 0 249 5 (.slice (some ⟨b, 0, none⟩) n cap) n (gcs Y) := R
        have RC := gcutrow R9 (show n - 1 ≤ n by omega)
        have hd := hS.done (by omega) (by omega)
        rw [hNl] at hd
        rw [← gcs_take, hd] at RC
        have hl' : (l.take i ++ l.drop (i + 1)).length = n - 1 := by rw [cutp_len (by omega), hNl]
        have RF := ownsRow_keep RC od (fun k hk e' => by simp [Value.ownBlock] at hk; exact hbd (by omega))
        have oo : Only (fun k => k = b ∨ k = dk) w (wr.drew.setCell ⟨dk, o, none⟩ (.slice (some ⟨b, 0, none⟩) (n - 1) cap)) := (oD.mono (fun k _ e' => Or.inl e')).trans od (fun k _ e' => .inr e')
        have bne : ∀ k, (k = b ∨ k = dk) → ∀ e ∈ l, ¬ GEm e k ∧ ¬ GEi e k := fun k hk e he => by
          obtain ⟨q, hq⟩ := List.getElem?_of_mem he
          rcases hk with hk | hk
          · exact ⟨fun h => (unhide HG).1.bne hq k (.inl h) hk, fun h => (unhide HG).1.bne hq k (.inr h) hk⟩
          · exact ⟨fun h => (unhide HM).dkne k (.inl (.inr ⟨e, he, h⟩)) hk, fun h => (unhide HM).dkne k (.inr ⟨e, he, h⟩) hk⟩
        have G' := (unhide HM).ml.sub (cutp_sub l i) (by rw [hl']; exact RF) oo bne
        refine ⟨_, _, rfl, ⟨(unhide HM).sto, ((unhide HM).has.keep oD (fun e => hbd e.symm)).setCell o _, ?_, G', ?_, ?_⟩, fun k hk => ?_, fun k hk => ?_, oo.mono (fun k _ hk => ?_)⟩
        · rw [Array.getElem?_setIfInBounds, if_pos rfl, if_pos (Array.getElem?_eq_some_iff.mp (unhide HM).at_).1]
        · rw [List.map_append, List.map_take, List.map_drop, (unhide HM).tt]
        · rw [← (unhide HG).2.1]
          exact (unhide HM).ok.drop nm
        · rcases hk with hk | ⟨x, hx, hk⟩
          · exact .inl (.inl (by rw [(unhide HG).2.2]; exact hk))
          · exact .inl (.inr ⟨x, (cutp_sub l i).subset hx, hk⟩)
        · obtain ⟨x, hx, hk⟩ := hk
          exact .inl ⟨x, (cutp_sub l i).subset hx, hk⟩
        · rcases hk with hk | hk
          · exact .inr (.inl (by rw [(unhide HG).2.2, hk]; rfl))
          · exact .inl hk)
      have hcI : ((n : Int) - 1) ≤ (cap : Int) := by omega
      have hn0 : (0 : Int) ≤ (n : Int) - 1 := by omega
      have hn1 : (n : Int) - 1 < (n : Int) := by omega
      clear R oW hS hj c0 hW hNl
      go_upto_region 8 with fail
      go_region
      go_wp2_with fail
      go_ret
      exact unhide HD
end
end Go.Proofs.Qxb6500412aGreat
