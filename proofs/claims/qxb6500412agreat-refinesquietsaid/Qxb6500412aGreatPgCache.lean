/-
  OWN WORK. THE PAGER's CACHE OVER THE LOG: room, read, write.
-/
import Derived.Test.Qxb6500412aGreatPgInv
import Derived.Deep.RegionWith
import Derived.Deep.DeepCutAuto
namespace Go.Proofs.Qxb6500412aGreat
open Go.RowKit
set_option linter.unusedSimpArgs false
set_option linter.unusedVariables false

section
variable {w : World} {p l d : Nat} {op : Bool} {fr : List Frame} {ord : List Nat} {blk base : List ByteArray} {recs : List (Nat × ByteArray)} {com cur view : List ByteArray} {F G : Nat → Prop}

/-- What was put down into the log stood in the view. -/
def Ev (cur view cur' : List ByteArray) : Prop := ∀ n, cur'.getD n emptyB = cur.getD n emptyB ∨ cur'.getD n emptyB = view.getD n emptyB
theorem Ev.refl (cur view : List ByteArray) : Ev cur view cur := fun _ => .inl rfl
theorem Ev.trans {cur cur' cur'' view : List ByteArray} (h : Ev cur view cur') (k : Ev cur' view cur'') : Ev cur view cur'' := fun n => by
  rcases k n with e | e
  · rw [e]; exact h n
  · exact .inr e

theorem PAt.cells4 (h : PAt w p l op fr ord) (f : Nat) (hf : f < 5) :
    w.cell? ⟨p, 2 + f * 4, Option.none⟩ = some (.int .i64 ((fa fr f).page : Int)) ∧ w.cell? ⟨p, 2 + f * 4 + 1, Option.none⟩ = some (.bool (fa fr f).valid) ∧ w.cell? ⟨p, 2 + f * 4 + 2, Option.none⟩ = some (.bool (fa fr f).dirty) ∧ w.cell? ⟨p, 2 + f * 4 + 3, Option.none⟩ = some (.string (fa fr f).data) ∧
    w.frozen? ⟨p, 2 + f * 4, Option.none⟩ = false ∧ w.frozen? ⟨p, 2 + f * 4 + 1, Option.none⟩ = false ∧ w.frozen? ⟨p, 2 + f * 4 + 2, Option.none⟩ = false ∧ w.frozen? ⟨p, 2 + f * 4 + 3, Option.none⟩ = false := by
  obtain ⟨h1, lf, lo⟩ := h
  rw [fa_get (by omega)]
  refine ⟨?_, ?_, ?_, ?_, h1.free _, h1.free _, h1.free _, h1.free _⟩
  · rw [h1.cell, pcells_fr0 f lf hf]
  · rw [h1.cell, pcells_fr f 1 lf hf (by omega)]; rfl
  · rw [h1.cell, pcells_fr f 2 lf hf (by omega)]; rfl
  · rw [h1.cell, pcells_fr f 3 lf hf (by omega)]; rfl
theorem PAt.head (h : PAt w p l op fr ord) : w.cell? ⟨p, 0, Option.none⟩ = some (.pointer (some ⟨l, 0, Option.none⟩)) ∧ w.cell? ⟨p, 1, Option.none⟩ = some (.bool op) ∧ w.frozen? ⟨p, 1, Option.none⟩ = false := by
  refine ⟨?_, ?_, h.has.free _⟩
  · rw [h.has.cell]; rfl
  · rw [h.has.cell]; rfl
theorem PAt.lastc (h : PAt w p l op fr ord) : w.cell? ⟨p, 26, Option.none⟩ = some (.int .i64 ((ord[4]'(by have := h.lo; omega) : Nat) : Int)) := by
  rw [h.has.cell, show (26 : Nat) = 22 + 4 from rfl, pcells_ord 4 h.lf h.lo (by omega)]

set_option maxRecDepth 100000 in
set_option maxHeartbeats 2000000 in
theorem proom_any (h : PAt w p l op fr ord) (hl : LG w l d blk base recs op com cur F G) (hi : PInv fr ord op cur view) (pF : ¬ F p) (pG : ¬ G p) :
    Calls Tryz.prog 204 #[.pointer (some ⟨p, 0, Option.none⟩)] w fun e w' => ∃ (f : Nat) (cur' : List ByteArray), f < 5 ∧ e = .returned (.tuple #[.int .i64 (f : Int), .int .i64 0]) ∧ PAt w' p l op (fr.set f Frame.none) ord ∧
      LG w' l d blk base recs op com cur' F G ∧ PInv (fr.set f Frame.none) ord op cur' view ∧ Ev cur view cur' ∧ Only (fun k => G k ∨ k = p) w w' := by
  have hlast := h.lastc
  have hf : (ord[4]'(by have := h.lo; omega)) < 5 := hi.last
  generalize hfe : ord[4]'(by have := h.lo; omega) = f at *
  obtain ⟨q0, q1, q2, q3, z0, z1, z2, z3⟩ := h.cells4 f hf
  obtain ⟨g0, _, _⟩ := h.head
  have hst := h.storeFr f Frame.none hf
  have ew : ∀ w : World, ((((w.setCell ⟨p, 2 + f * 4, Option.none⟩ (.int .i64 0)).setCell ⟨p, 2 + f * 4 + 1, Option.none⟩ (.bool false)).setCell ⟨p, 2 + f * 4 + 2, Option.none⟩ (.bool false)).setCell ⟨p, 2 + f * 4 + 3, Option.none⟩ (.string ⟨#[]⟩)) = storeFr w p f Frame.none := fun w => rfl
  by_cases hd : ((fa fr f).valid && (fa fr f).dirty) = true
  · have hi2 := hi.evict hfe.symm (.inl ⟨hd, rfl⟩)
    simp only [Bool.and_eq_true] at hd
    obtain ⟨hv, hdt⟩ := hd
    obtain ⟨hpg, hsz, hvd⟩ := hi.page f hv
    have hev : Ev cur view (cur.set (fa fr f).page (fa fr f).data) := by
      intro n
      rw [getD_set cur _ n _ _ (by rw [hi.lc]; omega)]
      by_cases e : n = (fa fr f).page
      · rw [if_pos e]; right; rw [e, hvd]
      · rw [if_neg e]; left; rfl
    have Hev := hide hev
    clear hev hvd
    obtain rfl : op = true := hi.dop f hv hdt
    have od : Only (fun _ => False) w w.drew := (Only.refl _ w).drew
    have C1 := hide (lwrite_any (hl.quiet od) (fa fr f).page (fa fr f).data hpg hsz)
    rw [hv] at q1
    rw [hdt] at q2
    generalize (fa fr f).page = pg at *
    generalize (fa fr f).data = dat at *
    have Hi2 := hide hi2
    clear hi2 hi hv hdt
    go_enter Tryz.func204, Tryz.ntmps204
    go_wp2_with fail
    go_cut [45] (fun v wx => v = .bool false ∧ LG wx l d blk base recs true com (cur.set pg dat) F G ∧ Only G w wx)
    case first =>
      go_region_with (go_at_call 148; refine (unhide C1).mono ?_; rintro e w2 ⟨rfl, hl2, ho2⟩)
      all_goals
        go_wp2_with fail
        go_meet
        exact ⟨rfl, hl2, (Only.refl G w).drew.trans ho2 (fun _ _ h => h)⟩
    case rest =>
      obtain ⟨rfl, hl2, ho2⟩ := hcut
      have h2 := h.keep ho2 pG
      obtain ⟨r0, r1, r2, r3, y0, y1, y2, y3⟩ := h2.cells4 f hf
      have h3 := h2.storeFr f Frame.none hf
      have o3 := onlyFr wc p f Frame.none
      clear q0 q1 q2 q3 z0 z1 z2 z3
      have ew' := ew wc
      clear ew
      go_wp2_with fail
      go_ret2
      exact ⟨f, _, hf, rfl, h3, hl2.keep o3 (fun k hk e => pF (e ▸ hk)) (fun k hk e => pG (e ▸ hk)), unhide Hi2, unhide Hev, (ho2.mono (fun _ _ h => .inl h)).trans o3 (fun _ _ h => .inr h)⟩
  · have hd' : ((fa fr f).valid && (fa fr f).dirty) = false := by simpa using hd
    have hi2 := hi.evict hfe.symm (.inr ⟨hd', rfl⟩)
    have o3 := onlyFr w p f Frame.none
    have ew' := ew w
    clear ew
    generalize (fa fr f).page = pg at *
    generalize (fa fr f).data = dat at *
    generalize (fa fr f).valid = vl at *
    generalize (fa fr f).dirty = dt at *
    have Hi2 := hide hi2
    clear hi2 hi hd
    cases vl with
    | false =>
      clear hd'
      go_enter Tryz.func204, Tryz.ntmps204
      go_wp2_with fail
      go_ret2
      exact ⟨f, _, hf, rfl, hst, hl.keep o3 (fun k hk e => pF (e ▸ hk)) (fun k hk e => pG (e ▸ hk)), unhide Hi2, Ev.refl _ _, o3.mono (fun _ _ h => .inr h)⟩
    | true =>
      obtain rfl : dt = false := by simpa using hd'
      clear hd'
      go_enter Tryz.func204, Tryz.ntmps204
      go_wp2_with fail
      go_ret2
      exact ⟨f, _, hf, rfl, hst, hl.keep o3 (fun k hk e => pF (e ▸ hk)) (fun k hk e => pG (e ▸ hk)), unhide Hi2, Ev.refl _ _, o3.mono (fun _ _ h => .inr h)⟩
end
end Go.Proofs.Qxb6500412aGreat
