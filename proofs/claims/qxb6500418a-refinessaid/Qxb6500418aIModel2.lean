/-
  OWN WORK. THE INDEX's MODEL: Set.
-/
import Derived.Test.Qxb6500418aIModel
namespace Go.Proofs.Qxb6500418a
open Go.RowKit Go.PlainAid
set_option linter.unusedSimpArgs false
set_option linter.unusedVariables false

def setErr (L : List Fl) (f : Fl) : Nat :=
  if goodB (ls f.path) = false then 9 else if f.mode < 0 ∨ 3 < f.mode then 10 else if 180 < f.data.size then 4
  else if L.any (fun g => clashB (ls g.path) (ls f.path)) = true then 12 else if findI L f.path = -1 ∧ 8 ≤ L.length then 8 else 0
def setL (L : List Fl) (f : Fl) : List Fl := if setErr L f = 0 then withL L f else L

section
variable {w : World} {m : Nat} {L : List Fl} {H : Nat → Prop}
theorem XAt.idle (h : XAt w m L H) {w' : World} (ho : Only (fun _ => False) w w') : XAt w' m L (Ext H w w') ∧ Only H w w' :=
  ⟨(h.quiet ho).more (fun k hk => .inl hk) h.inn ho.size, ho.mono (fun _ _ h => h.elim)⟩

set_option maxRecDepth 100000 in
set_option maxHeartbeats 4000000 in
theorem xset_any (h : XAt w m L H) (f : Fl) (hlen : L.length ≤ 8) (hgood : ∀ g ∈ L, goodB (ls g.path) = true) :
    Calls Try.prog 21 #[.pointer (some ⟨m, 0, none⟩), .agg #[.string f.path, .string f.data, .int .i64 f.mode]] w fun e w' => e = .returned (.int .i64 (setErr L f : Nat)) ∧ XAt w' m (setL L f) (Ext H w w') ∧ Only H w w' := by
  have hml := h.lt
  have o1 : Only (fun _ => False) w (w.alloc (.cells #[.string f.path, .string f.data, .int .i64 f.mode] 40)) := (Only.refl _ w).alloc _
  have r0 := Has.new w #[.string f.path, .string f.data, .int .i64 f.mode] 40
  have q0 : (w.alloc (.cells #[.string f.path, .string f.data, .int .i64 f.mode] 40)).cell? ⟨w.heap.size, 0, none⟩ = some (.string f.path) := r0.cell 0
  have q1 : (w.alloc (.cells #[.string f.path, .string f.data, .int .i64 f.mode] 40)).cell? ⟨w.heap.size, 1, none⟩ = some (.string f.data) := r0.cell 1
  have q2 : (w.alloc (.cells #[.string f.path, .string f.data, .int .i64 f.mode] 40)).cell? ⟨w.heap.size, 2, none⟩ = some (.int .i64 f.mode) := r0.cell 2
  have hid := h.idle o1
  have C1 := goodPath_any f.path (w.alloc (.cells #[.string f.path, .string f.data, .int .i64 f.mode] 40))
  have HID := hide hid
  clear hid
  unfold setL
  cases hg : goodB (ls f.path) with
  | false =>
    have he : setErr L f = 9 := by unfold setErr; rw [hg, if_pos rfl]
    rw [he, if_neg (by omega)]
    rw [hg] at C1
    have C1 := hide C1
    clear hg he
    go_enter Try.func21, Try.ntmps21
    go_wp2_with fail
    refine (unhide C1).mono ?_
    rintro e w' ⟨rfl, rfl⟩
    go_wp2_with fail
    go_ret
    exact ⟨rfl, unhide HID⟩
  | true =>
    rw [hg] at C1
    have C1 := hide C1
    have hp12 := (goodB_size hg).2
    by_cases hm : f.mode < 0 ∨ 3 < f.mode
    · have he : setErr L f = 10 := by unfold setErr; rw [hg, if_neg (by simp), if_pos hm]
      rw [he, if_neg (by omega)]
      by_cases h0 : f.mode < 0
      · have a1 : decide (f.mode < 0) = true := by simpa using h0
        clear hm h0 hg he
        go_enter Try.func21, Try.ntmps21
        go_wp2_with fail
        refine (unhide C1).mono ?_
        rintro e w' ⟨rfl, rfl⟩
        go_wp2_with fail
        go_ret
        exact ⟨rfl, unhide HID⟩
      · have a1 : decide (f.mode < 0) = false := by simpa using h0
        have a2 : decide (3 < f.mode) = true := by simp; omega
        clear hm h0 hg he
        go_enter Try.func21, Try.ntmps21
        go_wp2_with fail
        refine (unhide C1).mono ?_
        rintro e w' ⟨rfl, rfl⟩
        go_wp2_with fail
        go_ret
        exact ⟨rfl, unhide HID⟩
    · have a1 : decide (f.mode < 0) = false := by simp; omega
      have a2 : decide (3 < f.mode) = false := by simp; omega
      by_cases hs : 180 < f.data.size
      · have he : setErr L f = 4 := by unfold setErr; rw [hg, if_neg (by simp), if_neg hm, if_pos hs]
        rw [he, if_neg (by omega)]
        have a3 : decide ((180 : Int) < (f.data.size : Int)) = true := by simp; omega
        clear hm hg he
        go_enter Try.func21, Try.ntmps21
        go_wp2_with fail
        refine (unhide C1).mono ?_
        rintro e w' ⟨rfl, rfl⟩
        go_wp2_with fail
        go_ret
        exact ⟨rfl, unhide HID⟩
      · have a3 : decide ((180 : Int) < (f.data.size : Int)) = false := by simp; omega
        have he : setErr L f = if L.any (fun g => clashB (ls g.path) (ls f.path)) = true then 12 else if findI L f.path = -1 ∧ 8 ≤ L.length then 8 else 0 := by
          unfold setErr; rw [hg, if_neg (by simp), if_neg hm, if_neg hs]
        have hx : ∃ bx, bx = w.heap.size := ⟨_, rfl⟩
        obtain ⟨bx, hbx⟩ := hx
        have hbx1 : w.heap.size ≤ bx := by omega
        have hmb : m ≠ bx := by omega
        rw [← hbx] at q0 q1 q2 r0
        obtain ⟨v0, k0, hv0, hw0⟩ := h.ex
        have k1 := k0.keep o1 (fun h => h)
        have hv1 := hv0.keep o1 (fun _ _ h => h)
        have hs1 : bx < (w.alloc (.cells #[.string f.path, .string f.data, .int .i64 f.mode] 40)).heap.size := by simp; omega
        have He := hide he
        have Hg := hide hgood
        clear hm hg he hgood
        generalize setErr L f = er at *
        have hLx : ∃ L', (if er = 0 then withL L f else L) = L' := ⟨_, rfl⟩
        obtain ⟨L', hLx⟩ := hLx
        rw [hLx]
        have HLz := hide (show er ≠ 0 → L' = L from fun h => by rw [← hLx, if_neg h])
        have HLo := hide (show er = 0 → L' = withL L f from fun h => by rw [← hLx, if_pos h])
        clear hLx
        go_enter Try.func21, Try.ntmps21
        go_wp2_with fail
        rw [← hbx]
        have Hbx := hide hbx
        clear hbx
        refine (unhide C1).mono ?_
        rintro e w' ⟨rfl, rfl⟩
        go_wp2_with fail
        generalize w.alloc (.cells #[.string f.path, .string f.data, .int .i64 f.mode] 40) = w1 at *
        obtain ⟨va, vc, rfl, hcv⟩ := hv1
        have HC := hide hcv
        have K1 := hide k1
        have R0 := hide r0
        have HN : Hid (∀ wx, Only (fun _ => False) w1 wx → (wx.cell? ⟨m, 0, none⟩ = some (.slice va L.length vc) ∧ wx.frozen? ⟨m, 0, none⟩ = false) ∧ wx.cell? ⟨bx, 0, none⟩ = some (.string f.path) ∧ wx.cell? ⟨bx, 1, none⟩ = some (.string f.data) ∧ wx.cell? ⟨bx, 2, none⟩ = some (.int .i64 f.mode)) :=
          hide (fun wx hx => ⟨⟨(k1.keep hx (fun h => h)).cell 0, (k1.keep hx (fun h => h)).free 0⟩, (r0.keep hx (fun h => h)).cell 0, (r0.keep hx (fun h => h)).cell 1, (r0.keep hx (fun h => h)).cell 2⟩)
        clear hcv k1 r0 q0 q1 q2 C1
        go_loopw [5] (fun iv wr => ∃ i : Nat, i ≤ L.length ∧ iv = .int .i64 i ∧ (∀ j (hj : j < L.length), j < i → clashB (ls L[j].path) (ls f.path) = false) ∧ Only (fun _ => False) w1 wr) (fun iv _ => L.length - (intOf iv).toNat)
        case atStart => exact ⟨0, by omega, rfl, fun j hj h => by omega, Only.refl _ _⟩
        case round =>
          obtain ⟨i, hi, rfl, hb, ho⟩ := hrel
          obtain ⟨⟨n0, n0'⟩, q0, q1, q2⟩ := unhide HN _ ho
          by_cases hil : i < L.length
          · obtain ⟨g, rfl, hcell⟩ := unhide HC (by omega)
            obtain ⟨c0, _, _⟩ := hcell i hil
            have hgl : g < w1.heap.size := World.block_lt_of_cell? w1 _ c0
            have c0 := (World.cell?_of_block (ho.block g hgl (fun h => h))).trans c0
            have f1 : decide ((i : Int) < (L.length : Int)) = true := by simp; omega
            have f2 : (i : Int) < (L.length : Int) := by omega
            have hmem : L[i] ∈ L := List.getElem_mem hil
            have h12 := (goodB_size (unhide Hg L[i] hmem)).2
            have C2 := fun (n : Nat) => (clash_any L[i].path f.path (by omega) (by omega) (wr.drewN n)).mono (R' := fun e w' => e = .returned (.bool (clashB (ls L[i].path) (ls f.path))) ∧ w' = wr.drewN n) (fun e w' h => ⟨h.1, h.2.symm⟩)
            cases hcl : clashB (ls L[i].path) (ls f.path) with
            | true =>
              rw [hcl] at C2
              have C2 := hide C2
              have her : er = 12 := by rw [unhide He, if_pos (List.any_eq_true.2 ⟨L[i], hmem, hcl⟩)]
              have Her := hide her
              clear hcl hb hcell hmem her
              generalize L[i] = li at *
              go_wp2_with fail
              go_quiet (first | (go_at_call 43; refine Calls.quiet_of_same ((unhide C2) _)))
              go_wp2_with fail
              go_ret
              rw [unhide HLz (by rw [unhide Her]; omega), unhide Her]
              exact ⟨rfl, h.idle ((o1.trans ho (fun _ _ h => h)).drewO _)⟩
            | false =>
              rw [hcl] at C2
              have C2 := hide C2
              have hnx : ∀ j (hj : j < L.length), j < i + 1 → clashB (ls L[j].path) (ls f.path) = false := by
                intro j hj hlt
                by_cases e : j = i
                · subst e; exact hcl
                · exact hb j hj (by omega)
              have Hnx := hide hnx
              clear hcl hnx hb hcell hmem
              generalize L[i] = li at *
              go_wp2_with fail
              go_quiet (first | (go_at_call 43; refine Calls.quiet_of_same ((unhide C2) _)))
              go_wp2_with fail
              go_roundw
              case rel => exact ⟨i + 1, by omega, by go_num, unhide Hnx, ho.drewO _⟩
              case measure => simp [intOf]; omega
          · obtain rfl : i = L.length := by omega
            have f1 : decide ((L.length : Int) < (L.length : Int)) = false := by simp
            have hno : L.any (fun g => clashB (ls g.path) (ls f.path)) = false := by
              rw [List.any_eq_false]
              intro q hq
              obtain ⟨j, hj, rfl⟩ := List.getElem_of_mem hq
              rw [hb j hj hj]
              simp
            have he2 : er = if findI L f.path = -1 ∧ 8 ≤ L.length then 8 else 0 := by rw [unhide He, if_neg (by simp [hno])]
            have hFx : ∀ wx, Only (fun _ => False) w1 wx → FilesIn wx (.slice va L.length vc) L := fun wx hx => by
              refine ⟨va, vc, rfl, fun hn => ?_⟩
              obtain ⟨g, rfl, hcell⟩ := unhide HC hn
              refine ⟨g, rfl, fun j hj => ?_⟩
              obtain ⟨c0, c1, c2⟩ := hcell j hj
              have hgl : g < w1.heap.size := World.block_lt_of_cell? w1 _ c0
              have hbk := hx.block g hgl (fun h => h)
              exact ⟨(World.cell?_of_block hbk).trans c0, (World.cell?_of_block hbk).trans c1, (World.cell?_of_block hbk).trans c2⟩
            have C3 := fun (n : Nat) => (find_any (.slice va L.length vc) L f.path (hFx (wr.drewN n) (ho.drewO n)) (by omega)).mono (R' := fun e w' => e = .returned (.int .i64 (findI L f.path)) ∧ w' = wr.drewN n) (fun e w' h => ⟨h.1, h.2.symm⟩)
            have HF := hide hFx
            clear hb hno hFx
            have hrange := findI_range L f.path
            have hor : (findI L f.path < 0 ∧ findI L f.path = -1) ∨ (0 ≤ findI L f.path ∧ findI L f.path ≠ -1) := by
              rcases hrange with e | ⟨i, _, e, _⟩
              · exact .inl ⟨by omega, e⟩
              · exact .inr ⟨by omega, by omega⟩
            generalize findI L f.path = fi at *
            have C3 := hide C3
            clear hrange
            by_cases hmany : fi = -1 ∧ 8 ≤ L.length
            · rw [if_pos hmany] at he2
              have He2 := hide he2
              have g1 : decide (fi < 0) = true := by simp; omega
              have g2 : decide ((8 : Int) ≤ (L.length : Int)) = true := by simp; omega
              clear he2 hmany hor
              go_wp2_with fail
              go_quiet (first | (go_at_call 44; refine Calls.quiet_of_same ((unhide C3) _)))
              go_wp2_with fail
              go_ret
              rw [unhide HLz (by rw [unhide He2]; omega), unhide He2]
              exact ⟨rfl, h.idle ((o1.trans ho (fun _ _ h => h)).drewO _)⟩
            · rw [if_neg hmany] at he2
              have He2 := hide he2
              have C4 := hide (fun (wx : World) (hx : Only (fun _ => False) w1 wx) => with_any (.slice va L.length vc) L f (unhide HF wx hx) (by omega))
              have hfin : ∀ wx v', Only (fun _ => False) w1 wx → OwnF wx v' (withL L f) → (∀ y, v'.ownBlock = some y → w1.heap.size ≤ y) → XAt (wx.setCell ⟨m, 0, none⟩ v') m (withL L f) (Ext H w (wx.setCell ⟨m, 0, none⟩ v')) ∧ Only H w (wx.setCell ⟨m, 0, none⟩ v') := by
                intro wx v' hx hv hb
                have s1 := o1.size
                have hp := h.put (o1.trans hx (fun _ _ h => h)) hv (fun y hy => Nat.le_trans s1 (hb y hy))
                refine ⟨hp.1.more (fun k hk => ?_) h.inn ?_, hp.2⟩
                · rcases hk with hk | hk
                  · exact .inl hk
                  · exact .inr ⟨hk.1, by simpa using hk.2⟩
                · have := hx.size
                  simp
                  omega
              have Hfin := hide hfin
              have hg2 : (decide (fi < 0) = true ∧ decide ((8 : Int) ≤ (L.length : Int)) = false) ∨ decide (fi < 0) = false := by
                rcases hor with ⟨e1, e2⟩ | ⟨e1, e2⟩
                · left
                  refine ⟨by simpa using e1, ?_⟩
                  simp
                  have : ¬ 8 ≤ L.length := fun h => hmany ⟨e2, h⟩
                  omega
                · right
                  simpa using e1
              clear he2 hmany hor hfin
              rcases hg2 with ⟨g1, g2⟩ | g1
              · go_wp2_with fail
                go_quiet (first | (go_at_call 44; refine Calls.quiet_of_same ((unhide C3) _)))
                have hoq := ho.drewO nq
                generalize wr.drewN nq = W1 at *
                obtain ⟨⟨n0, n0'⟩, q0, q1, q2⟩ := unhide HN _ hoq
                go_upto_region 14 with fail
                go_region_with (go_at_call 45; refine ((unhide C4) _ ?_).mono ?_; exact hoq.drew; rintro e w2 ⟨v', rfl, hv, hvb, ho2⟩; have ho3 := (hoq.drew).trans ho2 (fun _ _ h => h); obtain ⟨a', cap', rfl⟩ := ownsRow_shape hv; have HV := hide hv; clear hv; obtain ⟨⟨n1, n1'⟩, _⟩ := unhide HN _ ho3; have hsz := hoq.size)
                all_goals
                  go_wp2_with fail
                  go_ret
                  rw [unhide HLo (unhide He2), unhide He2]
                  exact ⟨rfl, unhide Hfin _ _ ho3 (unhide HV) (fun y hy => by have := hvb y hy; simp at this; omega)⟩
              · go_wp2_with fail
                go_quiet (first | (go_at_call 44; refine Calls.quiet_of_same ((unhide C3) _)))
                have hoq := ho.drewO nq
                generalize wr.drewN nq = W1 at *
                obtain ⟨⟨n0, n0'⟩, q0, q1, q2⟩ := unhide HN _ hoq
                go_upto_region 14 with fail
                go_region_with (go_at_call 45; refine ((unhide C4) _ ?_).mono ?_; exact hoq.drew; rintro e w2 ⟨v', rfl, hv, hvb, ho2⟩; have ho3 := (hoq.drew).trans ho2 (fun _ _ h => h); obtain ⟨a', cap', rfl⟩ := ownsRow_shape hv; have HV := hide hv; clear hv; obtain ⟨⟨n1, n1'⟩, _⟩ := unhide HN _ ho3; have hsz := hoq.size)
                all_goals
                  go_wp2_with fail
                  go_ret
                  rw [unhide HLo (unhide He2), unhide He2]
                  exact ⟨rfl, unhide Hfin _ _ ho3 (unhide HV) (fun y hy => by have := hvb y hy; simp at this; omega)⟩
end
end Go.Proofs.Qxb6500418a
