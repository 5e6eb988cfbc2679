/-
  OWN WORK. THE GRAPH's MODEL: Mark, Lax, Room, Pay, Abort, Clone, Crashed, New (written by tools/gen_hmd3.py).
-/
import Derived.Test.Qxb6500417aGreatHMd2
namespace Go.Proofs.Qxb6500417aGreat
open Go.RowKit Go.PlainAid
set_option linter.unusedSimpArgs false
set_option linter.unusedVariables false

section
variable {w w' : World} {nv rv av : Value} {A S : GA} {O P H : Nat → Prop} {m : Nat} {lx hz : Bool} {r sr : Int}

set_option maxRecDepth 100000 in
set_option maxHeartbeats 4000000 in
theorem hmark_any (h : MG w m lx A r S sr hz H) (hs : ASm S) :
    Calls Tryz.prog 20 #[.pointer (some ⟨m, 0, none⟩)] w fun e w' => e = .returned (.tuple #[]) ∧ MG w' m lx A r S sr true H ∧ Only (fun y => y = m) w w' := by
  obtain ⟨na, nc, ra, rc, aa, ac, c8, c9, c10, c11, c12, c13, c14, c15, _, hV⟩ := h.sav
  have C1 := hcopy_any (r := sr) hV hs
  unfold stV at C1
  have C1 := hide C1
  have H0 := hide h
  clear h hV hs
  go_enter Tryz.func20, Tryz.ntmps20
  go_wp2_with fail
  refine (unhide C1).mono ?_
  rintro e w1 ⟨na', nc', ra', rc', aa', ac', rfl, hV1, hO1⟩
  have h1 := (unhide H0).quiet hO1
  obtain ⟨b, hv, f17, f18, f19, f20, f21, f22, f23, f24, f25, _⟩ := h1.bas
  have z17 := h1.free 17
  have z18 := h1.free 18
  have z19 := h1.free 19
  have z20 := h1.free 20
  have z21 := h1.free 21
  have z22 := h1.free 22
  have z23 := h1.free 23
  have z24 := h1.free 24
  have z25 := h1.free 25
  have hml := h1.lt
  have hP := (h1.putBase (nv := .slice na' S.nodes.length nc') (rv := .slice ra' S.refs.length rc') (av := .slice aa' S.aux.length ac') (S' := S) (sr' := sr)).mark
  have hO2 := (hO1.mono (T := fun y => y = m) (fun _ _ h => h.elim)).trans (put8_only w1 m 17 (.slice na' S.nodes.length nc') (.slice ra' S.refs.length rc') (.slice aa' S.aux.length ac') S sr) (fun _ _ h => h)
  have HP := hide hP.1
  have HO := hide (hO2.trans hP.2 (fun _ _ h => h))
  unfold put8 at HP HO
  clear C1 hV1 hO1 h1 hP hO2 H0
  go_wp2_with fail
  go_end0
  exact ⟨rfl, unhide HP, unhide HO⟩
set_option maxRecDepth 100000 in
theorem hlax_any (h : MG w m lx A r S sr hz H) :
    Calls Tryz.prog 12 #[.pointer (some ⟨m, 0, none⟩)] w fun e w' => e = .returned (.tuple #[]) ∧ MG w' m true A r S sr hz H ∧ Only (fun y => y = m) w w' := by
  obtain ⟨na, nc, ra, rc, aa, ac, _, _, _, _, _, _, _, _, c16, hV⟩ := h.sav
  have z16 := h.free 16
  have H0 := hide h.lax
  have hml := h.lt
  clear h hV
  go_enter Tryz.func12, Tryz.ntmps12
  go_wp2_with fail
  go_end0
  exact ⟨rfl, unhide H0⟩
theorem hroom_any (h : MG w m lx A r S sr hz H) :
    Calls Tryz.prog 21 #[.pointer (some ⟨m, 0, none⟩)] w fun e w' => e = .returned (.int .i64 r) ∧ w = w' := by
  obtain ⟨na, nc, ra, rc, aa, ac, _, _, _, _, _, _, _, c7, _, _⟩ := h.cur
  clear h
  go_enter Tryz.func21, Tryz.ntmps21
  go_wp2_with fail
  go_ret
  exact ⟨rfl, rfl⟩
theorem hnext_any (h : MG w m lx A r S sr hz H) :
    Calls Tryz.prog 76 #[.pointer (some ⟨m, 0, none⟩)] w fun e w' => e = .returned (.int .i64 (A.nx : Nat)) ∧ w = w' := by
  obtain ⟨na, nc, ra, rc, aa, ac, _, c1, _, _, _, _, _, _, _, _⟩ := h.cur
  clear h
  go_enter Tryz.func76, Tryz.ntmps76
  go_wp2_with fail
  go_ret
  exact ⟨rfl, rfl⟩
set_option maxRecDepth 100000 in
theorem hPay_any (h : MG w m lx A r S sr hz H) (x : Int) (h1 : -4611686018427387904 < r - x) (h2 : r - x < 4611686018427387904) :
    Calls Tryz.prog 25 #[.pointer (some ⟨m, 0, none⟩), .int .i64 x] w fun e w' => e = .returned (.tuple #[]) ∧ MG w' m lx A (r - x) S sr hz H ∧ Only (fun y => y = m) w w' := by
  obtain ⟨na, nc, ra, rc, aa, ac, _, _, _, _, _, _, _, c7, _, _⟩ := h.cur
  have z7 := h.free 7
  have H0 := hide (h.room (r - x))
  have hml := h.lt
  clear h
  go_enter Tryz.func25, Tryz.ntmps25
  go_wp2_with fail
  go_end0
  exact ⟨rfl, unhide H0⟩
set_option maxRecDepth 100000 in
theorem hpay_any (h : MG w m true A r S sr hz H) (x : Int) (h1 : -4611686018427387904 < r - x) (h2 : r - x < 4611686018427387904) :
    Calls Tryz.prog 144 #[.pointer (some ⟨m, 0, none⟩), .int .i64 x] w fun e w' => e = .returned (.bool true) ∧ MG w' m true A (r - x) S sr hz H ∧ Only (fun y => y = m) w w' := by
  obtain ⟨na, nc, ra, rc, aa, ac, _, _, _, _, _, _, _, c7, c16, _⟩ := h.cur
  have z7 := h.free 7
  have H0 := hide (h.room (r - x))
  have hml := h.lt
  clear h
  go_enter Tryz.func144, Tryz.ntmps144
  go_wp2_with fail
  go_ret
  exact ⟨rfl, unhide H0⟩
set_option maxRecDepth 100000 in
set_option maxHeartbeats 4000000 in
theorem habort_any (h : MG w m lx A r S sr hz H) (hs : ASm S) :
    Calls Tryz.prog 54 #[.pointer (some ⟨m, 0, none⟩)] w fun e w' => e = .returned (.tuple #[]) ∧ MG w' m lx S sr S sr hz (Ext H w w') ∧ Only (fun y => y = m) w w' := by
  obtain ⟨na, nc, ra, rc, aa, ac, c8, c9, c10, c11, c12, c13, c14, c15, _, hV⟩ := h.sav
  have C1 := hcopy_any (r := sr) hV hs
  unfold stV at C1
  have C1 := hide C1
  have H0 := hide h
  clear h hV hs
  go_enter Tryz.func54, Tryz.ntmps54
  go_wp2_with fail
  refine (unhide C1).mono ?_
  rintro e w1 ⟨na', nc', ra', rc', aa', ac', rfl, hV1, hO1⟩
  have h1 := (unhide H0).quiet hO1
  obtain ⟨_, _, _, _, _, _, e0, e1, e2, e3, e4, e5, e6, e7, _, _⟩ := h1.cur
  have z0 := h1.free 0
  have z1 := h1.free 1
  have z2 := h1.free 2
  have z3 := h1.free 3
  have z4 := h1.free 4
  have z5 := h1.free 5
  have z6 := h1.free 6
  have z7 := h1.free 7
  have hml := h1.lt
  have hP := (unhide H0).putCur (r' := sr) hO1 hV1
  have hO2 := put8_only w1 m 0 (.slice na' S.nodes.length nc') (.slice ra' S.refs.length rc') (.slice aa' S.aux.length ac') S sr
  have HX := hide (fun (W : World) (hw : Only (fun y => y = m) w1 W) (hm : MG W m lx S sr S sr hz (Ext H w w1)) => (show MG W m lx S sr S sr hz (Ext H w W) ∧ Only (fun y => y = m) w W from by
    have hs := hw.size
    have hs1 := hO1.size
    exact ⟨hm.mono (fun k hk => hk.imp id (fun e => ⟨e.1, by omega⟩)) (Ext.in (unhide H0).inn (by omega)), (hO1.mono (T := fun y => y = m) (fun _ _ h => h.elim)).trans hw (fun _ _ h => h)⟩))
  have HR := hide (unhide HX _ hO2 hP)
  unfold put8 at HR
  clear C1 hV1 hO1 h1 hP hO2 H0 HX
  go_wp2_with fail
  go_end0
  exact ⟨rfl, unhide HR⟩
def GA.nil : GA := ⟨[], 0, [], ⟨#[]⟩, 0, 0, []⟩
def gmZ (lx : Bool) : Array Value := #[.slice none 0 0, .int .i64 0, .slice none 0 0, .string ⟨#[]⟩, .int .i64 0, .int .i64 0, .slice none 0 0, .int .i64 0, .slice none 0 0, .int .i64 0, .slice none 0 0, .string ⟨#[]⟩, .int .i64 0, .int .i64 0, .slice none 0 0, .int .i64 0, .bool lx, .slice none 0 0, .int .i64 0, .slice none 0 0, .string ⟨#[]⟩, .int .i64 0, .int .i64 0, .slice none 0 0, .int .i64 0, .slice none 0 0]
theorem StV.none {A : GA} (hn : A.nodes = []) (hr : A.refs = []) (ha : A.aux = []) : StV w (.slice none 0 0) (.slice none 0 0) (.slice none 0 0) A O :=
  ⟨⟨[], by rw [hn]; rfl, NL.nil _ _⟩, by rw [hr]; exact OwnRf.nil w, by simp [Value.ownBlock], by rw [ha]; exact OwnF.nil w, by simp [Value.ownBlock]⟩
theorem MG.zero (w : World) (lx : Bool) : MG (w.alloc (.cells (gmZ lx) 63)) w.heap.size lx GA.nil 0 GA.nil 0 true (fun y => y = w.heap.size) := by
  refine ⟨⟨_, _, _, _, _, _, ⟨_, _, _, _, _, _, _, _⟩, _, fun _ => False, fun _ => False, Has.new w (gmZ lx) 63, StV.none rfl rfl rfl, StV.none rfl rfl rfl, fun _ => rfl, ⟨none, 0, 0, rfl⟩, fun _ h => h.elim, fun _ h => h.elim⟩, rfl, fun k hk => ?_⟩
  rw [hk]; simp
/-- What a new model is. -/
structure NwM (w w' : World) (c : Nat) (lx : Bool) (A : GA) (r : Int) (S : GA) (sr : Int) : Prop where
  mg : MG w' c lx A r S sr true (fun y => w.heap.size ≤ y ∧ y < w'.heap.size)
  ho : Only (fun _ => False) w w'

set_option maxRecDepth 100000 in
set_option maxHeartbeats 8000000 in
theorem hclone_any (h : MG w m lx A r S sr hz H) (hA : ASm A) (hS : ASm S) :
    Calls Tryz.prog 13 #[.pointer (some ⟨m, 0, none⟩)] w fun e w' => ∃ c, e = .returned (.pointer (some ⟨c, 0, none⟩)) ∧ NwM w w' c lx A r S sr := by
  obtain ⟨_, _, _, _, _, _, _, _, _, _, _, _, _, _, c16, _⟩ := h.cur
  have hZ := MG.zero w lx
  have oZ := (Only.refl (fun _ => False) w).alloc (.cells (gmZ lx) 63)
  have hm1 := h.quiet oZ
  have hml := hm1.lt
  have hmw := h.lt
  obtain ⟨na, nc, ra, rc, aa, ac, c0, c1, c2, c3, c4, c5, c6, c7, _, hV⟩ := hm1.cur
  have C1 := hcopy_any (r := r) hV hA
  unfold stV at C1
  have C1 := hide C1
  have H0 := hide h
  have HZ := hide hZ
  have OZ := hide oZ
  have hHm := hide h.inn
  have hsz : (w.alloc (.cells (gmZ lx) 63)).heap.size = w.heap.size + 1 := by simp
  clear h hV hZ oZ hm1
  unfold gmZ at *
  go_enter Tryz.func13, Tryz.ntmps13
  go_upto_region 2 with fail
  generalize w.alloc (.cells #[.slice none 0 0, .int .i64 0, .slice none 0 0, .string ⟨#[]⟩, .int .i64 0, .int .i64 0, .slice none 0 0, .int .i64 0, .slice none 0 0, .int .i64 0, .slice none 0 0, .string ⟨#[]⟩, .int .i64 0, .int .i64 0, .slice none 0 0, .int .i64 0, .bool lx, .slice none 0 0, .int .i64 0, .slice none 0 0, .string ⟨#[]⟩, .int .i64 0, .int .i64 0, .slice none 0 0, .int .i64 0, .slice none 0 0] 63) = w1 at *
  generalize hc : w.heap.size = c at *
  go_wp2_with fail
  refine (unhide C1).mono ?_
  rintro e w2 ⟨na', nc', ra', rc', aa', ac', rfl, hV2, hO2⟩
  have h2 := (unhide HZ).quiet hO2
  have hcl := h2.lt
  obtain ⟨_, _, _, _, _, _, e0, e1, e2, e3, e4, e5, e6, e7, _, _⟩ := h2.cur
  have z0 := h2.free 0
  have z1 := h2.free 1
  have z2 := h2.free 2
  have z3 := h2.free 3
  have z4 := h2.free 4
  have z5 := h2.free 5
  have z6 := h2.free 6
  have z7 := h2.free 7
  have hP := (unhide HZ).putCur (r' := r) hO2 hV2
  have hO3 := put8_only w2 c 0 (.slice na' A.nodes.length nc') (.slice ra' A.refs.length rc') (.slice aa' A.aux.length ac') A r
  have hO23 := (hO2.mono (T := fun y => y = c) (fun _ _ h => h.elim)).trans hO3 (fun _ _ h => h)
  have hO03 : Only (fun _ => False) w (put8 w2 c 0 (.slice na' A.nodes.length nc') (.slice ra' A.refs.length rc') (.slice aa' A.aux.length ac') A r) := (unhide OZ).trans hO23 (fun y hy e => by omega)
  have hm3 := (unhide H0).quiet hO03
  have HP := hide hP
  have OP := hide hO03
  have h12 := hO2.size
  have h23 := hO3.size
  clear C1 hV2 hO2 h2 hP hO3 hO23 HZ c0 c1 c2 c3 c4 c5 c6 c7
  go_upto_region 3 with fail
  generalize hW3 : put8 w2 c 0 (.slice na' A.nodes.length nc') (.slice ra' A.refs.length rc') (.slice aa' A.aux.length ac') A r = w3 at *
  have hW3' := hW3
  unfold put8 at hW3'
  rw [hW3']
  obtain ⟨na, nc, ra, rc, aa, ac, c0, c1, c2, c3, c4, c5, c6, c7, _, hV⟩ := hm3.sav
  have C2 := hcopy_any (r := sr) hV hS
  unfold stV at C2
  have C2 := hide C2
  have hml3 := hm3.lt
  clear hV hm3 e0 e1 e2 e3 e4 e5 e6 e7 z0 z1 z2 z3 z4 z5 z6 z7 hW3 hW3'
  go_wp2_with fail
  refine (unhide C2).mono ?_
  rintro e w4 ⟨ma', mc', sa', sc', ba', bc', rfl, hV4, hO4⟩
  have h4 := (unhide HP).quiet hO4
  have hcl4 := h4.lt
  obtain ⟨_, _, _, _, _, _, e0, e1, e2, e3, e4, e5, e6, e7, _, _⟩ := h4.sav
  have z8 := h4.free 8
  have z9 := h4.free 9
  have z10 := h4.free 10
  have z11 := h4.free 11
  have z12 := h4.free 12
  have z13 := h4.free 13
  have z14 := h4.free 14
  have z15 := h4.free 15
  have hP4 := (unhide HP).putSav (sr' := sr) hO4 hV4
  have hO5 := put8_only w4 c 8 (.slice ma' S.nodes.length mc') (.slice sa' S.refs.length sc') (.slice ba' S.aux.length bc') S sr
  have hO45 := (hO4.mono (T := fun y => y = c) (fun _ _ h => h.elim)).trans hO5 (fun _ _ h => h)
  have hO05 : Only (fun _ => False) w (put8 w4 c 8 (.slice ma' S.nodes.length mc') (.slice sa' S.refs.length sc') (.slice ba' S.aux.length bc') S sr) := (unhide OP).trans hO45 (fun y hy e => by omega)
  have HP4 := hide hP4
  have OP4 := hide hO05
  have h34 := hO4.size
  have h45 := hO5.size
  clear C2 hV4 hO4 h4 hP4 hO5 hO45 hO05 OP c0 c1 c2 c3 c4 c5 c6 c7 HP
  go_upto_region 4 with fail
  generalize hW5 : put8 w4 c 8 (.slice ma' S.nodes.length mc') (.slice sa' S.refs.length sc') (.slice ba' S.aux.length bc') S sr = w5 at *
  have hW5' := hW5
  unfold put8 at hW5'
  rw [hW5']
  have C3 := hide (hmark_any (unhide HP4) hS)
  clear e0 e1 e2 e3 e4 e5 e6 e7 z8 z9 z10 z11 z12 z13 z14 z15 hW5 hW5'
  go_wp2_with fail
  refine (unhide C3).mono ?_
  rintro e w6 ⟨rfl, h6, hO6⟩
  have h56 := hO6.size
  have hfin : NwM w w6 c lx A r S sr := ⟨h6.mono (fun k hk => by
    rw [hc]
    rcases hk with (hk | hk) | hk
    · have hk' : k = c := hk
      exact ⟨by omega, by have := h6.lt; omega⟩
    · exact ⟨by omega, by omega⟩
    · exact ⟨by omega, by omega⟩) (fun k hk => hk.2), (unhide OP4).trans hO6 (fun y hy e => by omega)⟩
  have HF := hide hfin
  clear C3 h6 hO6 hfin HP4 OP4
  go_wp2_with fail
  go_ret
  exact ⟨c, rfl, unhide HF⟩
set_option maxRecDepth 100000 in
set_option maxHeartbeats 8000000 in
theorem hcrash_any (h : MG w m lx A r S sr hz H) (hA : ASm S) (hS : ASm S) :
    Calls Tryz.prog 30 #[.pointer (some ⟨m, 0, none⟩)] w fun e w' => ∃ c, e = .returned (.pointer (some ⟨c, 0, none⟩)) ∧ NwM w w' c lx S sr S sr := by
  obtain ⟨_, _, _, _, _, _, _, _, _, _, _, _, _, _, c16, _⟩ := h.cur
  have hZ := MG.zero w lx
  have oZ := (Only.refl (fun _ => False) w).alloc (.cells (gmZ lx) 63)
  have hm1 := h.quiet oZ
  have hml := hm1.lt
  have hmw := h.lt
  obtain ⟨na, nc, ra, rc, aa, ac, c0, c1, c2, c3, c4, c5, c6, c7, _, hV⟩ := hm1.sav
  have C1 := hcopy_any (r := sr) hV hA
  unfold stV at C1
  have C1 := hide C1
  have H0 := hide h
  have HZ := hide hZ
  have OZ := hide oZ
  have hHm := hide h.inn
  have hsz : (w.alloc (.cells (gmZ lx) 63)).heap.size = w.heap.size + 1 := by simp
  clear h hV hZ oZ hm1
  unfold gmZ at *
  go_enter Tryz.func30, Tryz.ntmps30
  go_upto_region 2 with fail
  generalize w.alloc (.cells #[.slice none 0 0, .int .i64 0, .slice none 0 0, .string ⟨#[]⟩, .int .i64 0, .int .i64 0, .slice none 0 0, .int .i64 0, .slice none 0 0, .int .i64 0, .slice none 0 0, .string ⟨#[]⟩, .int .i64 0, .int .i64 0, .slice none 0 0, .int .i64 0, .bool lx, .slice none 0 0, .int .i64 0, .slice none 0 0, .string ⟨#[]⟩, .int .i64 0, .int .i64 0, .slice none 0 0, .int .i64 0, .slice none 0 0] 63) = w1 at *
  generalize hc : w.heap.size = c at *
  go_wp2_with fail
  refine (unhide C1).mono ?_
  rintro e w2 ⟨na', nc', ra', rc', aa', ac', rfl, hV2, hO2⟩
  have h2 := (unhide HZ).quiet hO2
  have hcl := h2.lt
  obtain ⟨_, _, _, _, _, _, e0, e1, e2, e3, e4, e5, e6, e7, _, _⟩ := h2.cur
  have z0 := h2.free 0
  have z1 := h2.free 1
  have z2 := h2.free 2
  have z3 := h2.free 3
  have z4 := h2.free 4
  have z5 := h2.free 5
  have z6 := h2.free 6
  have z7 := h2.free 7
  have hP := (unhide HZ).putCur (r' := sr) hO2 hV2
  have hO3 := put8_only w2 c 0 (.slice na' S.nodes.length nc') (.slice ra' S.refs.length rc') (.slice aa' S.aux.length ac') S sr
  have hO23 := (hO2.mono (T := fun y => y = c) (fun _ _ h => h.elim)).trans hO3 (fun _ _ h => h)
  have hO03 : Only (fun _ => False) w (put8 w2 c 0 (.slice na' S.nodes.length nc') (.slice ra' S.refs.length rc') (.slice aa' S.aux.length ac') S sr) := (unhide OZ).trans hO23 (fun y hy e => by omega)
  have hm3 := (unhide H0).quiet hO03
  have HP := hide hP
  have OP := hide hO03
  have h12 := hO2.size
  have h23 := hO3.size
  clear C1 hV2 hO2 h2 hP hO3 hO23 HZ c0 c1 c2 c3 c4 c5 c6 c7
  go_upto_region 3 with fail
  generalize hW3 : put8 w2 c 0 (.slice na' S.nodes.length nc') (.slice ra' S.refs.length rc') (.slice aa' S.aux.length ac') S sr = w3 at *
  have hW3' := hW3
  unfold put8 at hW3'
  rw [hW3']
  obtain ⟨na, nc, ra, rc, aa, ac, c0, c1, c2, c3, c4, c5, c6, c7, _, hV⟩ := hm3.sav
  have C2 := hcopy_any (r := sr) hV hS
  unfold stV at C2
  have C2 := hide C2
  have hml3 := hm3.lt
  clear hV hm3 e0 e1 e2 e3 e4 e5 e6 e7 z0 z1 z2 z3 z4 z5 z6 z7 hW3 hW3'
  go_wp2_with fail
  refine (unhide C2).mono ?_
  rintro e w4 ⟨ma', mc', sa', sc', ba', bc', rfl, hV4, hO4⟩
  have h4 := (unhide HP).quiet hO4
  have hcl4 := h4.lt
  obtain ⟨_, _, _, _, _, _, e0, e1, e2, e3, e4, e5, e6, e7, _, _⟩ := h4.sav
  have z8 := h4.free 8
  have z9 := h4.free 9
  have z10 := h4.free 10
  have z11 := h4.free 11
  have z12 := h4.free 12
  have z13 := h4.free 13
  have z14 := h4.free 14
  have z15 := h4.free 15
  have hP4 := (unhide HP).putSav (sr' := sr) hO4 hV4
  have hO5 := put8_only w4 c 8 (.slice ma' S.nodes.length mc') (.slice sa' S.refs.length sc') (.slice ba' S.aux.length bc') S sr
  have hO45 := (hO4.mono (T := fun y => y = c) (fun _ _ h => h.elim)).trans hO5 (fun _ _ h => h)
  have hO05 : Only (fun _ => False) w (put8 w4 c 8 (.slice ma' S.nodes.length mc') (.slice sa' S.refs.length sc') (.slice ba' S.aux.length bc') S sr) := (unhide OP).trans hO45 (fun y hy e => by omega)
  have HP4 := hide hP4
  have OP4 := hide hO05
  have h34 := hO4.size
  have h45 := hO5.size
  clear C2 hV4 hO4 h4 hP4 hO5 hO45 hO05 OP c0 c1 c2 c3 c4 c5 c6 c7 HP
  go_upto_region 4 with fail
  generalize hW5 : put8 w4 c 8 (.slice ma' S.nodes.length mc') (.slice sa' S.refs.length sc') (.slice ba' S.aux.length bc') S sr = w5 at *
  have hW5' := hW5
  unfold put8 at hW5'
  rw [hW5']
  have C3 := hide (hmark_any (unhide HP4) hS)
  clear e0 e1 e2 e3 e4 e5 e6 e7 z8 z9 z10 z11 z12 z13 z14 z15 hW5 hW5'
  go_wp2_with fail
  refine (unhide C3).mono ?_
  rintro e w6 ⟨rfl, h6, hO6⟩
  have h56 := hO6.size
  have hfin : NwM w w6 c lx S sr S sr := ⟨h6.mono (fun k hk => by
    rw [hc]
    rcases hk with (hk | hk) | hk
    · have hk' : k = c := hk
      exact ⟨by omega, by have := h6.lt; omega⟩
    · exact ⟨by omega, by omega⟩
    · exact ⟨by omega, by omega⟩) (fun k hk => hk.2), (unhide OP4).trans hO6 (fun y hy e => by omega)⟩
  have HF := hide hfin
  clear C3 h6 hO6 hfin HP4 OP4
  go_wp2_with fail
  go_ret
  exact ⟨c, rfl, unhide HF⟩
end
end Go.Proofs.Qxb6500417aGreat
