/-
  OWN WORK. THE GRAPH's MODEL: Save (written by tools/gen_hmd8.py).
-/
import Derived.Test.Qxb6500417aGreatHMd8
namespace Go.Proofs.Qxb6500417aGreat
open Go.RowKit Go.PlainAid
set_option linter.unusedSimpArgs false
set_option linter.unusedVariables false

section
variable {w w' : World} {nv rv av : Value} {A S : GA} {O P H : Nat → Prop} {m : Nat} {lx hz : Bool} {r sr : Int}
theorem MT.hist {w3 : World} {H0 : Nat → Prop} (h : MT w w3 m lx A r S sr hz H0) (a : Option Addr) (n c : Nat) : MT w (w3.setCell ⟨m, 25, none⟩ (.slice a n c)) m lx A r S sr false H0 := h.trans (MT.of0 h.mg (h.mg.hist a n c))
set_option maxRecDepth 100000 in
set_option maxHeartbeats 8000000 in
theorem hsave_any (h : MG w m true A r S sr true H) (hA : ASm A) (hr1 : -4000000000000000000 < r) (hr2 : r < 1000) :
    Calls Tryz.prog 107 #[.pointer (some ⟨m, 0, none⟩)] w fun e w' => e = .returned (.int .i64 0) ∧ MT w w' m true A (r - 1) A (r - 1) false H := by
  have C1 := hide (hpay_any h 1 (by omega) (by omega))
  have H0 := hide h
  have HA := hide hA
  clear h hA
  go_enter Tryz.func107, Tryz.ntmps107
  go_wp2_with fail
  refine (unhide C1).mono ?_
  rintro e w1 ⟨rfl, h1, o1⟩
  have t1 := MT.of0 (unhide H0) ⟨h1, o1⟩
  obtain ⟨na, nc, ra, rc, aa, ac, c0, c1, c2, c3, c4, c5, c6, c7, _, hV⟩ := t1.mg.cur
  have C2 := hcopy_any (r := r - 1) hV (unhide HA)
  unfold stV at C2
  have C2 := hide C2
  have T1 := hide t1
  have hml := t1.mg.lt
  clear C1 h1 o1 t1 hV H0
  obtain ⟨r', hr'⟩ : ∃ x, r - 1 = x := ⟨_, rfl⟩
  rw [hr'] at C2 T1 c7
  have Hr' := hide hr'
  clear hr' hr1 hr2
  go_wp2_with fail
  refine (unhide C2).mono ?_
  rintro e w2 ⟨na', nc', ra', rc', aa', ac', rfl, hV2, hO2⟩
  have h2 := (unhide T1).mg.quiet hO2
  obtain ⟨_, _, _, _, _, _, e0, e1, e2, e3, e4, e5, e6, e7, _, _⟩ := h2.sav
  have z8 := h2.free 8
  have z9 := h2.free 9
  have z10 := h2.free 10
  have z11 := h2.free 11
  have z12 := h2.free 12
  have z13 := h2.free 13
  have z14 := h2.free 14
  have z15 := h2.free 15
  have hml2 := h2.lt
  have hP := (unhide T1).mg.putSav (sr' := r') hO2 hV2
  have hO3 := put8_only w2 m 8 (.slice na' A.nodes.length nc') (.slice ra' A.refs.length rc') (.slice aa' A.aux.length ac') A r'
  have t3 : MT w (put8 w2 m 8 (.slice na' A.nodes.length nc') (.slice ra' A.refs.length rc') (.slice aa' A.aux.length ac') A r') m true A r' A r' true H := by
    have s1 := hO2.size
    have s2 := hO3.size
    refine (unhide T1).trans ⟨hP.mono (fun k hk => hk.imp id (fun e => ⟨e.1, by omega⟩)) (Ext.in (unhide T1).mg.inn (by omega)), ((hO2.mono (T := fun y => y = m) (fun _ _ h => h.elim)).trans hO3 (fun _ _ h => h)).mono (fun y _ e => by rw [e]; exact (unhide T1).mg.hm)⟩
  have T3 := hide t3
  clear C2 hV2 hO2 h2 hP hO3 t3 T1 c0 c1 c2 c3 c4 c5 c6 c7
  go_upto_region 4 with fail
  generalize hW3 : put8 w2 m 8 (.slice na' A.nodes.length nc') (.slice ra' A.refs.length rc') (.slice aa' A.aux.length ac') A r' = w3 at *
  have hW3' := hW3
  unfold put8 at hW3'
  rw [hW3']
  clear e0 e1 e2 e3 e4 e5 e6 e7 z8 z9 z10 z11 z12 z13 z14 z15 hW3 hW3'
  have hd : Only (fun _ => False) w3 w3.drew := (Only.refl _ w3).drew
  obtain ⟨na, nc, ra, rc, aa, ac, c0, c1, c2, c3, c4, c5, c6, c7, _, hV⟩ := (unhide T3).mg.cur
  obtain ⟨_, hv, _, _, _, _, _, _, _, _, c25, hvz⟩ := (unhide T3).mg.bas
  have hvz2 := hvz rfl
  subst hvz2
  have C4 : Calls Tryz.prog 34 #[.agg #[.slice na A.nodes.length nc, .int .i64 (A.nx : Int), .slice ra A.refs.length rc, .string A.hn, .int .i64 (A.hs : Int), .int .i64 (A.hm : Int), .slice aa A.aux.length ac, .int .i64 r']] w3.drew fun e w4 => ∃ (na2 : Option Addr) (nc2 : Nat) (ra2 : Option Addr) (rc2 : Nat) (aa2 : Option Addr) (ac2 : Nat), e = .returned (.agg #[.slice na2 A.nodes.length nc2, .int .i64 (A.nx : Int), .slice ra2 A.refs.length rc2, .string A.hn, .int .i64 (A.hs : Int), .int .i64 (A.hm : Int), .slice aa2 A.aux.length ac2, .int .i64 r']) ∧ w4.cell? ⟨m, 25, none⟩ = some (.slice none 0 0) ∧ w4.frozen? ⟨m, 25, none⟩ = false ∧ m < w4.heap.size ∧ Hid (MT w w4 m true A r' A r' true H) := by
    have C := hcopy_any (r := r') (hV.quiet hd) (unhide HA)
    unfold stV at C
    refine C.mono ?_
    rintro e w4 ⟨na2, nc2, ra2, rc2, aa2, ac2, rfl, _, ho⟩
    have t4 := (unhide T3).then (hd.trans ho (fun _ _ h => h))
    obtain ⟨_, hv, _, _, _, _, _, _, _, _, d25, hvz⟩ := t4.mg.bas
    have hvz2 := hvz rfl
    subst hvz2
    exact ⟨na2, nc2, ra2, rc2, aa2, ac2, rfl, d25, t4.mg.free 25, t4.mg.lt, hide t4⟩
  have C4 := hide C4
  have f25 := (unhide T3).mg.free 25
  have hml3 := (unhide T3).mg.lt
  clear hvz hd hV hml hml2
  go_region_with (first | (go_at_call 34; refine (unhide C4).mono ?_; rintro e w4 ⟨na2, nc2, ra2, rc2, aa2, ac2, rfl, d25, f4, ml4, HF⟩))
  all_goals
    clear C4
    go_wp2_with fail
    go_ret
    refine ⟨rfl, ?_⟩
    have hf := unhide Hr'
    subst hf
    exact (((unhide HF).hist _ _ _).then ((((Only.refl (fun _ => False) _).alloc _).alloc _).drew))
end
end Go.Proofs.Qxb6500417aGreat
