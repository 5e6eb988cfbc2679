/-
  OWN WORK. THE GRAPH's MODEL: Collect (written by tools/gen_hmd10.py).
-/
import Derived.Test.Qxb6500417aGreatHMd9
namespace Go.Proofs.Qxb6500417aGreat
open Go.RowKit Go.PlainAid
set_option linter.unusedSimpArgs false
set_option linter.unusedVariables false

theorem keepI_sub (nodes : List Nd) (s : Nat → Bool) : ∀ i, (keepI nodes s i).Sublist (nodes.take i)
  | 0 => by simp [keepI]
  | i + 1 => by
    unfold keepI
    rw [List.take_add_one]
    refine List.Sublist.append (keepI_sub nodes s i) ?_
    cases nodes[i]? with
    | none => exact List.Sublist.refl _
    | some b =>
      by_cases h : s i = true
      · simp [h]
      · simp [h]
theorem collA_sub (A : GA) : (collA A).nodes.Sublist A.nodes := by
  have := keepI_sub A.nodes (keptA A) A.nodes.length
  rw [List.take_length] at this
  exact this
theorem ASm.coll {A : GA} (h : ASm A) : ASm (collA A) := by
  have hs := collA_sub A
  have hm : ∀ x ∈ (collA A).nodes, x ∈ A.nodes := fun x hx => hs.subset hx
  have hl := hs.length_le
  have hss : ∀ l ∈ (collA A).nodes.map Nd.files ++ [A.aux], l ∈ A.nodes.map Nd.files ++ [A.aux] := fun l hl => by
    rcases List.mem_append.1 hl with e | e
    · obtain ⟨x, hx, rfl⟩ := List.mem_map.1 e
      exact List.mem_append_left _ (List.mem_map.2 ⟨x, hm x hx, rfl⟩)
    · exact List.mem_append_right _ e
  have hn := h.n
  refine ⟨by omega, List.Pairwise.sublist hs h.s, ⟨?_, fun l hl => h.sn.l l (hss l hl), fun l hl => h.sn.f l (hss l hl)⟩, fun x hx => h.p x (hm x hx), h.r⟩
  rw [List.length_append, List.length_map]
  simp
  omega
section
variable {w w' : World} {nv rv av : Value} {A S : GA} {O P H : Nat → Prop} {m : Nat} {lx hz : Bool} {r sr : Int}
theorem MT.room {w3 : World} (h : MT w w3 m lx A r S sr hz H) (r' : Int) : MT w (w3.setCell ⟨m, 7, none⟩ (.int .i64 r')) m lx A r' S sr hz H := h.trans (MT.of0 h.mg (h.mg.room r'))

set_option maxRecDepth 100000 in
set_option maxHeartbeats 16000000 in
theorem hcoll_any (h : MG w m true A r S sr true H) (hA : ASm A) :
    Calls Tryz.prog 114 #[.pointer (some ⟨m, 0, none⟩)] w fun e w' => e = .returned (.tuple #[.int .i64 (stayA (collA A).nodes A.aux : Nat), .int .i64 0]) ∧ MT w w' m true (collA A) (48 - (stayA (collA A).nodes A.aux : Nat)) (collA A) (48 - (stayA (collA A).nodes A.aux : Nat)) false H := by
  obtain ⟨na, nc, ra, rc, aa, ac, c0, c1, c2, c3, c4, c5, c6, c7, c16, hV⟩ := h.cur
  have hd0 : Only (fun _ => False) w w.drew := (Only.refl _ w).drew
  have hC := hA.coll
  have Hst := hide (show stayA (collA A).nodes A.aux ≤ 1000000 by
    have := weightA_le hC.sn
    have := hC.n
    have e : stayA (collA A).nodes A.aux = weightA ((collA A).nodes.map Nd.files ++ [(collA A).aux]) + (collA A).nodes.length + 1 := rfl
    omega)
  have C1 : Calls Tryz.prog 160 #[.slice na A.nodes.length nc, .slice ra A.refs.length rc, .agg #[.string A.hn, .int .i64 (A.hs : Int), .int .i64 (A.hm : Int)]] w.drew fun e w1 => ∃ v', e = .returned v' ∧ (∃ u, w1.cell? ⟨m, 0, none⟩ = some u) ∧ w1.frozen? ⟨m, 0, none⟩ = false ∧ m < w1.heap.size ∧ (∃ a n c, v' = .slice a n c) ∧ Hid (MT w (w1.setCell ⟨m, 0, none⟩ v') m true (collA A) r S sr true H) := by
    have C := akeep_any (hV.nin.quiet hd0) (by have := hA.n; omega) hA.sml hA.s (hV.rf.in_.keep hd0 (fun _ _ h => h)) hA.r A.hn A.hs A.hm
    have e1 : keepI A.nodes (reachN A.nodes A.nodes.length (rootI A.nodes (rootsI A.refs A.hn A.hs A.hm))) A.nodes.length = (collA A).nodes := by
      rw [rootsI_A, rootI_S]; rfl
    rw [e1] at C
    refine C.mono ?_
    rintro e w1 ⟨v', rfl, hN⟩
    have hN' : NLM w v' (collA A).nodes w1 := ⟨hN.ex, hd0.trans hN.ho (fun _ _ h => h)⟩
    have h1 := h.quiet hN'.ho
    obtain ⟨_, _, _, _, _, _, d0, _⟩ := h1.cur
    obtain ⟨va, vc, hve⟩ := hN.shape
    exact ⟨v', rfl, ⟨_, d0⟩, h1.free 0, h1.lt, ⟨_, _, _, hve⟩, hide (MT.of h.hm (h.putNodes hN'))⟩
  have C1 := hide C1
  have HC := hide hC
  have hml := h.lt
  have f0 := h.free 0
  clear h hV hA hC hd0
  go_enter Tryz.func114, Tryz.ntmps114
  go_upto_region 3 with fail
  go_cut [] (fun wx => MT w wx m true (collA A) r S sr true H)
  case first =>
    go_region_with (first | (go_at_call 160; refine (unhide C1).mono ?_; rintro e w1 ⟨v', rfl, ⟨u, d0⟩, g0, ml1, ⟨va, vn, vc, rfl⟩, HT⟩))
    all_goals
      clear C1
      go_wp2_with fail
      go_meet
      exact unhide HT
  case rest =>
  generalize hwc : wc = w2 at *
  clear hwc
  have T2 := hide hcut
  clear c0 c1 c2 c3 c4 c5 c6 c7 c16 C1 f0 hml hcut
  obtain ⟨A', hA'⟩ : ∃ X, collA A = X := ⟨_, rfl⟩
  have hax : A.aux = A'.aux := by rw [← hA']; rfl
  rw [hA'] at T2 HC Hst
  rw [hax] at Hst
  have HA' := hide hA'
  have Hax := hide hax
  clear hA' hax
  obtain ⟨X, hX⟩ : ∃ X, stayA A'.nodes A'.aux = X := ⟨_, rfl⟩
  have HX := hide hX
  have hXb : X ≤ 1000000 := by rw [← hX]; exact unhide Hst
  clear hX Hst
  have hml := (unhide T2).mg.lt
  obtain ⟨na, nc, ra, rc, aa, ac, c0, c1, c2, c3, c4, c5, c6, c7, c16, hV⟩ := (unhide T2).mg.cur
  have hd2 : Only (fun _ => False) w2 w2.drew := (Only.refl _ w2).drew
  have C2 : Calls Tryz.prog 161 #[.slice na A'.nodes.length nc, .slice aa A'.aux.length ac] w2.drew fun e w3 => e = .returned (.int .i64 (X : Nat)) ∧ Hid (MT w w3 m true A' r S sr true H) := by
    have C := astay_any (hV.nin.quiet hd2) (hV.ax.in_.keep hd2 (fun _ _ h => h)) (unhide HC).n (unhide HC).sn
    rw [unhide HX] at C
    refine C.mono ?_
    rintro e w3 ⟨rfl, o3⟩
    exact ⟨rfl, hide ((unhide T2).then (hd2.trans o3 (fun _ _ h => h)))⟩
  have C2 := hide C2
  clear hV hd2
  go_upto_region 4 with fail
  go_cut [4] (fun v wx => v = .int .i64 (X : Nat) ∧ MT w wx m true A' r S sr true H)
  case first =>
    go_region_with (first | (go_at_call 161; refine (unhide C2).mono ?_; rintro e w3 ⟨rfl, HT⟩))
    all_goals
      clear C2
      go_wp2_with fail
      go_meet
      exact ⟨rfl, unhide HT⟩
  case rest =>
  obtain ⟨rfl, hcut⟩ := hcut
  generalize hwc : wc = w3 at *
  clear hwc
  have hml3 := hcut.mg.lt
  obtain ⟨_, _, _, _, _, _, _, _, _, _, _, _, _, d7, _, _⟩ := hcut.mg.cur
  have f7 := hcut.mg.free 7
  have t4 := hcut.room (48 - (X : Int))
  have T4 := hide t4
  clear c0 c1 c2 c3 c4 c5 c6 c7 c16 C2 hcut t4 T2 hml
  go_upto_region 6 with fail
  generalize w3.setCell ⟨m, 7, none⟩ (.int .i64 (48 - (X : Int))) = w4 at *
  clear d7 f7 hml3
  obtain ⟨r', hr'⟩ : ∃ x : Int, 48 - (X : Int) = x := ⟨_, rfl⟩
  rw [hr'] at T4
  have Hr' := hide hr'
  clear hr'
  obtain ⟨na, nc, ra, rc, aa, ac, c0, c1, c2, c3, c4, c5, c6, c7, _, hV⟩ := (unhide T4).mg.cur
  have hml4 := (unhide T4).mg.lt
  have C5 := hcopy_any (r := r') hV (unhide HC)
  unfold stV at C5
  have C5 := hide C5
  clear hV
  go_wp2_with fail
  refine (unhide C5).mono ?_
  rintro e w5 ⟨na', nc', ra', rc', aa', ac', rfl, hV5, hO5⟩
  have h5 := (unhide T4).mg.quiet hO5
  obtain ⟨_, _, _, _, _, _, e0, e1, e2, e3, e4, e5, e6, e7, _, _⟩ := h5.sav
  have z8 := h5.free 8
  have z9 := h5.free 9
  have z10 := h5.free 10
  have z11 := h5.free 11
  have z12 := h5.free 12
  have z13 := h5.free 13
  have z14 := h5.free 14
  have z15 := h5.free 15
  have hml5 := h5.lt
  have hP := (unhide T4).mg.putSav (sr' := r') hO5 hV5
  have hO6 := put8_only w5 m 8 (.slice na' A'.nodes.length nc') (.slice ra' A'.refs.length rc') (.slice aa' A'.aux.length ac') A' r'
  have t6 : MT w (put8 w5 m 8 (.slice na' A'.nodes.length nc') (.slice ra' A'.refs.length rc') (.slice aa' A'.aux.length ac') A' r') m true A' r' A' r' true H := by
    have s1 := hO5.size
    have s2 := hO6.size
    refine (unhide T4).trans ⟨hP.mono (fun k hk => hk.imp id (fun e => ⟨e.1, by omega⟩)) (Ext.in (unhide T4).mg.inn (by omega)), ((hO5.mono (T := fun y => y = m) (fun _ _ h => h.elim)).trans hO6 (fun _ _ h => h)).mono (fun y _ e => by rw [e]; exact (unhide T4).mg.hm)⟩
  have T6 := hide t6
  clear C5 hV5 hO5 h5 hP hO6 t6 T4 c0 c1 c2 c3 c4 c5 c6 c7 hml4
  go_upto_region 7 with fail
  generalize hW6 : put8 w5 m 8 (.slice na' A'.nodes.length nc') (.slice ra' A'.refs.length rc') (.slice aa' A'.aux.length ac') A' r' = w6 at *
  have hW6' := hW6
  unfold put8 at hW6'
  rw [hW6']
  clear e0 e1 e2 e3 e4 e5 e6 e7 z8 z9 z10 z11 z12 z13 z14 z15 hW6 hW6' hml5
  have hd : Only (fun _ => False) w6 w6.drew := (Only.refl _ w6).drew
  obtain ⟨na, nc, ra, rc, aa, ac, c0, c1, c2, c3, c4, c5, c6, c7, _, hV⟩ := (unhide T6).mg.cur
  obtain ⟨_, hv, _, _, _, _, _, _, _, _, c25, hvz⟩ := (unhide T6).mg.bas
  have hvz2 := hvz rfl
  subst hvz2
  have C7 : Calls Tryz.prog 34 #[.agg #[.slice na A'.nodes.length nc, .int .i64 (A'.nx : Int), .slice ra A'.refs.length rc, .string A'.hn, .int .i64 (A'.hs : Int), .int .i64 (A'.hm : Int), .slice aa A'.aux.length ac, .int .i64 r']] w6.drew fun e w7 => ∃ (na2 : Option Addr) (nc2 : Nat) (ra2 : Option Addr) (rc2 : Nat) (aa2 : Option Addr) (ac2 : Nat), e = .returned (.agg #[.slice na2 A'.nodes.length nc2, .int .i64 (A'.nx : Int), .slice ra2 A'.refs.length rc2, .string A'.hn, .int .i64 (A'.hs : Int), .int .i64 (A'.hm : Int), .slice aa2 A'.aux.length ac2, .int .i64 r']) ∧ w7.cell? ⟨m, 25, none⟩ = some (.slice none 0 0) ∧ w7.frozen? ⟨m, 25, none⟩ = false ∧ m < w7.heap.size ∧ Hid (MT w w7 m true A' r' A' r' true H) := by
    have C := hcopy_any (r := r') (hV.quiet hd) (unhide HC)
    unfold stV at C
    refine C.mono ?_
    rintro e w7 ⟨na2, nc2, ra2, rc2, aa2, ac2, rfl, _, ho⟩
    have t7 := (unhide T6).then (hd.trans ho (fun _ _ h => h))
    obtain ⟨_, hv, _, _, _, _, _, _, _, _, d25, hvz⟩ := t7.mg.bas
    have hvz2 := hvz rfl
    subst hvz2
    exact ⟨na2, nc2, ra2, rc2, aa2, ac2, rfl, d25, t7.mg.free 25, t7.mg.lt, hide t7⟩
  have C7 := hide C7
  have f25 := (unhide T6).mg.free 25
  have hml6 := (unhide T6).mg.lt
  clear hvz hd hV
  go_region_with (first | (go_at_call 34; refine (unhide C7).mono ?_; rintro e w7 ⟨na2, nc2, ra2, rc2, aa2, ac2, rfl, d25, f4, ml4, HF⟩))
  all_goals
    clear C7
    go_wp2_with fail
    go_ret2
    rw [unhide HA', unhide Hax, unhide HX, unhide Hr']
    exact ⟨rfl, (((unhide HF).hist _ _ _).then ((((Only.refl (fun _ => False) _).alloc _).alloc _).drew))⟩
end
end Go.Proofs.Qxb6500417aGreat
