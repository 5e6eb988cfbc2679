/-
  OWN WORK. THE GRAPH's MODEL: copyState, Mark, Lax, Room, Pay, Clone, Crashed, New, Abort (written by tools/gen_hmd2.py).
-/
import Derived.Test.Qxb6500417aGreatHMd
namespace Go.Proofs.Qxb6500417aGreat
open Go.RowKit Go.PlainAid
set_option linter.unusedSimpArgs false
set_option linter.unusedVariables false

def stV (nv rv av : Value) (A : GA) (r : Int) : Value := .agg #[nv, .int .i64 (A.nx : Int), rv, .string A.hn, .int .i64 (A.hs : Int), .int .i64 (A.hm : Int), av, .int .i64 r]
theorem onlyS {a w : World} {b : Nat} (h : Only (fun y => y = b) a w) (i : Nat) (u : Value) : Only (fun y => y = b) a (w.setCell ⟨b, i, none⟩ u) := h.setCell (fun _ => rfl) u
section
variable {w w' : World} {nv rv av : Value} {A S : GA} {O P H : Nat → Prop} {m : Nat} {lx hz : Bool} {r sr : Int}
theorem NLM.nl {v : Value} {l : List Nd} (h : NLM w v l w') : ∃ rs, rs.map NRow.x = l ∧ NL (fun y => w.heap.size ≤ y) w' v rs := h.ex
theorem MG.bas (h : MG w m lx A r S sr hz H) : ∃ (b : Bs) (hv : Value), w.cell? ⟨m, 17, none⟩ = some b.b0 ∧ w.cell? ⟨m, 18, none⟩ = some b.b1 ∧ w.cell? ⟨m, 19, none⟩ = some b.b2 ∧ w.cell? ⟨m, 20, none⟩ = some b.b3 ∧ w.cell? ⟨m, 21, none⟩ = some b.b4 ∧ w.cell? ⟨m, 22, none⟩ = some b.b5 ∧ w.cell? ⟨m, 23, none⟩ = some b.b6 ∧ w.cell? ⟨m, 24, none⟩ = some b.b7 ∧ w.cell? ⟨m, 25, none⟩ = some hv ∧ (hz = true → hv = .slice none 0 0) := by
  obtain ⟨nv, rv, av, nv', rv', av', b, hv, Q, O, h1, h2, h3, h4, h5, h6, h7⟩ := h.ex
  exact ⟨b, hv, h1.cell 17, h1.cell 18, h1.cell 19, h1.cell 20, h1.cell 21, h1.cell 22, h1.cell 23, h1.cell 24, h1.cell 25, h4⟩
set_option maxRecDepth 100000 in
set_option maxHeartbeats 4000000 in
theorem hcopy_any (h : StV w nv rv av A O) (hs : ASm A) :
    Calls Tryz.prog 34 #[stV nv rv av A r] w fun e w' => ∃ na nc ra rc aa ac, e = .returned (stV (.slice na A.nodes.length nc) (.slice ra A.refs.length rc) (.slice aa A.aux.length ac) A r) ∧ StV w' (.slice na A.nodes.length nc) (.slice ra A.refs.length rc) (.slice aa A.aux.length ac) A (fun y => w.heap.size ≤ y) ∧ Only (fun _ => False) w w' := by
  unfold stV
  have oA := (Only.refl (fun _ => False) w).alloc (.cells #[nv, .int .i64 (A.nx : Int), rv, .string A.hn, .int .i64 (A.hs : Int), .int .i64 (A.hm : Int), av, .int .i64 r] 60)
  have oB := (Only.refl (fun _ => False) (w.alloc (.cells #[nv, .int .i64 (A.nx : Int), rv, .string A.hn, .int .i64 (A.hs : Int), .int .i64 (A.hm : Int), av, .int .i64 r] 60))).alloc (.cells #[.slice none 0 0, .int .i64 0, .slice none 0 0, .string ⟨#[]⟩, .int .i64 0, .int .i64 0, .slice none 0 0, .int .i64 0] 60)
  have hA := (Has.new w #[nv, .int .i64 (A.nx : Int), rv, .string A.hn, .int .i64 (A.hs : Int), .int .i64 (A.hm : Int), av, .int .i64 r] 60).keep oB (fun h => h)
  have hB := Has.new (w.alloc (.cells #[nv, .int .i64 (A.nx : Int), rv, .string A.hn, .int .i64 (A.hs : Int), .int .i64 (A.hm : Int), av, .int .i64 r] 60)) #[.slice none 0 0, .int .i64 0, .slice none 0 0, .string ⟨#[]⟩, .int .i64 0, .int .i64 0, .slice none 0 0, .int .i64 0] 60
  have hsz : (w.alloc (.cells #[nv, .int .i64 (A.nx : Int), rv, .string A.hn, .int .i64 (A.hs : Int), .int .i64 (A.hm : Int), av, .int .i64 r] 60)).heap.size = w.heap.size + 1 := by simp
  rw [hsz] at hB
  have hO := oA.trans oB (fun _ _ h => h)
  have hq := h.quiet hO
  have C1 := hide (acopyNodes_any hq.nin (by have := hs.n; omega) hs.sml)
  have HQ := hide hq
  have HA := hide hA
  have HB := hide hB
  have HO := hide hO
  have hr1 : A.refs.length ≤ 1000 := by have := hs.r; omega
  have ha1 : A.aux.length ≤ 1000 := by have := hs.aux; omega
  obtain ⟨⟨na, nc, rfl⟩, ⟨ra, rc, rfl⟩, ⟨aa, ac, rfl⟩⟩ := h.shape
  clear oA oB hA hB hsz hO hq h hs
  go_enter Tryz.func34, Tryz.ntmps34
  go_upto_region 1 with fail
  generalize hW : (w.alloc (.cells #[.slice na A.nodes.length nc, .int .i64 (A.nx : Int), .slice ra A.refs.length rc, .string A.hn, .int .i64 (A.hs : Int), .int .i64 (A.hm : Int), .slice aa A.aux.length ac, .int .i64 r] 60)).alloc (.cells #[.slice none 0 0, .int .i64 0, .slice none 0 0, .string ⟨#[]⟩, .int .i64 0, .int .i64 0, .slice none 0 0, .int .i64 0] 60) = W at *
  clear hW
  generalize hb0 : w.heap.size = b0 at *
  have hbW : b0 + 2 ≤ W.heap.size := by have := (unhide HB).lt; omega
  have a0 := (unhide HA).cell 0
  simp only [List.getElem?_toArray, List.getElem?_cons_zero, List.getElem?_cons_succ] at a0
  go_wp2_with fail
  refine (unhide C1).mono ?_
  rintro e w1 ⟨v1, rfl, hN1⟩
  have hA1 := (unhide HA).keep hN1.ho (fun h => h)
  have a2 := hA1.cell 2
  simp only [List.getElem?_toArray, List.getElem?_cons_zero, List.getElem?_cons_succ] at a2
  have hq1 := (unhide HQ).quiet hN1.ho
  have C2 := hide (acopyRefs_any hq1.rf.in_ hr1)
  obtain ⟨na', nc', hne⟩ := hN1.shape
  subst hne
  have HN1 := hide hN1
  have HA1 := hide hA1
  have HB1 := hide ((unhide HB).keep hN1.ho (fun h => h))
  have HQ1 := hide hq1
  clear C1 hA1 hq1 hN1 HA HB HQ a0
  go_wp2_with fail
  refine (unhide C2).mono ?_
  rintro e w2 ⟨v2, rfl, hR2⟩
  have hA2 := (unhide HA1).keep hR2.ho (fun h => h)
  have a6 := hA2.cell 6
  simp only [List.getElem?_toArray, List.getElem?_cons_zero, List.getElem?_cons_succ] at a6
  have hq2 := (unhide HQ1).quiet hR2.ho
  have C3 := hide (copyFiles_any _ A.aux hq2.ax.in_ ha1)
  obtain ⟨ra', rc', hre⟩ := ownsRow_shape hR2.own
  subst hre
  have HR2 := hide hR2
  have HA2 := hide hA2
  have HB2 := hide ((unhide HB1).keep hR2.ho (fun h => h))
  clear C2 hA2 hq2 hR2 HA1 HB1 HQ1 a2
  go_wp2_with fail
  refine (unhide C3).mono ?_
  rintro e w3 ⟨v3, rfl, hF3, hfb3, hO3⟩
  have hA3 := (unhide HA2).keep hO3 (fun h => h)
  have hB3 := (unhide HB2).keep hO3 (fun h => h)
  have a1 := hA3.cell 1
  have a3 := hA3.cell 3
  have a4 := hA3.cell 4
  have a5 := hA3.cell 5
  have a7 := hA3.cell 7
  have q0 := hB3.cell 0
  have z0 := hB3.free 0
  have q1 := hB3.cell 1
  have z1 := hB3.free 1
  have q2 := hB3.cell 2
  have z2 := hB3.free 2
  have q3 := hB3.cell 3
  have z3 := hB3.free 3
  have q4 := hB3.cell 4
  have z4 := hB3.free 4
  have q5 := hB3.cell 5
  have z5 := hB3.free 5
  have q6 := hB3.cell 6
  have z6 := hB3.free 6
  have q7 := hB3.cell 7
  have z7 := hB3.free 7
  simp only [List.getElem?_toArray, List.getElem?_cons_zero, List.getElem?_cons_succ] at a1 a3 a4 a5 a7 q0 q1 q2 q3 q4 q5 q6 q7
  obtain ⟨aa', ac', hae⟩ := ownsRow_shape hF3
  subst hae
  have hbl := hB3.lt
  have hn2 := (unhide HN1).ho.trans (unhide HR2).ho (fun _ _ h => h)
  have hn3 := hn2.trans hO3 (fun _ _ h => h)
  obtain ⟨rs, hrs, hNL⟩ := (unhide HN1).nl
  have hNL3 := (hNL.quiet (unhide HR2).ho).quiet hO3
  have hRf3 := (unhide HR2).own.keep hO3 (fun _ _ h => h)
  have hbN : ∀ y, W.heap.size ≤ y → b0 + 2 ≤ y := fun y hy => by omega
  have hs1 := (unhide HN1).ho.size
  have hs2 := (unhide HR2).ho.size
  have hrb := (unhide HR2).hb
  have Hfin : Hid (∀ W9, Only (fun y => y = b0 + 1) w3 W9 → StV W9 (.slice na' A.nodes.length nc') (.slice ra' A.refs.length rc') (.slice aa' A.aux.length ac') A (fun y => w.heap.size ≤ y) ∧ Only (fun _ => False) w W9) := hide (fun W9 h9 => by
    refine ⟨⟨⟨rs, hrs, (hNL3.keep h9 (fun y hy e => by have := hbN y hy; omega)).mono (fun y hy => by have := hbN y hy; omega)⟩, hRf3.keep h9 (fun y hy e => by have := hrb y hy; have := hbN y (by omega); omega), fun y hy => by have := hrb y hy; have := hbN y (by omega); omega, hF3.keep h9 (fun y hy e => by have := hfb3 y hy; have := hbN y (by omega); omega), fun y hy => by have := hfb3 y hy; have := hbN y (by omega); omega⟩, ((unhide HO).trans hn3 (fun _ _ h => h)).trans h9 (fun y hy e => by omega)⟩)
  clear C3 hA3 hB3 HA2 HB2 HR2 HN1 hn2 hn3 hNL hNL3 hRf3 hbN hs1 hs2 hrb hF3 hfb3 hO3 hrs a6 HO
  go_wp2_with fail
  refine bodyPost_ret (v := stV (.slice na' A.nodes.length nc') (.slice ra' A.refs.length rc') (.slice aa' A.aux.length ac') A r) (by simp [results, Tryz.results34, go_sem, stV, q0, q1, q2, q3, q4, q5, q6, q7]) rfl ?_
  refine ⟨na', nc', ra', rc', aa', ac', rfl, ?_⟩
  refine unhide Hfin _ ?_
  iterate 8 (refine onlyS ?_ _ _)
  exact Only.refl _ _
end
end Go.Proofs.Qxb6500417aGreat
