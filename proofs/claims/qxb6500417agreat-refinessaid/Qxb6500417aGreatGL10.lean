/-
  OWN WORK. THE GRAPH LAW: Play (written by tools/gen_gl10.py).
-/
import Derived.Test.Qxb6500417aGreatGL9
namespace Go.Proofs.Qxb6500417aGreat
open Go.RowKit Go.PlainAid
set_option linter.unusedSimpArgs false
set_option linter.unusedVariables false

section
variable {w : World} {g t s d m : Nat} {D : Nat → Nat} {J : Nat → Sl} {rt : Nat} {F : Nat → Prop} {T : Gt} {S : GA} {r sr : Int} {H : Nat → Prop} {rv : Value} {l : List Fl}
/-- The register. -/
structure RgAt (w : World) (rv : Value) (l : List Fl) (B : Nat → Prop) : Prop where
  own : OwnF w rv l
  len : l.length ≤ 9
  off : ∀ y, rv.ownBlock = some y → ¬ B y
/-- What Play answers. -/
def PyP (w : World) (g t s d m : Nat) (D : Nat → Nat) (J : Nat → Sl) (rt : Nat) (F : Nat → Prop) (T : Gt) (S : GA) (r sr : Int) (H : Nat → Prop) (k : Int) (e : Ending) (w' : World) : Prop := ∃ full : Bool, e = .returned (.tuple #[.bool true, .bool full]) ∧ PlX w w' g t s d m D J rt F T S r sr H k full
theorem PyP.of {w w' : World} {k : Int} {full : Bool} (h : PlX w w' g t s d m D J rt F T S r sr H k full) : PyP w g t s d m D J rt F T S r sr H k (.returned (.tuple #[.bool true, .bool full])) w' := ⟨full, rfl, h⟩
theorem iff_self_true {b : Bool} {p : Prop} (h : b = true ↔ p) (hp : p) : b = true := h.2 hp
set_option maxRecDepth 100000 in
set_option maxHeartbeats 2000000 in
theorem glplay2_any (h : GJ w g t s d m D J rt F T S r sr H) (hR : RgAt w rv l (fun y => y = g ∨ y = t ∨ y = s ∨ F y ∨ H y)) (oa ob oc : Int) (os ot : ByteArray) :
    Calls Tryz.prog 22 #[.agg #[.pointer (some ⟨d, 0, none⟩), .pointer (some ⟨t, 0, none⟩)], .pointer (some ⟨g, 0, none⟩), .pointer (some ⟨m, 0, none⟩), .agg #[.int .i64 2, .int .i64 oa, .int .i64 ob, .int .i64 oc, .string os, .string ot], rv] w (PyP w g t s d m D J rt F T S r sr H 2) := by
  have oA := ((Only.refl (fun _ => False) w).alloc (.cells #[.pointer (some ⟨d, 0, none⟩), .pointer (some ⟨t, 0, none⟩)] 30)).alloc (.cells #[.int .i64 2, .int .i64 oa, .int .i64 ob, .int .i64 oc, .string os, .string ot] 42)
  have oB := (Only.refl (fun _ => False) (w.alloc (.cells #[.pointer (some ⟨d, 0, none⟩), .pointer (some ⟨t, 0, none⟩)] 30))).alloc (.cells #[.int .i64 2, .int .i64 oa, .int .i64 ob, .int .i64 oc, .string os, .string ot] 42)
  have hA := (Has.new w #[.pointer (some ⟨d, 0, none⟩), .pointer (some ⟨t, 0, none⟩)] 30).keep oB (fun h => h)
  have hB := Has.new (w.alloc (.cells #[.pointer (some ⟨d, 0, none⟩), .pointer (some ⟨t, 0, none⟩)] 30)) #[.int .i64 2, .int .i64 oa, .int .i64 ob, .int .i64 oc, .string os, .string ot] 42
  have hsz : (w.alloc (.cells #[.pointer (some ⟨d, 0, none⟩), .pointer (some ⟨t, 0, none⟩)] 30)).heap.size = w.heap.size + 1 := by simp
  rw [hsz] at hB
  have hJ := h.quiet oA
  obtain ⟨ra, rc, rfl⟩ := ownsRow_shape hR.own
  have hRl := hR.len
  have hRo := hR.off
  have hOw := hR.own.keep oA (fun _ _ h => h)
  obtain ⟨once, honce⟩ : ∃ b : Bool, (oc != 0) = b := ⟨_, rfl⟩
  have OA := hide oA
  clear h hR oA oB hsz
  generalize hW : (w.alloc (.cells #[.pointer (some ⟨d, 0, none⟩), .pointer (some ⟨t, 0, none⟩)] 30)).alloc (.cells #[.int .i64 2, .int .i64 oa, .int .i64 ob, .int .i64 oc, .string os, .string ot] 42) = W at *
  have C := hide (glcommit_any hJ hOw hRl hRo 2 oa ob oc os ot)
  have x0 := hB.cell 0
  have x1 := hB.cell 1
  have x2 := hB.cell 2
  have x3 := hB.cell 3
  have x4 := hB.cell 4
  have x5 := hB.cell 5
  have z0 := hA.cell 0
  have z1 := hA.cell 1
  simp only [List.getElem?_toArray, List.getElem?_cons_zero, List.getElem?_cons_succ] at x0 x1 x2 x3 x4 x5 z0 z1
  have xl := hB.lt
  have zl := hA.lt
  have HW := hide hW
  have HJ := hide hJ
  clear hW hA hB hJ hOw hRo
  go_enter Tryz.func22, Tryz.ntmps22
  go_upto_region 1 with fail
  rw [unhide HW]
  generalize w.heap.size = kb at *
  go_wp2_with fail
  refine (unhide C).mono ?_
  rintro e w1 ⟨full, rfl, hX⟩
  have RR := hide (PyP.of (PlX.pre (unhide OA) hX))
  clear C hX
  go_wp2_with fail
  go_ret2
  exact unhide RR
set_option maxRecDepth 100000 in
set_option maxHeartbeats 2000000 in
theorem glplay3_any (h : GJ w g t s d m D J rt F T S r sr H) (hR : RgAt w rv l (fun y => y = g ∨ y = t ∨ y = s ∨ F y ∨ H y)) (oa ob oc : Int) (os ot : ByteArray) :
    Calls Tryz.prog 22 #[.agg #[.pointer (some ⟨d, 0, none⟩), .pointer (some ⟨t, 0, none⟩)], .pointer (some ⟨g, 0, none⟩), .pointer (some ⟨m, 0, none⟩), .agg #[.int .i64 3, .int .i64 oa, .int .i64 ob, .int .i64 oc, .string os, .string ot], rv] w (PyP w g t s d m D J rt F T S r sr H 3) := by
  have oA := ((Only.refl (fun _ => False) w).alloc (.cells #[.pointer (some ⟨d, 0, none⟩), .pointer (some ⟨t, 0, none⟩)] 30)).alloc (.cells #[.int .i64 3, .int .i64 oa, .int .i64 ob, .int .i64 oc, .string os, .string ot] 42)
  have oB := (Only.refl (fun _ => False) (w.alloc (.cells #[.pointer (some ⟨d, 0, none⟩), .pointer (some ⟨t, 0, none⟩)] 30))).alloc (.cells #[.int .i64 3, .int .i64 oa, .int .i64 ob, .int .i64 oc, .string os, .string ot] 42)
  have hA := (Has.new w #[.pointer (some ⟨d, 0, none⟩), .pointer (some ⟨t, 0, none⟩)] 30).keep oB (fun h => h)
  have hB := Has.new (w.alloc (.cells #[.pointer (some ⟨d, 0, none⟩), .pointer (some ⟨t, 0, none⟩)] 30)) #[.int .i64 3, .int .i64 oa, .int .i64 ob, .int .i64 oc, .string os, .string ot] 42
  have hsz : (w.alloc (.cells #[.pointer (some ⟨d, 0, none⟩), .pointer (some ⟨t, 0, none⟩)] 30)).heap.size = w.heap.size + 1 := by simp
  rw [hsz] at hB
  have hJ := h.quiet oA
  obtain ⟨ra, rc, rfl⟩ := ownsRow_shape hR.own
  have hRl := hR.len
  have hRo := hR.off
  have hOw := hR.own.keep oA (fun _ _ h => h)
  obtain ⟨once, honce⟩ : ∃ b : Bool, (oc != 0) = b := ⟨_, rfl⟩
  have OA := hide oA
  clear h hR oA oB hsz
  generalize hW : (w.alloc (.cells #[.pointer (some ⟨d, 0, none⟩), .pointer (some ⟨t, 0, none⟩)] 30)).alloc (.cells #[.int .i64 3, .int .i64 oa, .int .i64 ob, .int .i64 oc, .string os, .string ot] 42) = W at *
  have C := hide (glNode_any hJ.gr hJ.mg hJ.gr.asm oa once)
  have x0 := hB.cell 0
  have x1 := hB.cell 1
  have x2 := hB.cell 2
  have x3 := hB.cell 3
  have x4 := hB.cell 4
  have x5 := hB.cell 5
  have z0 := hA.cell 0
  have z1 := hA.cell 1
  simp only [List.getElem?_toArray, List.getElem?_cons_zero, List.getElem?_cons_succ] at x0 x1 x2 x3 x4 x5 z0 z1
  have xl := hB.lt
  have zl := hA.lt
  have HW := hide hW
  have HJ := hide hJ
  clear hW hA hB hJ hOw hRo
  go_enter Tryz.func22, Tryz.ntmps22
  go_upto_region 1 with fail
  rw [unhide HW]
  generalize w.heap.size = kb at *
  go_wp2_with fail
  refine (unhide C).mono ?_
  rintro e w1 ⟨b, rfl, hb, o1⟩
  obtain rfl : b = true := hb.2 (by first | trivial | rfl | exact ⟨rfl, rfl⟩ | exact ⟨rfl, rfl, rfl⟩)
  have RR := hide (PyP.of (PlX.pre (unhide OA) (PlX.look (k := 3) (unhide HJ) (show Only (fun _ => False) W w1 by first | exact o1 | (rw [← o1]; exact Only.refl _ _)) (by decide))))
  clear C hb o1
  go_wp2_with fail
  go_ret2
  exact unhide RR
set_option maxRecDepth 100000 in
set_option maxHeartbeats 2000000 in
theorem glplay4_any (h : GJ w g t s d m D J rt F T S r sr H) (hR : RgAt w rv l (fun y => y = g ∨ y = t ∨ y = s ∨ F y ∨ H y)) (oa ob oc : Int) (os ot : ByteArray) :
    Calls Tryz.prog 22 #[.agg #[.pointer (some ⟨d, 0, none⟩), .pointer (some ⟨t, 0, none⟩)], .pointer (some ⟨g, 0, none⟩), .pointer (some ⟨m, 0, none⟩), .agg #[.int .i64 4, .int .i64 oa, .int .i64 ob, .int .i64 oc, .string os, .string ot], rv] w (PyP w g t s d m D J rt F T S r sr H 4) := by
  have oA := ((Only.refl (fun _ => False) w).alloc (.cells #[.pointer (some ⟨d, 0, none⟩), .pointer (some ⟨t, 0, none⟩)] 30)).alloc (.cells #[.int .i64 4, .int .i64 oa, .int .i64 ob, .int .i64 oc, .string os, .string ot] 42)
  have oB := (Only.refl (fun _ => False) (w.alloc (.cells #[.pointer (some ⟨d, 0, none⟩), .pointer (some ⟨t, 0, none⟩)] 30))).alloc (.cells #[.int .i64 4, .int .i64 oa, .int .i64 ob, .int .i64 oc, .string os, .string ot] 42)
  have hA := (Has.new w #[.pointer (some ⟨d, 0, none⟩), .pointer (some ⟨t, 0, none⟩)] 30).keep oB (fun h => h)
  have hB := Has.new (w.alloc (.cells #[.pointer (some ⟨d, 0, none⟩), .pointer (some ⟨t, 0, none⟩)] 30)) #[.int .i64 4, .int .i64 oa, .int .i64 ob, .int .i64 oc, .string os, .string ot] 42
  have hsz : (w.alloc (.cells #[.pointer (some ⟨d, 0, none⟩), .pointer (some ⟨t, 0, none⟩)] 30)).heap.size = w.heap.size + 1 := by simp
  rw [hsz] at hB
  have hJ := h.quiet oA
  obtain ⟨ra, rc, rfl⟩ := ownsRow_shape hR.own
  have hRl := hR.len
  have hRo := hR.off
  have hOw := hR.own.keep oA (fun _ _ h => h)
  obtain ⟨once, honce⟩ : ∃ b : Bool, (oc != 0) = b := ⟨_, rfl⟩
  have OA := hide oA
  clear h hR oA oB hsz
  generalize hW : (w.alloc (.cells #[.pointer (some ⟨d, 0, none⟩), .pointer (some ⟨t, 0, none⟩)] 30)).alloc (.cells #[.int .i64 4, .int .i64 oa, .int .i64 ob, .int .i64 oc, .string os, .string ot] 42) = W at *
  have C := hide (glsetBr_any hJ os oa)
  have x0 := hB.cell 0
  have x1 := hB.cell 1
  have x2 := hB.cell 2
  have x3 := hB.cell 3
  have x4 := hB.cell 4
  have x5 := hB.cell 5
  have z0 := hA.cell 0
  have z1 := hA.cell 1
  simp only [List.getElem?_toArray, List.getElem?_cons_zero, List.getElem?_cons_succ] at x0 x1 x2 x3 x4 x5 z0 z1
  have xl := hB.lt
  have zl := hA.lt
  have HW := hide hW
  have HJ := hide hJ
  clear hW hA hB hJ hOw hRo
  go_enter Tryz.func22, Tryz.ntmps22
  go_upto_region 1 with fail
  rw [unhide HW]
  generalize w.heap.size = kb at *
  go_wp2_with fail
  refine (unhide C).mono ?_
  rintro e w1 ⟨rfl, hX⟩
  have RR := hide (PyP.of (PlX.pre (unhide OA) hX))
  clear C hX
  go_wp2_with fail
  go_ret2
  exact unhide RR
set_option maxRecDepth 100000 in
set_option maxHeartbeats 2000000 in
theorem glplay5_any (h : GJ w g t s d m D J rt F T S r sr H) (hR : RgAt w rv l (fun y => y = g ∨ y = t ∨ y = s ∨ F y ∨ H y)) (oa ob oc : Int) (os ot : ByteArray) :
    Calls Tryz.prog 22 #[.agg #[.pointer (some ⟨d, 0, none⟩), .pointer (some ⟨t, 0, none⟩)], .pointer (some ⟨g, 0, none⟩), .pointer (some ⟨m, 0, none⟩), .agg #[.int .i64 5, .int .i64 oa, .int .i64 ob, .int .i64 oc, .string os, .string ot], rv] w (PyP w g t s d m D J rt F T S r sr H 5) := by
  have oA := ((Only.refl (fun _ => False) w).alloc (.cells #[.pointer (some ⟨d, 0, none⟩), .pointer (some ⟨t, 0, none⟩)] 30)).alloc (.cells #[.int .i64 5, .int .i64 oa, .int .i64 ob, .int .i64 oc, .string os, .string ot] 42)
  have oB := (Only.refl (fun _ => False) (w.alloc (.cells #[.pointer (some ⟨d, 0, none⟩), .pointer (some ⟨t, 0, none⟩)] 30))).alloc (.cells #[.int .i64 5, .int .i64 oa, .int .i64 ob, .int .i64 oc, .string os, .string ot] 42)
  have hA := (Has.new w #[.pointer (some ⟨d, 0, none⟩), .pointer (some ⟨t, 0, none⟩)] 30).keep oB (fun h => h)
  have hB := Has.new (w.alloc (.cells #[.pointer (some ⟨d, 0, none⟩), .pointer (some ⟨t, 0, none⟩)] 30)) #[.int .i64 5, .int .i64 oa, .int .i64 ob, .int .i64 oc, .string os, .string ot] 42
  have hsz : (w.alloc (.cells #[.pointer (some ⟨d, 0, none⟩), .pointer (some ⟨t, 0, none⟩)] 30)).heap.size = w.heap.size + 1 := by simp
  rw [hsz] at hB
  have hJ := h.quiet oA
  obtain ⟨ra, rc, rfl⟩ := ownsRow_shape hR.own
  have hRl := hR.len
  have hRo := hR.off
  have hOw := hR.own.keep oA (fun _ _ h => h)
  obtain ⟨once, honce⟩ : ∃ b : Bool, (oc != 0) = b := ⟨_, rfl⟩
  have OA := hide oA
  clear h hR oA oB hsz
  generalize hW : (w.alloc (.cells #[.pointer (some ⟨d, 0, none⟩), .pointer (some ⟨t, 0, none⟩)] 30)).alloc (.cells #[.int .i64 5, .int .i64 oa, .int .i64 ob, .int .i64 oc, .string os, .string ot] 42) = W at *
  have C := hide (gldelBr_any hJ os)
  have x0 := hB.cell 0
  have x1 := hB.cell 1
  have x2 := hB.cell 2
  have x3 := hB.cell 3
  have x4 := hB.cell 4
  have x5 := hB.cell 5
  have z0 := hA.cell 0
  have z1 := hA.cell 1
  simp only [List.getElem?_toArray, List.getElem?_cons_zero, List.getElem?_cons_succ] at x0 x1 x2 x3 x4 x5 z0 z1
  have xl := hB.lt
  have zl := hA.lt
  have HW := hide hW
  have HJ := hide hJ
  clear hW hA hB hJ hOw hRo
  go_enter Tryz.func22, Tryz.ntmps22
  go_upto_region 1 with fail
  rw [unhide HW]
  generalize w.heap.size = kb at *
  go_wp2_with fail
  refine (unhide C).mono ?_
  rintro e w1 ⟨rfl, hX⟩
  have RR := hide (PyP.of (PlX.pre (unhide OA) hX))
  clear C hX
  go_wp2_with fail
  go_ret2
  exact unhide RR
set_option maxRecDepth 100000 in
set_option maxHeartbeats 2000000 in
theorem glplay6_any (h : GJ w g t s d m D J rt F T S r sr H) (hR : RgAt w rv l (fun y => y = g ∨ y = t ∨ y = s ∨ F y ∨ H y)) (oa ob oc : Int) (os ot : ByteArray) :
    Calls Tryz.prog 22 #[.agg #[.pointer (some ⟨d, 0, none⟩), .pointer (some ⟨t, 0, none⟩)], .pointer (some ⟨g, 0, none⟩), .pointer (some ⟨m, 0, none⟩), .agg #[.int .i64 6, .int .i64 oa, .int .i64 ob, .int .i64 oc, .string os, .string ot], rv] w (PyP w g t s d m D J rt F T S r sr H 6) := by
  have oA := ((Only.refl (fun _ => False) w).alloc (.cells #[.pointer (some ⟨d, 0, none⟩), .pointer (some ⟨t, 0, none⟩)] 30)).alloc (.cells #[.int .i64 6, .int .i64 oa, .int .i64 ob, .int .i64 oc, .string os, .string ot] 42)
  have oB := (Only.refl (fun _ => False) (w.alloc (.cells #[.pointer (some ⟨d, 0, none⟩), .pointer (some ⟨t, 0, none⟩)] 30))).alloc (.cells #[.int .i64 6, .int .i64 oa, .int .i64 ob, .int .i64 oc, .string os, .string ot] 42)
  have hA := (Has.new w #[.pointer (some ⟨d, 0, none⟩), .pointer (some ⟨t, 0, none⟩)] 30).keep oB (fun h => h)
  have hB := Has.new (w.alloc (.cells #[.pointer (some ⟨d, 0, none⟩), .pointer (some ⟨t, 0, none⟩)] 30)) #[.int .i64 6, .int .i64 oa, .int .i64 ob, .int .i64 oc, .string os, .string ot] 42
  have hsz : (w.alloc (.cells #[.pointer (some ⟨d, 0, none⟩), .pointer (some ⟨t, 0, none⟩)] 30)).heap.size = w.heap.size + 1 := by simp
  rw [hsz] at hB
  have hJ := h.quiet oA
  obtain ⟨ra, rc, rfl⟩ := ownsRow_shape hR.own
  have hRl := hR.len
  have hRo := hR.off
  have hOw := hR.own.keep oA (fun _ _ h => h)
  obtain ⟨once, honce⟩ : ∃ b : Bool, (oc != 0) = b := ⟨_, rfl⟩
  have OA := hide oA
  clear h hR oA oB hsz
  generalize hW : (w.alloc (.cells #[.pointer (some ⟨d, 0, none⟩), .pointer (some ⟨t, 0, none⟩)] 30)).alloc (.cells #[.int .i64 6, .int .i64 oa, .int .i64 ob, .int .i64 oc, .string os, .string ot] 42) = W at *
  have C := hide (glsetHd_low hJ os oa ob)
  have x0 := hB.cell 0
  have x1 := hB.cell 1
  have x2 := hB.cell 2
  have x3 := hB.cell 3
  have x4 := hB.cell 4
  have x5 := hB.cell 5
  have z0 := hA.cell 0
  have z1 := hA.cell 1
  simp only [List.getElem?_toArray, List.getElem?_cons_zero, List.getElem?_cons_succ] at x0 x1 x2 x3 x4 x5 z0 z1
  have xl := hB.lt
  have zl := hA.lt
  have HW := hide hW
  have HJ := hide hJ
  clear hW hA hB hJ hOw hRo
  go_enter Tryz.func22, Tryz.ntmps22
  go_upto_region 1 with fail
  rw [unhide HW]
  generalize w.heap.size = kb at *
  go_wp2_with fail
  refine (unhide C).mono ?_
  rintro e w1 ⟨rfl, hX⟩
  have RR := hide (PyP.of (PlX.pre (unhide OA) hX))
  clear C hX
  go_wp2_with fail
  go_ret2
  exact unhide RR
set_option maxRecDepth 100000 in
set_option maxHeartbeats 2000000 in
theorem glplay7_any (h : GJ w g t s d m D J rt F T S r sr H) (hR : RgAt w rv l (fun y => y = g ∨ y = t ∨ y = s ∨ F y ∨ H y)) (oa ob oc : Int) (os ot : ByteArray) :
    Calls Tryz.prog 22 #[.agg #[.pointer (some ⟨d, 0, none⟩), .pointer (some ⟨t, 0, none⟩)], .pointer (some ⟨g, 0, none⟩), .pointer (some ⟨m, 0, none⟩), .agg #[.int .i64 7, .int .i64 oa, .int .i64 ob, .int .i64 oc, .string os, .string ot], rv] w (PyP w g t s d m D J rt F T S r sr H 7) := by
  have oA := ((Only.refl (fun _ => False) w).alloc (.cells #[.pointer (some ⟨d, 0, none⟩), .pointer (some ⟨t, 0, none⟩)] 30)).alloc (.cells #[.int .i64 7, .int .i64 oa, .int .i64 ob, .int .i64 oc, .string os, .string ot] 42)
  have oB := (Only.refl (fun _ => False) (w.alloc (.cells #[.pointer (some ⟨d, 0, none⟩), .pointer (some ⟨t, 0, none⟩)] 30))).alloc (.cells #[.int .i64 7, .int .i64 oa, .int .i64 ob, .int .i64 oc, .string os, .string ot] 42)
  have hA := (Has.new w #[.pointer (some ⟨d, 0, none⟩), .pointer (some ⟨t, 0, none⟩)] 30).keep oB (fun h => h)
  have hB := Has.new (w.alloc (.cells #[.pointer (some ⟨d, 0, none⟩), .pointer (some ⟨t, 0, none⟩)] 30)) #[.int .i64 7, .int .i64 oa, .int .i64 ob, .int .i64 oc, .string os, .string ot] 42
  have hsz : (w.alloc (.cells #[.pointer (some ⟨d, 0, none⟩), .pointer (some ⟨t, 0, none⟩)] 30)).heap.size = w.heap.size + 1 := by simp
  rw [hsz] at hB
  have hJ := h.quiet oA
  obtain ⟨ra, rc, rfl⟩ := ownsRow_shape hR.own
  have hRl := hR.len
  have hRo := hR.off
  have hOw := hR.own.keep oA (fun _ _ h => h)
  obtain ⟨once, honce⟩ : ∃ b : Bool, (oc != 0) = b := ⟨_, rfl⟩
  have OA := hide oA
  clear h hR oA oB hsz
  generalize hW : (w.alloc (.cells #[.pointer (some ⟨d, 0, none⟩), .pointer (some ⟨t, 0, none⟩)] 30)).alloc (.cells #[.int .i64 7, .int .i64 oa, .int .i64 ob, .int .i64 oc, .string os, .string ot] 42) = W at *
  have C := hide (glsetAux_any hJ hOw hRl hRo)
  have x0 := hB.cell 0
  have x1 := hB.cell 1
  have x2 := hB.cell 2
  have x3 := hB.cell 3
  have x4 := hB.cell 4
  have x5 := hB.cell 5
  have z0 := hA.cell 0
  have z1 := hA.cell 1
  simp only [List.getElem?_toArray, List.getElem?_cons_zero, List.getElem?_cons_succ] at x0 x1 x2 x3 x4 x5 z0 z1
  have xl := hB.lt
  have zl := hA.lt
  have HW := hide hW
  have HJ := hide hJ
  clear hW hA hB hJ hOw hRo
  go_enter Tryz.func22, Tryz.ntmps22
  go_upto_region 1 with fail
  rw [unhide HW]
  generalize w.heap.size = kb at *
  go_wp2_with fail
  refine (unhide C).mono ?_
  rintro e w1 ⟨full, rfl, hX⟩
  have RR := hide (PyP.of (PlX.pre (unhide OA) hX))
  clear C hX
  go_wp2_with fail
  go_ret2
  exact unhide RR
set_option maxRecDepth 100000 in
set_option maxHeartbeats 2000000 in
theorem glplay8_any (h : GJ w g t s d m D J rt F T S r sr H) (hR : RgAt w rv l (fun y => y = g ∨ y = t ∨ y = s ∨ F y ∨ H y)) (oa ob oc : Int) (os ot : ByteArray) :
    Calls Tryz.prog 22 #[.agg #[.pointer (some ⟨d, 0, none⟩), .pointer (some ⟨t, 0, none⟩)], .pointer (some ⟨g, 0, none⟩), .pointer (some ⟨m, 0, none⟩), .agg #[.int .i64 8, .int .i64 oa, .int .i64 ob, .int .i64 oc, .string os, .string ot], rv] w (PyP w g t s d m D J rt F T S r sr H 8) := by
  have oA := ((Only.refl (fun _ => False) w).alloc (.cells #[.pointer (some ⟨d, 0, none⟩), .pointer (some ⟨t, 0, none⟩)] 30)).alloc (.cells #[.int .i64 8, .int .i64 oa, .int .i64 ob, .int .i64 oc, .string os, .string ot] 42)
  have oB := (Only.refl (fun _ => False) (w.alloc (.cells #[.pointer (some ⟨d, 0, none⟩), .pointer (some ⟨t, 0, none⟩)] 30))).alloc (.cells #[.int .i64 8, .int .i64 oa, .int .i64 ob, .int .i64 oc, .string os, .string ot] 42)
  have hA := (Has.new w #[.pointer (some ⟨d, 0, none⟩), .pointer (some ⟨t, 0, none⟩)] 30).keep oB (fun h => h)
  have hB := Has.new (w.alloc (.cells #[.pointer (some ⟨d, 0, none⟩), .pointer (some ⟨t, 0, none⟩)] 30)) #[.int .i64 8, .int .i64 oa, .int .i64 ob, .int .i64 oc, .string os, .string ot] 42
  have hsz : (w.alloc (.cells #[.pointer (some ⟨d, 0, none⟩), .pointer (some ⟨t, 0, none⟩)] 30)).heap.size = w.heap.size + 1 := by simp
  rw [hsz] at hB
  have hJ := h.quiet oA
  obtain ⟨ra, rc, rfl⟩ := ownsRow_shape hR.own
  have hRl := hR.len
  have hRo := hR.off
  have hOw := hR.own.keep oA (fun _ _ h => h)
  obtain ⟨once, honce⟩ : ∃ b : Bool, (oc != 0) = b := ⟨_, rfl⟩
  have OA := hide oA
  clear h hR oA oB hsz
  generalize hW : (w.alloc (.cells #[.pointer (some ⟨d, 0, none⟩), .pointer (some ⟨t, 0, none⟩)] 30)).alloc (.cells #[.int .i64 8, .int .i64 oa, .int .i64 ob, .int .i64 oc, .string os, .string ot] 42) = W at *
  have C := hide (glsave_any hJ)
  have x0 := hB.cell 0
  have x1 := hB.cell 1
  have x2 := hB.cell 2
  have x3 := hB.cell 3
  have x4 := hB.cell 4
  have x5 := hB.cell 5
  have z0 := hA.cell 0
  have z1 := hA.cell 1
  simp only [List.getElem?_toArray, List.getElem?_cons_zero, List.getElem?_cons_succ] at x0 x1 x2 x3 x4 x5 z0 z1
  have xl := hB.lt
  have zl := hA.lt
  have HW := hide hW
  have HJ := hide hJ
  clear hW hA hB hJ hOw hRo
  go_enter Tryz.func22, Tryz.ntmps22
  go_upto_region 1 with fail
  rw [unhide HW]
  generalize w.heap.size = kb at *
  go_wp2_with fail
  refine (unhide C).mono ?_
  rintro e w1 ⟨full, rfl, hX⟩
  have RR := hide (PyP.of (PlX.pre (unhide OA) hX))
  clear C hX
  go_wp2_with fail
  go_ret2
  exact unhide RR
set_option maxRecDepth 100000 in
set_option maxHeartbeats 2000000 in
theorem glplay9_any (h : GJ w g t s d m D J rt F T S r sr H) (hR : RgAt w rv l (fun y => y = g ∨ y = t ∨ y = s ∨ F y ∨ H y)) (oa ob oc : Int) (os ot : ByteArray) :
    Calls Tryz.prog 22 #[.agg #[.pointer (some ⟨d, 0, none⟩), .pointer (some ⟨t, 0, none⟩)], .pointer (some ⟨g, 0, none⟩), .pointer (some ⟨m, 0, none⟩), .agg #[.int .i64 9, .int .i64 oa, .int .i64 ob, .int .i64 oc, .string os, .string ot], rv] w (PyP w g t s d m D J rt F T S r sr H 9) := by
  have oA := ((Only.refl (fun _ => False) w).alloc (.cells #[.pointer (some ⟨d, 0, none⟩), .pointer (some ⟨t, 0, none⟩)] 30)).alloc (.cells #[.int .i64 9, .int .i64 oa, .int .i64 ob, .int .i64 oc, .string os, .string ot] 42)
  have oB := (Only.refl (fun _ => False) (w.alloc (.cells #[.pointer (some ⟨d, 0, none⟩), .pointer (some ⟨t, 0, none⟩)] 30))).alloc (.cells #[.int .i64 9, .int .i64 oa, .int .i64 ob, .int .i64 oc, .string os, .string ot] 42)
  have hA := (Has.new w #[.pointer (some ⟨d, 0, none⟩), .pointer (some ⟨t, 0, none⟩)] 30).keep oB (fun h => h)
  have hB := Has.new (w.alloc (.cells #[.pointer (some ⟨d, 0, none⟩), .pointer (some ⟨t, 0, none⟩)] 30)) #[.int .i64 9, .int .i64 oa, .int .i64 ob, .int .i64 oc, .string os, .string ot] 42
  have hsz : (w.alloc (.cells #[.pointer (some ⟨d, 0, none⟩), .pointer (some ⟨t, 0, none⟩)] 30)).heap.size = w.heap.size + 1 := by simp
  rw [hsz] at hB
  have hJ := h.quiet oA
  obtain ⟨ra, rc, rfl⟩ := ownsRow_shape hR.own
  have hRl := hR.len
  have hRo := hR.off
  have hOw := hR.own.keep oA (fun _ _ h => h)
  obtain ⟨once, honce⟩ : ∃ b : Bool, (oc != 0) = b := ⟨_, rfl⟩
  have OA := hide oA
  clear h hR oA oB hsz
  generalize hW : (w.alloc (.cells #[.pointer (some ⟨d, 0, none⟩), .pointer (some ⟨t, 0, none⟩)] 30)).alloc (.cells #[.int .i64 9, .int .i64 oa, .int .i64 ob, .int .i64 oc, .string os, .string ot] 42) = W at *
  have C := hide (gabort_any hJ.gr)
  have HM := hide (fun (w1 : World) (ho : Only (fun y => y = g ∨ y = t ∨ y = s ∨ F y) W w1) => habort_any (hJ.mgT ho) hJ.gr.asmS)
  have x0 := hB.cell 0
  have x1 := hB.cell 1
  have x2 := hB.cell 2
  have x3 := hB.cell 3
  have x4 := hB.cell 4
  have x5 := hB.cell 5
  have z0 := hA.cell 0
  have z1 := hA.cell 1
  simp only [List.getElem?_toArray, List.getElem?_cons_zero, List.getElem?_cons_succ] at x0 x1 x2 x3 x4 x5 z0 z1
  have xl := hB.lt
  have zl := hA.lt
  have HW := hide hW
  have HJ := hide hJ
  clear hW hA hB hJ hOw hRo
  go_enter Tryz.func22, Tryz.ntmps22
  go_upto_region 1 with fail
  rw [unhide HW]
  generalize w.heap.size = kb at *
  go_wp2_with fail
  refine (unhide C).mono ?_
  rintro e w1 ⟨rfl, T', hG, ha, hWt⟩
  have C2 := hide (unhide HM w1 hWt.only)
  have HG := hide hG
  have Ha := hide ha
  have HWt := hide hWt
  clear C hG ha hWt HM
  go_wp2_with fail
  refine (unhide C2).mono ?_
  rintro e w2 ⟨rfl, hM, o2⟩
  have hMT : MT w1 w2 m true S sr S sr true H := ⟨hM, o2.mono (fun y _ e => by rw [e]; exact (unhide HJ).mg.hm)⟩
  have RR := hide (PyP.of (PlX.pre (unhide OA) (PlX.abort (unhide HJ) (unhide HG) (unhide Ha) (unhide HWt) hMT)))
  clear C2 hM o2 hMT HG Ha HWt
  go_wp2_with fail
  go_ret2
  exact unhide RR
set_option maxRecDepth 100000 in
set_option maxHeartbeats 2000000 in
theorem glplay10_any (h : GJ w g t s d m D J rt F T S r sr H) (hR : RgAt w rv l (fun y => y = g ∨ y = t ∨ y = s ∨ F y ∨ H y)) (oa ob oc : Int) (os ot : ByteArray) :
    Calls Tryz.prog 22 #[.agg #[.pointer (some ⟨d, 0, none⟩), .pointer (some ⟨t, 0, none⟩)], .pointer (some ⟨g, 0, none⟩), .pointer (some ⟨m, 0, none⟩), .agg #[.int .i64 10, .int .i64 oa, .int .i64 ob, .int .i64 oc, .string os, .string ot], rv] w (PyP w g t s d m D J rt F T S r sr H 10) := by
  have oA := ((Only.refl (fun _ => False) w).alloc (.cells #[.pointer (some ⟨d, 0, none⟩), .pointer (some ⟨t, 0, none⟩)] 30)).alloc (.cells #[.int .i64 10, .int .i64 oa, .int .i64 ob, .int .i64 oc, .string os, .string ot] 42)
  have oB := (Only.refl (fun _ => False) (w.alloc (.cells #[.pointer (some ⟨d, 0, none⟩), .pointer (some ⟨t, 0, none⟩)] 30))).alloc (.cells #[.int .i64 10, .int .i64 oa, .int .i64 ob, .int .i64 oc, .string os, .string ot] 42)
  have hA := (Has.new w #[.pointer (some ⟨d, 0, none⟩), .pointer (some ⟨t, 0, none⟩)] 30).keep oB (fun h => h)
  have hB := Has.new (w.alloc (.cells #[.pointer (some ⟨d, 0, none⟩), .pointer (some ⟨t, 0, none⟩)] 30)) #[.int .i64 10, .int .i64 oa, .int .i64 ob, .int .i64 oc, .string os, .string ot] 42
  have hsz : (w.alloc (.cells #[.pointer (some ⟨d, 0, none⟩), .pointer (some ⟨t, 0, none⟩)] 30)).heap.size = w.heap.size + 1 := by simp
  rw [hsz] at hB
  have hJ := h.quiet oA
  obtain ⟨ra, rc, rfl⟩ := ownsRow_shape hR.own
  have hRl := hR.len
  have hRo := hR.off
  have hOw := hR.own.keep oA (fun _ _ h => h)
  obtain ⟨once, honce⟩ : ∃ b : Bool, (oc != 0) = b := ⟨_, rfl⟩
  have OA := hide oA
  clear h hR oA oB hsz
  generalize hW : (w.alloc (.cells #[.pointer (some ⟨d, 0, none⟩), .pointer (some ⟨t, 0, none⟩)] 30)).alloc (.cells #[.int .i64 10, .int .i64 oa, .int .i64 ob, .int .i64 oc, .string os, .string ot] 42) = W at *
  have C := hide (glBase_any hJ.gr hJ.mg hJ.gr.asm oa ob)
  have x0 := hB.cell 0
  have x1 := hB.cell 1
  have x2 := hB.cell 2
  have x3 := hB.cell 3
  have x4 := hB.cell 4
  have x5 := hB.cell 5
  have z0 := hA.cell 0
  have z1 := hA.cell 1
  simp only [List.getElem?_toArray, List.getElem?_cons_zero, List.getElem?_cons_succ] at x0 x1 x2 x3 x4 x5 z0 z1
  have xl := hB.lt
  have zl := hA.lt
  have HW := hide hW
  have HJ := hide hJ
  clear hW hA hB hJ hOw hRo
  go_enter Tryz.func22, Tryz.ntmps22
  go_upto_region 1 with fail
  rw [unhide HW]
  generalize w.heap.size = kb at *
  go_wp2_with fail
  refine (unhide C).mono ?_
  rintro e w1 ⟨b, rfl, hb, o1⟩
  obtain rfl : b = true := hb.2 (by first | trivial | rfl | exact ⟨rfl, rfl⟩ | exact ⟨rfl, rfl, rfl⟩)
  have RR := hide (PyP.of (PlX.pre (unhide OA) (PlX.look (k := 10) (unhide HJ) (show Only (fun _ => False) W w1 by first | exact o1 | (rw [← o1]; exact Only.refl _ _)) (by decide))))
  clear C hb o1
  go_wp2_with fail
  go_ret2
  exact unhide RR
set_option maxRecDepth 100000 in
set_option maxHeartbeats 2000000 in
theorem glplay11_any (h : GJ w g t s d m D J rt F T S r sr H) (hR : RgAt w rv l (fun y => y = g ∨ y = t ∨ y = s ∨ F y ∨ H y)) (oa ob oc : Int) (os ot : ByteArray) :
    Calls Tryz.prog 22 #[.agg #[.pointer (some ⟨d, 0, none⟩), .pointer (some ⟨t, 0, none⟩)], .pointer (some ⟨g, 0, none⟩), .pointer (some ⟨m, 0, none⟩), .agg #[.int .i64 11, .int .i64 oa, .int .i64 ob, .int .i64 oc, .string os, .string ot], rv] w (PyP w g t s d m D J rt F T S r sr H 11) := by
  have oA := ((Only.refl (fun _ => False) w).alloc (.cells #[.pointer (some ⟨d, 0, none⟩), .pointer (some ⟨t, 0, none⟩)] 30)).alloc (.cells #[.int .i64 11, .int .i64 oa, .int .i64 ob, .int .i64 oc, .string os, .string ot] 42)
  have oB := (Only.refl (fun _ => False) (w.alloc (.cells #[.pointer (some ⟨d, 0, none⟩), .pointer (some ⟨t, 0, none⟩)] 30))).alloc (.cells #[.int .i64 11, .int .i64 oa, .int .i64 ob, .int .i64 oc, .string os, .string ot] 42)
  have hA := (Has.new w #[.pointer (some ⟨d, 0, none⟩), .pointer (some ⟨t, 0, none⟩)] 30).keep oB (fun h => h)
  have hB := Has.new (w.alloc (.cells #[.pointer (some ⟨d, 0, none⟩), .pointer (some ⟨t, 0, none⟩)] 30)) #[.int .i64 11, .int .i64 oa, .int .i64 ob, .int .i64 oc, .string os, .string ot] 42
  have hsz : (w.alloc (.cells #[.pointer (some ⟨d, 0, none⟩), .pointer (some ⟨t, 0, none⟩)] 30)).heap.size = w.heap.size + 1 := by simp
  rw [hsz] at hB
  have hJ := h.quiet oA
  obtain ⟨ra, rc, rfl⟩ := ownsRow_shape hR.own
  have hRl := hR.len
  have hRo := hR.off
  have hOw := hR.own.keep oA (fun _ _ h => h)
  obtain ⟨once, honce⟩ : ∃ b : Bool, (oc != 0) = b := ⟨_, rfl⟩
  have OA := hide oA
  clear h hR oA oB hsz
  generalize hW : (w.alloc (.cells #[.pointer (some ⟨d, 0, none⟩), .pointer (some ⟨t, 0, none⟩)] 30)).alloc (.cells #[.int .i64 11, .int .i64 oa, .int .i64 ob, .int .i64 oc, .string os, .string ot] 42) = W at *
  have C := hide (glLog_any hJ.gr hJ.mg hJ.gr.asm oa once)
  have x0 := hB.cell 0
  have x1 := hB.cell 1
  have x2 := hB.cell 2
  have x3 := hB.cell 3
  have x4 := hB.cell 4
  have x5 := hB.cell 5
  have z0 := hA.cell 0
  have z1 := hA.cell 1
  simp only [List.getElem?_toArray, List.getElem?_cons_zero, List.getElem?_cons_succ] at x0 x1 x2 x3 x4 x5 z0 z1
  have xl := hB.lt
  have zl := hA.lt
  have HW := hide hW
  have HJ := hide hJ
  clear hW hA hB hJ hOw hRo
  go_enter Tryz.func22, Tryz.ntmps22
  go_upto_region 1 with fail
  rw [unhide HW]
  generalize w.heap.size = kb at *
  go_wp2_with fail
  refine (unhide C).mono ?_
  rintro e w1 ⟨b, rfl, hb, o1⟩
  obtain rfl : b = true := hb.2 (by first | trivial | rfl | exact ⟨rfl, rfl⟩ | exact ⟨rfl, rfl, rfl⟩)
  have RR := hide (PyP.of (PlX.pre (unhide OA) (PlX.look (k := 11) (unhide HJ) (show Only (fun _ => False) W w1 by first | exact o1 | (rw [← o1]; exact Only.refl _ _)) (by decide))))
  clear C hb o1
  go_wp2_with fail
  go_ret2
  exact unhide RR
set_option maxRecDepth 100000 in
set_option maxHeartbeats 2000000 in
theorem glplay12_any (h : GJ w g t s d m D J rt F T S r sr H) (hR : RgAt w rv l (fun y => y = g ∨ y = t ∨ y = s ∨ F y ∨ H y)) (oa ob oc : Int) (os ot : ByteArray) :
    Calls Tryz.prog 22 #[.agg #[.pointer (some ⟨d, 0, none⟩), .pointer (some ⟨t, 0, none⟩)], .pointer (some ⟨g, 0, none⟩), .pointer (some ⟨m, 0, none⟩), .agg #[.int .i64 12, .int .i64 oa, .int .i64 ob, .int .i64 oc, .string os, .string ot], rv] w (PyP w g t s d m D J rt F T S r sr H 12) := by
  have oA := ((Only.refl (fun _ => False) w).alloc (.cells #[.pointer (some ⟨d, 0, none⟩), .pointer (some ⟨t, 0, none⟩)] 30)).alloc (.cells #[.int .i64 12, .int .i64 oa, .int .i64 ob, .int .i64 oc, .string os, .string ot] 42)
  have oB := (Only.refl (fun _ => False) (w.alloc (.cells #[.pointer (some ⟨d, 0, none⟩), .pointer (some ⟨t, 0, none⟩)] 30))).alloc (.cells #[.int .i64 12, .int .i64 oa, .int .i64 ob, .int .i64 oc, .string os, .string ot] 42)
  have hA := (Has.new w #[.pointer (some ⟨d, 0, none⟩), .pointer (some ⟨t, 0, none⟩)] 30).keep oB (fun h => h)
  have hB := Has.new (w.alloc (.cells #[.pointer (some ⟨d, 0, none⟩), .pointer (some ⟨t, 0, none⟩)] 30)) #[.int .i64 12, .int .i64 oa, .int .i64 ob, .int .i64 oc, .string os, .string ot] 42
  have hsz : (w.alloc (.cells #[.pointer (some ⟨d, 0, none⟩), .pointer (some ⟨t, 0, none⟩)] 30)).heap.size = w.heap.size + 1 := by simp
  rw [hsz] at hB
  have hJ := h.quiet oA
  obtain ⟨ra, rc, rfl⟩ := ownsRow_shape hR.own
  have hRl := hR.len
  have hRo := hR.off
  have hOw := hR.own.keep oA (fun _ _ h => h)
  obtain ⟨once, honce⟩ : ∃ b : Bool, (oc != 0) = b := ⟨_, rfl⟩
  have OA := hide oA
  clear h hR oA oB hsz
  generalize hW : (w.alloc (.cells #[.pointer (some ⟨d, 0, none⟩), .pointer (some ⟨t, 0, none⟩)] 30)).alloc (.cells #[.int .i64 12, .int .i64 oa, .int .i64 ob, .int .i64 oc, .string os, .string ot] 42) = W at *
  have C := hide (glcoll_any hJ)
  have x0 := hB.cell 0
  have x1 := hB.cell 1
  have x2 := hB.cell 2
  have x3 := hB.cell 3
  have x4 := hB.cell 4
  have x5 := hB.cell 5
  have z0 := hA.cell 0
  have z1 := hA.cell 1
  simp only [List.getElem?_toArray, List.getElem?_cons_zero, List.getElem?_cons_succ] at x0 x1 x2 x3 x4 x5 z0 z1
  have xl := hB.lt
  have zl := hA.lt
  have HW := hide hW
  have HJ := hide hJ
  clear hW hA hB hJ hOw hRo
  go_enter Tryz.func22, Tryz.ntmps22
  go_upto_region 1 with fail
  rw [unhide HW]
  generalize w.heap.size = kb at *
  go_wp2_with fail
  refine (unhide C).mono ?_
  rintro e w1 ⟨full, rfl, hX⟩
  have RR := hide (PyP.of (PlX.pre (unhide OA) hX))
  clear C hX
  go_wp2_with fail
  go_ret2
  exact unhide RR
set_option maxRecDepth 100000 in
set_option maxHeartbeats 2000000 in
theorem glplay14_any (h : GJ w g t s d m D J rt F T S r sr H) (hR : RgAt w rv l (fun y => y = g ∨ y = t ∨ y = s ∨ F y ∨ H y)) (oa ob oc : Int) (os ot : ByteArray) :
    Calls Tryz.prog 22 #[.agg #[.pointer (some ⟨d, 0, none⟩), .pointer (some ⟨t, 0, none⟩)], .pointer (some ⟨g, 0, none⟩), .pointer (some ⟨m, 0, none⟩), .agg #[.int .i64 14, .int .i64 oa, .int .i64 ob, .int .i64 oc, .string os, .string ot], rv] w (PyP w g t s d m D J rt F T S r sr H 14) := by
  have oA := ((Only.refl (fun _ => False) w).alloc (.cells #[.pointer (some ⟨d, 0, none⟩), .pointer (some ⟨t, 0, none⟩)] 30)).alloc (.cells #[.int .i64 14, .int .i64 oa, .int .i64 ob, .int .i64 oc, .string os, .string ot] 42)
  have oB := (Only.refl (fun _ => False) (w.alloc (.cells #[.pointer (some ⟨d, 0, none⟩), .pointer (some ⟨t, 0, none⟩)] 30))).alloc (.cells #[.int .i64 14, .int .i64 oa, .int .i64 ob, .int .i64 oc, .string os, .string ot] 42)
  have hA := (Has.new w #[.pointer (some ⟨d, 0, none⟩), .pointer (some ⟨t, 0, none⟩)] 30).keep oB (fun h => h)
  have hB := Has.new (w.alloc (.cells #[.pointer (some ⟨d, 0, none⟩), .pointer (some ⟨t, 0, none⟩)] 30)) #[.int .i64 14, .int .i64 oa, .int .i64 ob, .int .i64 oc, .string os, .string ot] 42
  have hsz : (w.alloc (.cells #[.pointer (some ⟨d, 0, none⟩), .pointer (some ⟨t, 0, none⟩)] 30)).heap.size = w.heap.size + 1 := by simp
  rw [hsz] at hB
  have hJ := h.quiet oA
  obtain ⟨ra, rc, rfl⟩ := ownsRow_shape hR.own
  have hRl := hR.len
  have hRo := hR.off
  have hOw := hR.own.keep oA (fun _ _ h => h)
  obtain ⟨once, honce⟩ : ∃ b : Bool, (oc != 0) = b := ⟨_, rfl⟩
  have OA := hide oA
  clear h hR oA oB hsz
  generalize hW : (w.alloc (.cells #[.pointer (some ⟨d, 0, none⟩), .pointer (some ⟨t, 0, none⟩)] 30)).alloc (.cells #[.int .i64 14, .int .i64 oa, .int .i64 ob, .int .i64 oc, .string os, .string ot] 42) = W at *
  have C := hide (glSeqs_any hJ.gr hJ.mg hJ.gr.asm once)
  have x0 := hB.cell 0
  have x1 := hB.cell 1
  have x2 := hB.cell 2
  have x3 := hB.cell 3
  have x4 := hB.cell 4
  have x5 := hB.cell 5
  have z0 := hA.cell 0
  have z1 := hA.cell 1
  simp only [List.getElem?_toArray, List.getElem?_cons_zero, List.getElem?_cons_succ] at x0 x1 x2 x3 x4 x5 z0 z1
  have xl := hB.lt
  have zl := hA.lt
  have HW := hide hW
  have HJ := hide hJ
  clear hW hA hB hJ hOw hRo
  go_enter Tryz.func22, Tryz.ntmps22
  go_upto_region 1 with fail
  rw [unhide HW]
  generalize w.heap.size = kb at *
  go_wp2_with fail
  refine (unhide C).mono ?_
  rintro e w1 ⟨b, rfl, hb, o1⟩
  obtain rfl : b = true := hb.2 (by first | trivial | rfl | exact ⟨rfl, rfl⟩ | exact ⟨rfl, rfl, rfl⟩)
  have RR := hide (PyP.of (PlX.pre (unhide OA) (PlX.look (k := 14) (unhide HJ) (show Only (fun _ => False) W w1 by first | exact o1 | (rw [← o1]; exact Only.refl _ _)) (by decide))))
  clear C hb o1
  go_wp2_with fail
  go_ret2
  exact unhide RR
set_option maxRecDepth 100000 in
set_option maxHeartbeats 2000000 in
theorem glplay15_any (h : GJ w g t s d m D J rt F T S r sr H) (hR : RgAt w rv l (fun y => y = g ∨ y = t ∨ y = s ∨ F y ∨ H y)) (oa ob oc : Int) (os ot : ByteArray) :
    Calls Tryz.prog 22 #[.agg #[.pointer (some ⟨d, 0, none⟩), .pointer (some ⟨t, 0, none⟩)], .pointer (some ⟨g, 0, none⟩), .pointer (some ⟨m, 0, none⟩), .agg #[.int .i64 15, .int .i64 oa, .int .i64 ob, .int .i64 oc, .string os, .string ot], rv] w (PyP w g t s d m D J rt F T S r sr H 15) := by
  have oA := ((Only.refl (fun _ => False) w).alloc (.cells #[.pointer (some ⟨d, 0, none⟩), .pointer (some ⟨t, 0, none⟩)] 30)).alloc (.cells #[.int .i64 15, .int .i64 oa, .int .i64 ob, .int .i64 oc, .string os, .string ot] 42)
  have oB := (Only.refl (fun _ => False) (w.alloc (.cells #[.pointer (some ⟨d, 0, none⟩), .pointer (some ⟨t, 0, none⟩)] 30))).alloc (.cells #[.int .i64 15, .int .i64 oa, .int .i64 ob, .int .i64 oc, .string os, .string ot] 42)
  have hA := (Has.new w #[.pointer (some ⟨d, 0, none⟩), .pointer (some ⟨t, 0, none⟩)] 30).keep oB (fun h => h)
  have hB := Has.new (w.alloc (.cells #[.pointer (some ⟨d, 0, none⟩), .pointer (some ⟨t, 0, none⟩)] 30)) #[.int .i64 15, .int .i64 oa, .int .i64 ob, .int .i64 oc, .string os, .string ot] 42
  have hsz : (w.alloc (.cells #[.pointer (some ⟨d, 0, none⟩), .pointer (some ⟨t, 0, none⟩)] 30)).heap.size = w.heap.size + 1 := by simp
  rw [hsz] at hB
  have hJ := h.quiet oA
  obtain ⟨ra, rc, rfl⟩ := ownsRow_shape hR.own
  have hRl := hR.len
  have hRo := hR.off
  have hOw := hR.own.keep oA (fun _ _ h => h)
  obtain ⟨once, honce⟩ : ∃ b : Bool, (oc != 0) = b := ⟨_, rfl⟩
  have OA := hide oA
  clear h hR oA oB hsz
  generalize hW : (w.alloc (.cells #[.pointer (some ⟨d, 0, none⟩), .pointer (some ⟨t, 0, none⟩)] 30)).alloc (.cells #[.int .i64 15, .int .i64 oa, .int .i64 ob, .int .i64 oc, .string os, .string ot] 42) = W at *
  have C := hide (glNext_any hJ.gr hJ.mg)
  have x0 := hB.cell 0
  have x1 := hB.cell 1
  have x2 := hB.cell 2
  have x3 := hB.cell 3
  have x4 := hB.cell 4
  have x5 := hB.cell 5
  have z0 := hA.cell 0
  have z1 := hA.cell 1
  simp only [List.getElem?_toArray, List.getElem?_cons_zero, List.getElem?_cons_succ] at x0 x1 x2 x3 x4 x5 z0 z1
  have xl := hB.lt
  have zl := hA.lt
  have HW := hide hW
  have HJ := hide hJ
  clear hW hA hB hJ hOw hRo
  go_enter Tryz.func22, Tryz.ntmps22
  go_upto_region 1 with fail
  rw [unhide HW]
  generalize w.heap.size = kb at *
  go_wp2_with fail
  refine (unhide C).mono ?_
  rintro e w1 ⟨b, rfl, hb, o1⟩
  obtain rfl : b = true := hb.2 (by first | trivial | rfl | exact ⟨rfl, rfl⟩ | exact ⟨rfl, rfl, rfl⟩)
  have RR := hide (PyP.of (PlX.pre (unhide OA) (PlX.look (k := 15) (unhide HJ) (show Only (fun _ => False) W w1 by first | exact o1 | (rw [← o1]; exact Only.refl _ _)) (by decide))))
  clear C hb o1
  go_wp2_with fail
  go_ret2
  exact unhide RR
set_option maxRecDepth 100000 in
set_option maxHeartbeats 2000000 in
theorem glplay16_any (h : GJ w g t s d m D J rt F T S r sr H) (hR : RgAt w rv l (fun y => y = g ∨ y = t ∨ y = s ∨ F y ∨ H y)) (oa ob oc : Int) (os ot : ByteArray) :
    Calls Tryz.prog 22 #[.agg #[.pointer (some ⟨d, 0, none⟩), .pointer (some ⟨t, 0, none⟩)], .pointer (some ⟨g, 0, none⟩), .pointer (some ⟨m, 0, none⟩), .agg #[.int .i64 16, .int .i64 oa, .int .i64 ob, .int .i64 oc, .string os, .string ot], rv] w (PyP w g t s d m D J rt F T S r sr H 16) := by
  have oA := ((Only.refl (fun _ => False) w).alloc (.cells #[.pointer (some ⟨d, 0, none⟩), .pointer (some ⟨t, 0, none⟩)] 30)).alloc (.cells #[.int .i64 16, .int .i64 oa, .int .i64 ob, .int .i64 oc, .string os, .string ot] 42)
  have oB := (Only.refl (fun _ => False) (w.alloc (.cells #[.pointer (some ⟨d, 0, none⟩), .pointer (some ⟨t, 0, none⟩)] 30))).alloc (.cells #[.int .i64 16, .int .i64 oa, .int .i64 ob, .int .i64 oc, .string os, .string ot] 42)
  have hA := (Has.new w #[.pointer (some ⟨d, 0, none⟩), .pointer (some ⟨t, 0, none⟩)] 30).keep oB (fun h => h)
  have hB := Has.new (w.alloc (.cells #[.pointer (some ⟨d, 0, none⟩), .pointer (some ⟨t, 0, none⟩)] 30)) #[.int .i64 16, .int .i64 oa, .int .i64 ob, .int .i64 oc, .string os, .string ot] 42
  have hsz : (w.alloc (.cells #[.pointer (some ⟨d, 0, none⟩), .pointer (some ⟨t, 0, none⟩)] 30)).heap.size = w.heap.size + 1 := by simp
  rw [hsz] at hB
  have hJ := h.quiet oA
  obtain ⟨ra, rc, rfl⟩ := ownsRow_shape hR.own
  have hRl := hR.len
  have hRo := hR.off
  have hOw := hR.own.keep oA (fun _ _ h => h)
  obtain ⟨once, honce⟩ : ∃ b : Bool, (oc != 0) = b := ⟨_, rfl⟩
  have OA := hide oA
  clear h hR oA oB hsz
  generalize hW : (w.alloc (.cells #[.pointer (some ⟨d, 0, none⟩), .pointer (some ⟨t, 0, none⟩)] 30)).alloc (.cells #[.int .i64 16, .int .i64 oa, .int .i64 ob, .int .i64 oc, .string os, .string ot] 42) = W at *
  have C := hide (glBrs_any hJ.gr hJ.mg hJ.gr.asm once)
  have x0 := hB.cell 0
  have x1 := hB.cell 1
  have x2 := hB.cell 2
  have x3 := hB.cell 3
  have x4 := hB.cell 4
  have x5 := hB.cell 5
  have z0 := hA.cell 0
  have z1 := hA.cell 1
  simp only [List.getElem?_toArray, List.getElem?_cons_zero, List.getElem?_cons_succ] at x0 x1 x2 x3 x4 x5 z0 z1
  have xl := hB.lt
  have zl := hA.lt
  have HW := hide hW
  have HJ := hide hJ
  clear hW hA hB hJ hOw hRo
  go_enter Tryz.func22, Tryz.ntmps22
  go_upto_region 1 with fail
  rw [unhide HW]
  generalize w.heap.size = kb at *
  go_wp2_with fail
  refine (unhide C).mono ?_
  rintro e w1 ⟨b, rfl, hb, o1⟩
  obtain rfl : b = true := hb.2 (by first | trivial | rfl | exact ⟨rfl, rfl⟩ | exact ⟨rfl, rfl, rfl⟩)
  have RR := hide (PyP.of (PlX.pre (unhide OA) (PlX.look (k := 16) (unhide HJ) (show Only (fun _ => False) W w1 by first | exact o1 | (rw [← o1]; exact Only.refl _ _)) (by decide))))
  clear C hb o1
  go_wp2_with fail
  go_ret2
  exact unhide RR
set_option maxRecDepth 100000 in
set_option maxHeartbeats 2000000 in
theorem glplay17_any (h : GJ w g t s d m D J rt F T S r sr H) (hR : RgAt w rv l (fun y => y = g ∨ y = t ∨ y = s ∨ F y ∨ H y)) (oa ob oc : Int) (os ot : ByteArray) :
    Calls Tryz.prog 22 #[.agg #[.pointer (some ⟨d, 0, none⟩), .pointer (some ⟨t, 0, none⟩)], .pointer (some ⟨g, 0, none⟩), .pointer (some ⟨m, 0, none⟩), .agg #[.int .i64 17, .int .i64 oa, .int .i64 ob, .int .i64 oc, .string os, .string ot], rv] w (PyP w g t s d m D J rt F T S r sr H 17) := by
  have oA := ((Only.refl (fun _ => False) w).alloc (.cells #[.pointer (some ⟨d, 0, none⟩), .pointer (some ⟨t, 0, none⟩)] 30)).alloc (.cells #[.int .i64 17, .int .i64 oa, .int .i64 ob, .int .i64 oc, .string os, .string ot] 42)
  have oB := (Only.refl (fun _ => False) (w.alloc (.cells #[.pointer (some ⟨d, 0, none⟩), .pointer (some ⟨t, 0, none⟩)] 30))).alloc (.cells #[.int .i64 17, .int .i64 oa, .int .i64 ob, .int .i64 oc, .string os, .string ot] 42)
  have hA := (Has.new w #[.pointer (some ⟨d, 0, none⟩), .pointer (some ⟨t, 0, none⟩)] 30).keep oB (fun h => h)
  have hB := Has.new (w.alloc (.cells #[.pointer (some ⟨d, 0, none⟩), .pointer (some ⟨t, 0, none⟩)] 30)) #[.int .i64 17, .int .i64 oa, .int .i64 ob, .int .i64 oc, .string os, .string ot] 42
  have hsz : (w.alloc (.cells #[.pointer (some ⟨d, 0, none⟩), .pointer (some ⟨t, 0, none⟩)] 30)).heap.size = w.heap.size + 1 := by simp
  rw [hsz] at hB
  have hJ := h.quiet oA
  obtain ⟨ra, rc, rfl⟩ := ownsRow_shape hR.own
  have hRl := hR.len
  have hRo := hR.off
  have hOw := hR.own.keep oA (fun _ _ h => h)
  obtain ⟨once, honce⟩ : ∃ b : Bool, (oc != 0) = b := ⟨_, rfl⟩
  have OA := hide oA
  clear h hR oA oB hsz
  generalize hW : (w.alloc (.cells #[.pointer (some ⟨d, 0, none⟩), .pointer (some ⟨t, 0, none⟩)] 30)).alloc (.cells #[.int .i64 17, .int .i64 oa, .int .i64 ob, .int .i64 oc, .string os, .string ot] 42) = W at *
  have C := hide (glHead_any hJ.gr hJ.mg)
  have x0 := hB.cell 0
  have x1 := hB.cell 1
  have x2 := hB.cell 2
  have x3 := hB.cell 3
  have x4 := hB.cell 4
  have x5 := hB.cell 5
  have z0 := hA.cell 0
  have z1 := hA.cell 1
  simp only [List.getElem?_toArray, List.getElem?_cons_zero, List.getElem?_cons_succ] at x0 x1 x2 x3 x4 x5 z0 z1
  have xl := hB.lt
  have zl := hA.lt
  have HW := hide hW
  have HJ := hide hJ
  clear hW hA hB hJ hOw hRo
  go_enter Tryz.func22, Tryz.ntmps22
  go_upto_region 1 with fail
  rw [unhide HW]
  generalize w.heap.size = kb at *
  go_wp2_with fail
  refine (unhide C).mono ?_
  rintro e w1 ⟨b, rfl, hb, o1⟩
  obtain rfl : b = true := hb.2 (by first | trivial | rfl | exact ⟨rfl, rfl⟩ | exact ⟨rfl, rfl, rfl⟩)
  have RR := hide (PyP.of (PlX.pre (unhide OA) (PlX.look (k := 17) (unhide HJ) (show Only (fun _ => False) W w1 by first | exact o1 | (rw [← o1]; exact Only.refl _ _)) (by decide))))
  clear C hb o1
  go_wp2_with fail
  go_ret2
  exact unhide RR
set_option maxRecDepth 100000 in
set_option maxHeartbeats 2000000 in
theorem glplay18_any (h : GJ w g t s d m D J rt F T S r sr H) (hR : RgAt w rv l (fun y => y = g ∨ y = t ∨ y = s ∨ F y ∨ H y)) (oa ob oc : Int) (os ot : ByteArray) :
    Calls Tryz.prog 22 #[.agg #[.pointer (some ⟨d, 0, none⟩), .pointer (some ⟨t, 0, none⟩)], .pointer (some ⟨g, 0, none⟩), .pointer (some ⟨m, 0, none⟩), .agg #[.int .i64 18, .int .i64 oa, .int .i64 ob, .int .i64 oc, .string os, .string ot], rv] w (PyP w g t s d m D J rt F T S r sr H 18) := by
  have oA := ((Only.refl (fun _ => False) w).alloc (.cells #[.pointer (some ⟨d, 0, none⟩), .pointer (some ⟨t, 0, none⟩)] 30)).alloc (.cells #[.int .i64 18, .int .i64 oa, .int .i64 ob, .int .i64 oc, .string os, .string ot] 42)
  have oB := (Only.refl (fun _ => False) (w.alloc (.cells #[.pointer (some ⟨d, 0, none⟩), .pointer (some ⟨t, 0, none⟩)] 30))).alloc (.cells #[.int .i64 18, .int .i64 oa, .int .i64 ob, .int .i64 oc, .string os, .string ot] 42)
  have hA := (Has.new w #[.pointer (some ⟨d, 0, none⟩), .pointer (some ⟨t, 0, none⟩)] 30).keep oB (fun h => h)
  have hB := Has.new (w.alloc (.cells #[.pointer (some ⟨d, 0, none⟩), .pointer (some ⟨t, 0, none⟩)] 30)) #[.int .i64 18, .int .i64 oa, .int .i64 ob, .int .i64 oc, .string os, .string ot] 42
  have hsz : (w.alloc (.cells #[.pointer (some ⟨d, 0, none⟩), .pointer (some ⟨t, 0, none⟩)] 30)).heap.size = w.heap.size + 1 := by simp
  rw [hsz] at hB
  have hJ := h.quiet oA
  obtain ⟨ra, rc, rfl⟩ := ownsRow_shape hR.own
  have hRl := hR.len
  have hRo := hR.off
  have hOw := hR.own.keep oA (fun _ _ h => h)
  obtain ⟨once, honce⟩ : ∃ b : Bool, (oc != 0) = b := ⟨_, rfl⟩
  have OA := hide oA
  clear h hR oA oB hsz
  generalize hW : (w.alloc (.cells #[.pointer (some ⟨d, 0, none⟩), .pointer (some ⟨t, 0, none⟩)] 30)).alloc (.cells #[.int .i64 18, .int .i64 oa, .int .i64 ob, .int .i64 oc, .string os, .string ot] 42) = W at *
  have C := hide (glAux_any hJ.gr hJ.mg hJ.gr.asm once)
  have x0 := hB.cell 0
  have x1 := hB.cell 1
  have x2 := hB.cell 2
  have x3 := hB.cell 3
  have x4 := hB.cell 4
  have x5 := hB.cell 5
  have z0 := hA.cell 0
  have z1 := hA.cell 1
  simp only [List.getElem?_toArray, List.getElem?_cons_zero, List.getElem?_cons_succ] at x0 x1 x2 x3 x4 x5 z0 z1
  have xl := hB.lt
  have zl := hA.lt
  have HW := hide hW
  have HJ := hide hJ
  clear hW hA hB hJ hOw hRo
  go_enter Tryz.func22, Tryz.ntmps22
  go_upto_region 1 with fail
  rw [unhide HW]
  generalize w.heap.size = kb at *
  go_wp2_with fail
  refine (unhide C).mono ?_
  rintro e w1 ⟨b, rfl, hb, o1⟩
  obtain rfl : b = true := hb.2 (by first | trivial | rfl | exact ⟨rfl, rfl⟩ | exact ⟨rfl, rfl, rfl⟩)
  have RR := hide (PyP.of (PlX.pre (unhide OA) (PlX.look (k := 18) (unhide HJ) (show Only (fun _ => False) W w1 by first | exact o1 | (rw [← o1]; exact Only.refl _ _)) (by decide))))
  clear C hb o1
  go_wp2_with fail
  go_ret2
  exact unhide RR
set_option maxRecDepth 100000 in
set_option maxHeartbeats 2000000 in
theorem glplay19_any (h : GJ w g t s d m D J rt F T S r sr H) (hR : RgAt w rv l (fun y => y = g ∨ y = t ∨ y = s ∨ F y ∨ H y)) (oa ob oc : Int) (os ot : ByteArray) :
    Calls Tryz.prog 22 #[.agg #[.pointer (some ⟨d, 0, none⟩), .pointer (some ⟨t, 0, none⟩)], .pointer (some ⟨g, 0, none⟩), .pointer (some ⟨m, 0, none⟩), .agg #[.int .i64 19, .int .i64 oa, .int .i64 ob, .int .i64 oc, .string os, .string ot], rv] w (PyP w g t s d m D J rt F T S r sr H 19) := by
  have oA := ((Only.refl (fun _ => False) w).alloc (.cells #[.pointer (some ⟨d, 0, none⟩), .pointer (some ⟨t, 0, none⟩)] 30)).alloc (.cells #[.int .i64 19, .int .i64 oa, .int .i64 ob, .int .i64 oc, .string os, .string ot] 42)
  have oB := (Only.refl (fun _ => False) (w.alloc (.cells #[.pointer (some ⟨d, 0, none⟩), .pointer (some ⟨t, 0, none⟩)] 30))).alloc (.cells #[.int .i64 19, .int .i64 oa, .int .i64 ob, .int .i64 oc, .string os, .string ot] 42)
  have hA := (Has.new w #[.pointer (some ⟨d, 0, none⟩), .pointer (some ⟨t, 0, none⟩)] 30).keep oB (fun h => h)
  have hB := Has.new (w.alloc (.cells #[.pointer (some ⟨d, 0, none⟩), .pointer (some ⟨t, 0, none⟩)] 30)) #[.int .i64 19, .int .i64 oa, .int .i64 ob, .int .i64 oc, .string os, .string ot] 42
  have hsz : (w.alloc (.cells #[.pointer (some ⟨d, 0, none⟩), .pointer (some ⟨t, 0, none⟩)] 30)).heap.size = w.heap.size + 1 := by simp
  rw [hsz] at hB
  have hJ := h.quiet oA
  obtain ⟨ra, rc, rfl⟩ := ownsRow_shape hR.own
  have hRl := hR.len
  have hRo := hR.off
  have hOw := hR.own.keep oA (fun _ _ h => h)
  obtain ⟨once, honce⟩ : ∃ b : Bool, (oc != 0) = b := ⟨_, rfl⟩
  have OA := hide oA
  clear h hR oA oB hsz
  generalize hW : (w.alloc (.cells #[.pointer (some ⟨d, 0, none⟩), .pointer (some ⟨t, 0, none⟩)] 30)).alloc (.cells #[.int .i64 19, .int .i64 oa, .int .i64 ob, .int .i64 oc, .string os, .string ot] 42) = W at *
  have C := hide (glRoomIs_any hJ.gr d)
  have x0 := hB.cell 0
  have x1 := hB.cell 1
  have x2 := hB.cell 2
  have x3 := hB.cell 3
  have x4 := hB.cell 4
  have x5 := hB.cell 5
  have z0 := hA.cell 0
  have z1 := hA.cell 1
  simp only [List.getElem?_toArray, List.getElem?_cons_zero, List.getElem?_cons_succ] at x0 x1 x2 x3 x4 x5 z0 z1
  have xl := hB.lt
  have zl := hA.lt
  have HW := hide hW
  have HJ := hide hJ
  clear hW hA hB hJ hOw hRo
  go_enter Tryz.func22, Tryz.ntmps22
  go_upto_region 1 with fail
  rw [unhide HW]
  generalize w.heap.size = kb at *
  go_wp2_with fail
  refine (unhide C).mono ?_
  rintro e w1 ⟨rfl, o1⟩
  have RR := hide (PyP.of (PlX.pre (unhide OA) (PlX.look (k := 19) (unhide HJ) o1 (by decide))))
  clear C o1
  go_wp2_with fail
  go_ret2
  exact unhide RR
set_option maxRecDepth 100000 in
set_option maxHeartbeats 2000000 in
theorem glplay20_any (h : GJ w g t s d m D J rt F T S r sr H) (hR : RgAt w rv l (fun y => y = g ∨ y = t ∨ y = s ∨ F y ∨ H y)) (oa ob oc : Int) (os ot : ByteArray) :
    Calls Tryz.prog 22 #[.agg #[.pointer (some ⟨d, 0, none⟩), .pointer (some ⟨t, 0, none⟩)], .pointer (some ⟨g, 0, none⟩), .pointer (some ⟨m, 0, none⟩), .agg #[.int .i64 20, .int .i64 oa, .int .i64 ob, .int .i64 oc, .string os, .string ot], rv] w (PyP w g t s d m D J rt F T S r sr H 20) := by
  have oA := ((Only.refl (fun _ => False) w).alloc (.cells #[.pointer (some ⟨d, 0, none⟩), .pointer (some ⟨t, 0, none⟩)] 30)).alloc (.cells #[.int .i64 20, .int .i64 oa, .int .i64 ob, .int .i64 oc, .string os, .string ot] 42)
  have oB := (Only.refl (fun _ => False) (w.alloc (.cells #[.pointer (some ⟨d, 0, none⟩), .pointer (some ⟨t, 0, none⟩)] 30))).alloc (.cells #[.int .i64 20, .int .i64 oa, .int .i64 ob, .int .i64 oc, .string os, .string ot] 42)
  have hA := (Has.new w #[.pointer (some ⟨d, 0, none⟩), .pointer (some ⟨t, 0, none⟩)] 30).keep oB (fun h => h)
  have hB := Has.new (w.alloc (.cells #[.pointer (some ⟨d, 0, none⟩), .pointer (some ⟨t, 0, none⟩)] 30)) #[.int .i64 20, .int .i64 oa, .int .i64 ob, .int .i64 oc, .string os, .string ot] 42
  have hsz : (w.alloc (.cells #[.pointer (some ⟨d, 0, none⟩), .pointer (some ⟨t, 0, none⟩)] 30)).heap.size = w.heap.size + 1 := by simp
  rw [hsz] at hB
  have hJ := h.quiet oA
  obtain ⟨ra, rc, rfl⟩ := ownsRow_shape hR.own
  have hRl := hR.len
  have hRo := hR.off
  have hOw := hR.own.keep oA (fun _ _ h => h)
  obtain ⟨once, honce⟩ : ∃ b : Bool, (oc != 0) = b := ⟨_, rfl⟩
  have OA := hide oA
  clear h hR oA oB hsz
  generalize hW : (w.alloc (.cells #[.pointer (some ⟨d, 0, none⟩), .pointer (some ⟨t, 0, none⟩)] 30)).alloc (.cells #[.int .i64 20, .int .i64 oa, .int .i64 ob, .int .i64 oc, .string os, .string ot] 42) = W at *
  have C := hide (gchk_any hJ.gr)
  have x0 := hB.cell 0
  have x1 := hB.cell 1
  have x2 := hB.cell 2
  have x3 := hB.cell 3
  have x4 := hB.cell 4
  have x5 := hB.cell 5
  have z0 := hA.cell 0
  have z1 := hA.cell 1
  simp only [List.getElem?_toArray, List.getElem?_cons_zero, List.getElem?_cons_succ] at x0 x1 x2 x3 x4 x5 z0 z1
  have xl := hB.lt
  have zl := hA.lt
  have HW := hide hW
  have HJ := hide hJ
  clear hW hA hB hJ hOw hRo
  go_enter Tryz.func22, Tryz.ntmps22
  go_upto_region 1 with fail
  rw [unhide HW]
  generalize w.heap.size = kb at *
  go_wp2_with fail
  refine (unhide C).mono ?_
  rintro e w1 ⟨rfl, o1⟩
  have RR := hide (PyP.of (PlX.pre (unhide OA) (PlX.look (k := 20) (unhide HJ) o1 (by decide))))
  clear C o1
  go_wp2_with fail
  go_ret2
  exact unhide RR
set_option maxRecDepth 100000 in
set_option maxHeartbeats 2000000 in
theorem glplayN_any (h : GJ w g t s d m D J rt F T S r sr H) (hR : RgAt w rv l (fun y => y = g ∨ y = t ∨ y = s ∨ F y ∨ H y)) (ok : Int) (n2 : ok ≠ 2) (n3 : ok ≠ 3) (n4 : ok ≠ 4) (n5 : ok ≠ 5) (n6 : ok ≠ 6) (n7 : ok ≠ 7) (n8 : ok ≠ 8) (n9 : ok ≠ 9) (n10 : ok ≠ 10) (n11 : ok ≠ 11) (n12 : ok ≠ 12) (n14 : ok ≠ 14) (n15 : ok ≠ 15) (n16 : ok ≠ 16) (n17 : ok ≠ 17) (n18 : ok ≠ 18) (n19 : ok ≠ 19) (n20 : ok ≠ 20) (oa ob oc : Int) (os ot : ByteArray) :
    Calls Tryz.prog 22 #[.agg #[.pointer (some ⟨d, 0, none⟩), .pointer (some ⟨t, 0, none⟩)], .pointer (some ⟨g, 0, none⟩), .pointer (some ⟨m, 0, none⟩), .agg #[.int .i64 ok, .int .i64 oa, .int .i64 ob, .int .i64 oc, .string os, .string ot], rv] w (PyP w g t s d m D J rt F T S r sr H ok) := by
  have oA := ((Only.refl (fun _ => False) w).alloc (.cells #[.pointer (some ⟨d, 0, none⟩), .pointer (some ⟨t, 0, none⟩)] 30)).alloc (.cells #[.int .i64 ok, .int .i64 oa, .int .i64 ob, .int .i64 oc, .string os, .string ot] 42)
  have oB := (Only.refl (fun _ => False) (w.alloc (.cells #[.pointer (some ⟨d, 0, none⟩), .pointer (some ⟨t, 0, none⟩)] 30))).alloc (.cells #[.int .i64 ok, .int .i64 oa, .int .i64 ob, .int .i64 oc, .string os, .string ot] 42)
  have hA := (Has.new w #[.pointer (some ⟨d, 0, none⟩), .pointer (some ⟨t, 0, none⟩)] 30).keep oB (fun h => h)
  have hB := Has.new (w.alloc (.cells #[.pointer (some ⟨d, 0, none⟩), .pointer (some ⟨t, 0, none⟩)] 30)) #[.int .i64 ok, .int .i64 oa, .int .i64 ob, .int .i64 oc, .string os, .string ot] 42
  have hsz : (w.alloc (.cells #[.pointer (some ⟨d, 0, none⟩), .pointer (some ⟨t, 0, none⟩)] 30)).heap.size = w.heap.size + 1 := by simp
  rw [hsz] at hB
  have hJ := h.quiet oA
  obtain ⟨ra, rc, rfl⟩ := ownsRow_shape hR.own
  have hRl := hR.len
  have hRo := hR.off
  have hOw := hR.own.keep oA (fun _ _ h => h)
  obtain ⟨once, honce⟩ : ∃ b : Bool, (oc != 0) = b := ⟨_, rfl⟩
  have OA := hide oA
  clear h hR oA oB hsz
  generalize hW : (w.alloc (.cells #[.pointer (some ⟨d, 0, none⟩), .pointer (some ⟨t, 0, none⟩)] 30)).alloc (.cells #[.int .i64 ok, .int .i64 oa, .int .i64 ob, .int .i64 oc, .string os, .string ot] 42) = W at *
  have e2 : (ok == 2) = false := ne_intO n2
  have e3 : (ok == 3) = false := ne_intO n3
  have e4 : (ok == 4) = false := ne_intO n4
  have e5 : (ok == 5) = false := ne_intO n5
  have e6 : (ok == 6) = false := ne_intO n6
  have e7 : (ok == 7) = false := ne_intO n7
  have e8 : (ok == 8) = false := ne_intO n8
  have e9 : (ok == 9) = false := ne_intO n9
  have e10 : (ok == 10) = false := ne_intO n10
  have e11 : (ok == 11) = false := ne_intO n11
  have e12 : (ok == 12) = false := ne_intO n12
  have e14 : (ok == 14) = false := ne_intO n14
  have e15 : (ok == 15) = false := ne_intO n15
  have e16 : (ok == 16) = false := ne_intO n16
  have e17 : (ok == 17) = false := ne_intO n17
  have e18 : (ok == 18) = false := ne_intO n18
  have e19 : (ok == 19) = false := ne_intO n19
  have e20 : (ok == 20) = false := ne_intO n20
  have x0 := hB.cell 0
  have x1 := hB.cell 1
  have x2 := hB.cell 2
  have x3 := hB.cell 3
  have x4 := hB.cell 4
  have x5 := hB.cell 5
  have z0 := hA.cell 0
  have z1 := hA.cell 1
  simp only [List.getElem?_toArray, List.getElem?_cons_zero, List.getElem?_cons_succ] at x0 x1 x2 x3 x4 x5 z0 z1
  have xl := hB.lt
  have zl := hA.lt
  have HW := hide hW
  have HJ := hide hJ
  clear hW hA hB hJ hOw hRo
  have RR := hide (PyP.of (PlX.pre (unhide OA) (PlX.look (k := ok) (unhide HJ) (Only.refl _ _) (by unfold chgK; rw [e2, e4, e5, e6, e7, e8, e9, e12]; rfl))))
  go_enter Tryz.func22, Tryz.ntmps22
  go_upto_region 1 with fail
  rw [unhide HW]
  generalize w.heap.size = kb at *
  go_wp2_with fail
  go_ret2
  exact unhide RR
/-- Play, whatever the step. -/
theorem glplay_any (h : GJ w g t s d m D J rt F T S r sr H) (hR : RgAt w rv l (fun y => y = g ∨ y = t ∨ y = s ∨ F y ∨ H y)) (ok oa ob oc : Int) (os ot : ByteArray) :
    Calls Tryz.prog 22 #[.agg #[.pointer (some ⟨d, 0, none⟩), .pointer (some ⟨t, 0, none⟩)], .pointer (some ⟨g, 0, none⟩), .pointer (some ⟨m, 0, none⟩), .agg #[.int .i64 ok, .int .i64 oa, .int .i64 ob, .int .i64 oc, .string os, .string ot], rv] w (PyP w g t s d m D J rt F T S r sr H ok) := by
  by_cases n2 : ok = 2
  · subst n2; exact glplay2_any h hR oa ob oc os ot
  by_cases n3 : ok = 3
  · subst n3; exact glplay3_any h hR oa ob oc os ot
  by_cases n4 : ok = 4
  · subst n4; exact glplay4_any h hR oa ob oc os ot
  by_cases n5 : ok = 5
  · subst n5; exact glplay5_any h hR oa ob oc os ot
  by_cases n6 : ok = 6
  · subst n6; exact glplay6_any h hR oa ob oc os ot
  by_cases n7 : ok = 7
  · subst n7; exact glplay7_any h hR oa ob oc os ot
  by_cases n8 : ok = 8
  · subst n8; exact glplay8_any h hR oa ob oc os ot
  by_cases n9 : ok = 9
  · subst n9; exact glplay9_any h hR oa ob oc os ot
  by_cases n10 : ok = 10
  · subst n10; exact glplay10_any h hR oa ob oc os ot
  by_cases n11 : ok = 11
  · subst n11; exact glplay11_any h hR oa ob oc os ot
  by_cases n12 : ok = 12
  · subst n12; exact glplay12_any h hR oa ob oc os ot
  by_cases n14 : ok = 14
  · subst n14; exact glplay14_any h hR oa ob oc os ot
  by_cases n15 : ok = 15
  · subst n15; exact glplay15_any h hR oa ob oc os ot
  by_cases n16 : ok = 16
  · subst n16; exact glplay16_any h hR oa ob oc os ot
  by_cases n17 : ok = 17
  · subst n17; exact glplay17_any h hR oa ob oc os ot
  by_cases n18 : ok = 18
  · subst n18; exact glplay18_any h hR oa ob oc os ot
  by_cases n19 : ok = 19
  · subst n19; exact glplay19_any h hR oa ob oc os ot
  by_cases n20 : ok = 20
  · subst n20; exact glplay20_any h hR oa ob oc os ot
  exact glplayN_any h hR ok n2 n3 n4 n5 n6 n7 n8 n9 n10 n11 n12 n14 n15 n16 n17 n18 n19 n20 oa ob oc os ot
end
end Go.Proofs.Qxb6500417aGreat
