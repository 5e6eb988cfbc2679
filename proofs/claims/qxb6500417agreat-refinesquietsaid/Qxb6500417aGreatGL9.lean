/-
  OWN WORK. THE GRAPH LAW: SameSetAux, SameCommit, walked (written by tools/gen_gl9.py).
-/
import Derived.Test.Qxb6500417aGreatGL8
namespace Go.Proofs.Qxb6500417aGreat
open Go.RowKit Go.PlainAid
set_option linter.unusedSimpArgs false
set_option linter.unusedVariables false

theorem cost_small {l : List Fl} : costA l ≤ 10000 ∨ checkF l ≠ 0 := by
  by_cases hc : checkF l = 0
  · left
    have h1 := dirsF_len l (fun f hff => by have := checkF_path hc f hff; omega)
    have : costA l = l.length + (dirsF l).length := rfl
    have := (checkF_parts hc).1
    omega
  · exact .inr hc
section
variable {w w' w1 w2 w4 w5 : World} {g t s d m : Nat} {D : Nat → Nat} {J : Nat → Sl} {rt : Nat} {F : Nat → Prop} {T : Gt} {S : GA} {r sr : Int} {H : Nat → Prop} {k : Int} {full : Bool}
theorem GJ.lt (h : GJ w g t s d m D J rt F T S r sr H) : ∀ y, y = g ∨ y = t ∨ y = s ∨ F y ∨ H y → y < w.heap.size := fun y hy => by
  obtain ⟨t1, t2, t3⟩ := h.gr.ts.ts_lt
  have := h.gr.gh.lt
  rcases hy with e | e | e | e | e
  · omega
  · omega
  · omega
  · exact t3 y e
  · exact h.mg.inn y e
/-- Blocks that were made ahead of a step are spoilt behind it. -/
theorem PlX.spoil (hJ : GJ w g t s d m D J rt F T S r sr H) (ho1 : Only (fun _ => False) w w1) (h : PlX w1 w4 g t s d m D J rt F T S r sr H k full) {Q : Nat → Prop} (hQ : ∀ y, Q y → w.heap.size ≤ y ∧ (y < w1.heap.size ∨ w4.heap.size ≤ y)) (ho : Only Q w4 w5) : PlX w w5 g t s d m D J rt F T S r sr H k full := by
  obtain ⟨J', rt', R, F', T', S', A', r', S2, sr', H', hp⟩ := h
  have hl := hJ.lt
  have hs := ho1.size
  obtain ⟨hz, hmg⟩ := hp.mg
  obtain ⟨t1, t2, t3⟩ := hp.gr.ts.ts_lt
  have hgl := hp.gr.gh.lt
  have hH := hmg.inn
  have key : ∀ y, F' y ∨ H' y ∨ y = g ∨ y = t ∨ y = s → ¬ Q y := fun y hy hq => by
    have h1 := hQ y hq
    have hb : ∀ e : F' y ∨ H' y, False := fun e => by
      rcases hp.fp y e with e1 | e1 | e1
      · have := hl y (.inr (.inr (.inr (.inl e1)))); omega
      · have := hl y (.inr (.inr (.inr (.inr e1)))); omega
      · rcases h1.2 with h2 | h2
        · omega
        · rcases e with e | e
          · have := t3 y e; omega
          · have := hH y e; omega
    rcases hy with e | e | e | e | e
    · exact hb (.inl e)
    · exact hb (.inr e)
    · have := hl y (.inl e); omega
    · have := hl y (.inr (.inl e)); omega
    · have := hl y (.inr (.inr (.inl e))); omega
  refine ⟨J', rt', R, F', T', S', A', r', S2, sr', H', hp.gr.keep ho (fun y hy => key y ?_), ⟨hz, hmg.keep ho (fun y hy => key y (.inr (.inl hy)))⟩, fun y hy => (hp.fp y hy).imp id (fun e => e.imp id (fun e => by omega)), hp.off, hp.cuts, hp.keys, hp.len, hp.still, ((ho1.mono (T := fun y => y = g ∨ y = t ∨ y = s ∨ F y ∨ H y) (fun _ _ h => h.elim)).trans hp.only (fun _ _ h => h)).trans ho (fun y hy e => by have := hQ y e; omega), hp.bd, hp.rb, hp.ok, hp.no, hp.look⟩
  rcases hy with e | e | e | e
  · exact .inr (.inr (.inl e))
  · exact .inr (.inr (.inr (.inl e)))
  · exact .inr (.inr (.inr (.inr e)))
  · exact .inl e
set_option maxRecDepth 100000 in
set_option maxHeartbeats 4000000 in
theorem glsetAux_any (h : GJ w g t s d m D J rt F T S r sr H) {rv : Value} {l : List Fl} (hr : OwnF w rv l) (hrl : l.length ≤ 9) (hro : ∀ y, rv.ownBlock = some y → ¬ (y = g ∨ y = t ∨ y = s ∨ F y ∨ H y)) :
    Calls Tryz.prog 51 #[.pointer (some ⟨g, 0, none⟩), .pointer (some ⟨m, 0, none⟩), rv] w fun e w' => ∃ full : Bool, e = .returned (.tuple #[.bool true, .bool full]) ∧ PlX w w' g t s d m D J rt F T S r sr H 7 full := by
  have hlt := h.lt
  have C1 := hide (copyFiles_any rv l hr.in_ (by omega))
  have HJ := hide h
  have HR := hide hr
  have Hlt := hide hlt
  have Hro := hide hro
  have hrb := h.rb
  obtain ⟨ra, rc, rfl⟩ := ownsRow_shape hr
  clear h hr hro hlt
  go_enter Tryz.func51, Tryz.ntmps51
  go_wp2_with fail
  refine (unhide C1).mono ?_
  rintro e w1 ⟨v1, rfl, f1, b1, o1⟩
  have C2 := hide (copyFiles_any (.slice ra l.length rc) l ((unhide HR).keep o1 (fun _ _ h => h)).in_ (by omega))
  have F1 := hide f1
  have B1 := hide b1
  have O1 := hide o1
  obtain ⟨fa1, fc1, rfl⟩ := ownsRow_shape f1
  clear C1 f1 b1 o1
  go_wp2_with fail
  refine (unhide C2).mono ?_
  rintro e w2 ⟨v2, rfl, f2, b2, o2⟩
  have o02 := (unhide O1).trans o2 (fun _ _ h => h)
  have hJ2 := (unhide HJ).quiet o02
  have s01 := (unhide O1).size
  have s12 := o2.size
  have F12 := (unhide F1).keep o2 (fun _ _ h => h)
  have L1 : Hid (∀ y, (Value.slice fa1 l.length fc1).ownBlock = some y → w.heap.size ≤ y ∧ y < w2.heap.size) := hide (fun y hy => ⟨unhide B1 y hy, ownsRow_lt F12 y hy⟩)
  have L2 : Hid (∀ y, v2.ownBlock = some y → w.heap.size ≤ y ∧ y < w2.heap.size) := hide (fun y hy => ⟨by have := b2 y hy; omega, ownsRow_lt f2 y hy⟩)
  have C3 := hide (gsetAux_any hJ2.gr (.slice fa1 l.length fc1) F12.in_ (fun y hy => by
    have h1 := unhide L1 y hy
    refine ⟨fun e => ?_, fun e => ?_, fun e => ?_, fun e => ?_⟩
    · have := unhide Hlt y (.inr (.inl e)); omega
    · have := unhide Hlt y (.inr (.inr (.inl e))); omega
    · have := unhide Hlt y (.inr (.inr (.inr (.inl e)))); omega
    · have := unhide Hlt y (.inl e); omega) (by simp))
  have HJ2 := hide hJ2
  have HF1 := hide F12
  have HF2 := hide f2
  have HR2 := hide ((unhide HR).keep o02 (fun _ _ h => h))
  have O2 := hide o02
  obtain ⟨fa2, fc2, rfl⟩ := ownsRow_shape f2
  clear C2 f2 b2 o2 o02 hJ2 F12 F1 B1 O1 HR
  go_wp2_with fail
  refine (unhide C3).mono ?_
  rintro e w3 ⟨en, rfl, hS⟩
  have hO3 : Only (fun y => y = g ∨ y = t ∨ y = s ∨ F y) w2 w3 := by
    obtain ⟨_, _, _, _, hW, _⟩ := hS.ex
    exact hW.only
  have nG : ∀ y, w.heap.size ≤ y → ¬ (y = g ∨ y = t ∨ y = s ∨ F y) := fun y hy e => by
    have := unhide Hlt y (by rcases e with e | e | e | e; exact .inl e; exact .inr (.inl e); exact .inr (.inr (.inl e)); exact .inr (.inr (.inr (.inl e))))
    omega
  have F13 := (unhide HF1).keep hO3 (fun y hy e => nG y (unhide L1 y hy).1 e)
  have F23 := (unhide HF2).keep hO3 (fun y hy e => nG y (unhide L2 y hy).1 e)
  have R3 := (unhide HR2).keep hO3 (fun y hy e => unhide Hro y hy (by rcases e with e | e | e | e; exact .inl e; exact .inr (.inl e); exact .inr (.inr (.inl e)); exact .inr (.inr (.inr (.inl e)))))
  have mg3 := (unhide HJ2).mgT hO3
  have C4 := hide (hsetAux_any mg3 F23.in_ (fun y hy e => by have := unhide L2 y hy; have := unhide Hlt y (.inr (.inr (.inr (.inr e)))); omega) (by omega) (by omega))
  have HS := hide hS
  have HF13 := hide F13
  have HR3 := hide R3
  clear C3 hS hO3 F13 F23 R3 mg3 nG HF1 HF2 HR2
  go_wp2_with fail
  refine (unhide C4).mono ?_
  rintro e w4 ⟨en2, rfl, hM⟩
  have hO4 : Only H w3 w4 := by
    rcases hM with ⟨_, _, hM⟩ | ⟨_, _, hM⟩
    · exact hM.ho
    · exact hM.ho
  have F14 := (unhide HF13).keep hO4 (fun y hy e => by have := unhide L1 y hy; have := unhide Hlt y (.inr (.inr (.inr (.inr e)))); omega)
  have R4 := (unhide HR3).keep hO4 (fun y hy e => unhide Hro y hy (.inr (.inr (.inr (.inr e)))))
  have C5 := hide (glsameF_any F14.in_ R4.in_ (by omega) (by omega))
  obtain ⟨full, q1, q2, q3⟩ := PlX.aux (unhide HJ2) (unhide HS) hM cost_small
  have HP := hide q3
  have H1 := hide q1
  have H2 := hide q2
  have HF14 := hide F14
  clear C4 hM hO4 F14 R4 q1 q2 q3 HS HF13 HR3 HJ2
  go_wp2_with fail
  refine (unhide C5).mono ?_
  rintro e w5 ⟨b, rfl, hb, o5⟩
  obtain rfl : b = true := hb.2 (by first | trivial | rfl)
  have C6 := hide (glspoilF_any ((unhide HF14).keep o5 (fun _ _ h => h)))
  have O5 := hide o5
  clear C5 hb o5
  go_wp2_with fail
  refine (unhide C6).mono ?_
  rintro e w6 ⟨rfl, o6⟩
  have HFin := hide (PlX.spoil (unhide HJ) (unhide O2) (unhide HP) (Q := fun y => (Value.slice fa1 l.length fc1).ownBlock = some y) (fun y hy => ⟨(unhide L1 y hy).1, .inl (unhide L1 y hy).2⟩) (((unhide O5).mono (fun _ _ h => h.elim)).trans o6 (fun _ _ h => h)))
  clear C6 o6 O5 HF14 HP
  cases full with
  | true =>
    have e5 := (unhide H1).2 rfl
    subst e5
    clear H1 H2
    go_wp2_with fail
    go_ret2
    exact ⟨true, rfl, unhide HFin⟩
  | false =>
    have e5 : en ≠ 5 := fun e => by have := (unhide H1).1 e; cases this
    have e6 := unhide H2 rfl
    subst e6
    have c5 : ((en : Int) == 5) = false := ne_intO (by omega)
    have c6 := eqI (en : Int)
    clear H1 H2 e5
    go_wp2_with fail
    go_ret2
    exact ⟨false, rfl, unhide HFin⟩
set_option maxRecDepth 100000 in
set_option maxHeartbeats 8000000 in
theorem glcommit_any (h : GJ w g t s d m D J rt F T S r sr H) {rv : Value} {l : List Fl} (hr : OwnF w rv l) (hrl : l.length ≤ 9) (hro : ∀ y, rv.ownBlock = some y → ¬ (y = g ∨ y = t ∨ y = s ∨ F y ∨ H y)) (ok oa ob oc : Int) (os ot : ByteArray) :
    Calls Tryz.prog 46 #[.pointer (some ⟨g, 0, none⟩), .pointer (some ⟨m, 0, none⟩), rv, .agg #[.int .i64 ok, .int .i64 oa, .int .i64 ob, .int .i64 oc, .string os, .string ot]] w fun e w' => ∃ full : Bool, e = .returned (.tuple #[.bool true, .bool full]) ∧ PlX w w' g t s d m D J rt F T S r sr H 2 full := by
  have hlt := h.lt
  have oA := (Only.refl (fun _ => False) w).alloc (.cells #[.int .i64 ok, .int .i64 oa, .int .i64 ob, .int .i64 oc, .string os, .string ot] 42)
  have hB := Has.new w #[.int .i64 ok, .int .i64 oa, .int .i64 ob, .int .i64 oc, .string os, .string ot] 42
  have C1 := hide (copyFiles_any rv l (hr.keep oA (fun _ _ h => h)).in_ (by omega))
  have HJ := hide h
  have HR := hide (hr.keep oA (fun _ _ h => h))
  have Hlt := hide hlt
  have Hro := hide hro
  have hrb := h.rb
  have hnx : (absG J T).nx < 4611686018427387000 := h.nxb
  have hnx2 := h.nxb
  have OA := hide oA
  have HB := hide hB
  have hpl := parL_len oa ob oc
  obtain ⟨ra, rc, rfl⟩ := ownsRow_shape hr
  clear h hr hro hlt oA hB
  have HPar := hide (fun W => glpar_any (w := W) ok oa ob oc os ot)
  generalize parL oa ob oc = ps at *
  go_enter Tryz.func46, Tryz.ntmps46
  go_upto_region 1 with fail
  generalize w.alloc (.cells #[.int .i64 ok, .int .i64 oa, .int .i64 ob, .int .i64 oc, .string os, .string ot] 42) = W0 at *
  generalize hkb : w.heap.size = kb at *
  have HBm : Hid (∀ W Q, Only Q W0 W → (∀ y, Q y → y ≠ kb) → Has W kb #[.int .i64 ok, .int .i64 oa, .int .i64 ob, .int .i64 oc, .string os, .string ot] 42) := hide (fun W Q ho hQ => (unhide HB).keep ho (fun e => hQ kb e rfl))
  clear HB
  go_wp2_with fail
  refine (unhide C1).mono ?_
  rintro e w1 ⟨v1, rfl, f1, b1, o1⟩
  have C2 := hide (copyFiles_any (.slice ra l.length rc) l ((unhide HR).keep o1 (fun _ _ h => h)).in_ (by omega))
  have F1 := hide f1
  have B1 := hide b1
  have O1 := hide o1
  obtain ⟨fa1, fc1, rfl⟩ := ownsRow_shape f1
  clear C1 f1 b1 o1
  go_wp2_with fail
  refine (unhide C2).mono ?_
  rintro e w2 ⟨v2, rfl, f2, b2, o2⟩
  have o02 := (unhide O1).trans o2 (fun _ _ h => h)
  have sA := (unhide OA).size
  have s01 := (unhide O1).size
  have s12 := o2.size
  have hB2 := unhide HBm w2 _ o02 (fun y hy => hy.elim)
  have z0 := hB2.cell 0
  have z1 := hB2.cell 1
  have z2 := hB2.cell 2
  have z3 := hB2.cell 3
  have z4 := hB2.cell 4
  have z5 := hB2.cell 5
  simp only [List.getElem?_toArray, List.getElem?_cons_zero, List.getElem?_cons_succ] at z0 z1 z2 z3 z4 z5
  have zl := hB2.lt
  have C3 := hide (unhide HPar w2)
  have F12 := hide ((unhide F1).keep o2 (fun _ _ h => h))
  have L1 : Hid (∀ y, (Value.slice fa1 l.length fc1).ownBlock = some y → kb ≤ y ∧ y < w2.heap.size) := hide (fun y hy => ⟨by have := unhide B1 y hy; omega, ownsRow_lt (unhide F12) y hy⟩)
  have L2 : Hid (∀ y, v2.ownBlock = some y → kb ≤ y ∧ y < w2.heap.size) := hide (fun y hy => ⟨by have := b2 y hy; omega, ownsRow_lt f2 y hy⟩)
  have HF2 := hide f2
  have HR2 := hide ((unhide HR).keep o02 (fun _ _ h => h))
  have O2 := hide o02
  obtain ⟨fa2, fc2, rfl⟩ := ownsRow_shape f2
  clear C2 f2 b2 o2 o02 hB2 F1 B1 O1 HR
  go_wp2_with fail
  refine (unhide C3).mono ?_
  rintro e w3 ⟨v3, rfl, h3⟩
  have o03 := (unhide O2).trans h3.ho (fun _ _ h => h)
  have s23 := h3.ho.size
  have hB3 := unhide HBm w3 _ o03 (fun y hy => hy.elim)
  have y0 := hB3.cell 0
  have y1 := hB3.cell 1
  have y2 := hB3.cell 2
  have y3 := hB3.cell 3
  have y4 := hB3.cell 4
  have y5 := hB3.cell 5
  simp only [List.getElem?_toArray, List.getElem?_cons_zero, List.getElem?_cons_succ] at y0 y1 y2 y3 y4 y5
  have yl := hB3.lt
  have C4 := hide (unhide HPar w3)
  have F13 := hide ((unhide F12).keep h3.ho (fun _ _ h => h))
  have F23 := hide ((unhide HF2).keep h3.ho (fun _ _ h => h))
  have R3 := hide ((unhide HR2).keep h3.ho (fun _ _ h => h))
  have L3 : Hid (∀ y, v3.ownBlock = some y → kb ≤ y ∧ y < w3.heap.size) := hide (fun y hy => ⟨by have := h3.hb y hy; omega, ownsRow_lt h3.own y hy⟩)
  have P3 := hide h3.own
  have O3 := hide o03
  obtain ⟨pa3, pc3, rfl⟩ := ownsRow_shape h3.own
  clear C3 h3 o03 hB3 F12 HF2 HR2 z0 z1 z2 z3 z4 z5 zl O2
  go_wp2_with fail
  refine (unhide C4).mono ?_
  rintro e w4 ⟨v4, rfl, h4⟩
  have o04 := (unhide O3).trans h4.ho (fun _ _ h => h)
  have s34 := h4.ho.size
  have hB4 := unhide HBm w4 _ o04 (fun y hy => hy.elim)
  have x4 := hB4.cell 4
  simp only [List.getElem?_toArray, List.getElem?_cons_zero, List.getElem?_cons_succ] at x4
  have xl := hB4.lt
  have F14 := (unhide F13).keep h4.ho (fun _ _ h => h)
  have F24 := hide ((unhide F23).keep h4.ho (fun _ _ h => h))
  have R4 := hide ((unhide R3).keep h4.ho (fun _ _ h => h))
  have P34 := (unhide P3).keep h4.ho (fun _ _ h => h)
  have L4 : Hid (∀ y, v4.ownBlock = some y → kb ≤ y ∧ y < w4.heap.size) := hide (fun y hy => ⟨by have := h4.hb y hy; omega, ownsRow_lt h4.own y hy⟩)
  have P4 := hide h4.own
  have oW4 := (unhide OA).trans o04 (fun _ _ h => h)
  have hJ4 := (unhide HJ).quiet oW4
  have C5 := hide (gcommit_any (msg := os) hJ4.gr (.slice fa1 l.length fc1) F14.in_ (fun y hy => by
    have h1 := unhide L1 y hy
    refine ⟨fun e => ?_, fun e => ?_, fun e => ?_, fun e => ?_⟩
    · have := unhide Hlt y (.inr (.inl e)); omega
    · have := unhide Hlt y (.inr (.inr (.inl e))); omega
    · have := unhide Hlt y (.inr (.inr (.inr (.inl e)))); omega
    · have := unhide Hlt y (.inl e); omega) (.slice pa3 ps.length pc3) P34.in_ (by simp) hnx2)
  have HF14 := hide F14
  have HP34 := hide P34
  have HJ4 := hide hJ4
  have OW4 := hide oW4
  have HB4 := hide hB4
  obtain ⟨pa4, pc4, rfl⟩ := ownsRow_shape h4.own
  clear C4 h4 o04 F14 P34 oW4 hJ4 hB4 F13 F23 R3 P3 O3 y0 y1 y2 y3 y4 y5 yl
  go_wp2_with fail
  refine (unhide C5).mono ?_
  rintro e w5 ⟨sq, en, rfl, hS⟩
  have hO5 : Only (fun y => y = g ∨ y = t ∨ y = s ∨ F y) w4 w5 := by
    obtain ⟨_, _, _, _, hW, _⟩ := hS.ex
    exact hW.only
  have nG : ∀ y, kb ≤ y → ¬ (y = g ∨ y = t ∨ y = s ∨ F y) := fun y hy e => by
    have := unhide Hlt y (by rcases e with e | e | e | e; exact .inl e; exact .inr (.inl e); exact .inr (.inr (.inl e)); exact .inr (.inr (.inr (.inl e))))
    omega
  have F15 := hide ((unhide HF14).keep hO5 (fun y hy e => nG y (unhide L1 y hy).1 e))
  have F25 := (unhide F24).keep hO5 (fun y hy e => nG y (unhide L2 y hy).1 e)
  have P35 := hide ((unhide HP34).keep hO5 (fun y hy e => nG y (unhide L3 y hy).1 e))
  have P45 := (unhide P4).keep hO5 (fun y hy e => nG y (unhide L4 y hy).1 e)
  have R5 := hide ((unhide R4).keep hO5 (fun y hy e => unhide Hro y hy (by rcases e with e | e | e | e; exact .inl e; exact .inr (.inl e); exact .inr (.inr (.inl e)); exact .inr (.inr (.inr (.inl e))))))
  have hB5 := (unhide HB4).keep hO5 (fun e => nG kb (Nat.le_refl _) e)
  have z4 := hB5.cell 4
  simp only [List.getElem?_toArray, List.getElem?_cons_zero, List.getElem?_cons_succ] at z4
  have zl := hB5.lt
  have mg5 := (unhide HJ4).mgT hO5
  have nH : ∀ y, kb ≤ y → ¬ H y := fun y hy e => by have := unhide Hlt y (.inr (.inr (.inr (.inr e)))); omega
  have C6 := hide (hcommit_any mg5 (unhide HJ4).gr.asm os F25.in_ (fun y hy => nH y (unhide L2 y hy).1) P45.in_ (fun y hy => nH y (unhide L4 y hy).1) (by omega) (by omega) hnx (by omega))
  have HS := hide hS
  have HP45 := hide P45
  have HnH := hide nH
  clear C5 hS hO5 F25 P45 mg5 nG nH hB5 HF14 HP34 F24 P4 R4 HB4 x4 xl
  go_wp2_with fail
  refine (unhide C6).mono ?_
  rintro e w6 ⟨sq2, en2, rfl, hM⟩
  have hO6 : Only H w5 w6 := by
    rcases hM with ⟨_, _, _, hM⟩ | ⟨_, _, _, hM⟩
    · exact hM.ho
    · exact hM.ho
  have F16 := (unhide F15).keep hO6 (fun y hy e => unhide HnH y (unhide L1 y hy).1 e)
  have P36 := (unhide P35).keep hO6 (fun y hy e => unhide HnH y (unhide L3 y hy).1 e)
  have P46 := (unhide HP45).keep hO6 (fun y hy e => unhide HnH y (unhide L4 y hy).1 e)
  have R6 := (unhide R5).keep hO6 (fun y hy e => unhide Hro y hy (.inr (.inr (.inr (.inr e)))))
  have C7 := hide (glsameF_any F16.in_ R6.in_ (by omega) (by omega))
  obtain ⟨full, q1, q2, q4, q3⟩ := PlX.com (unhide HJ4) (unhide HS) hM cost_small
  have HP := hide q3
  have H1 := hide q1
  have H2 := hide q2
  have H4 := hide q4
  have HF16 := hide F16
  have HP36 := hide P36
  have HP46 := hide P46
  clear C6 hM hO6 F16 P36 P46 R6 q1 q2 q3 q4 HS F15 P35 HP45 R5 HJ4 z4 zl
  as_aux_lemma =>
  go_wp2_with fail
  refine (unhide C7).mono ?_
  rintro e w7 ⟨b, rfl, hb, o7⟩
  obtain rfl : b = true := hb.2 (by first | trivial | rfl)
  have C8 := hide (glsameI_any ((unhide HP36).keep o7 (fun _ _ h => h)).in_ ((unhide HP46).keep o7 (fun _ _ h => h)).in_ (by omega) (by omega))
  have O7 := hide o7
  clear C7 hb o7
  go_wp2_with fail
  refine (unhide C8).mono ?_
  rintro e w8 ⟨b, rfl, hb, o8⟩
  obtain rfl : b = true := hb.2 (by first | trivial | rfl)
  have o68 := (unhide O7).trans o8 (fun _ _ h => h)
  have C9 := hide (glspoilF_any ((unhide HF16).keep o68 (fun _ _ h => h)))
  have P38 := hide ((unhide HP36).keep o68 (fun _ _ h => h))
  have Hne := hide (OwnI_OwnF_ne (unhide HF16) (unhide HP36))
  have O68 := hide o68
  clear C8 hb o8 o68 O7 HP46 HP36 HF16
  go_wp2_with fail
  refine (unhide C9).mono ?_
  rintro e w9 ⟨rfl, o9⟩
  have C10 := hide (glspoilI_any ((unhide P38).keep o9 (fun y hy e => unhide Hne y hy e)))
  have O69 : Hid (Only (fun y => (Value.slice fa1 l.length fc1).ownBlock = some y ∨ (Value.slice pa3 ps.length pc3).ownBlock = some y) w6 w9) := hide (((unhide O68).mono (fun _ _ h => h.elim)).trans o9 (fun y _ e => .inl e))
  clear C9 o9 O68 P38 Hne
  go_wp2_with fail
  refine (unhide C10).mono ?_
  rintro e w10 ⟨rfl, o10⟩
  have HFin := hide (PlX.spoil (unhide HJ) (unhide OW4) (unhide HP) (Q := fun y => (Value.slice fa1 l.length fc1).ownBlock = some y ∨ (Value.slice pa3 ps.length pc3).ownBlock = some y) (fun y hy => by
    rcases hy with hy | hy
    · have := unhide L1 y hy
      exact ⟨by omega, .inl (by omega)⟩
    · have := unhide L3 y hy
      exact ⟨by omega, .inl (by omega)⟩) ((unhide O69).trans o10 (fun y _ e => .inr e)))
  clear C10 o10 O69 HP
  cases full with
  | true =>
    have e5 := (unhide H1).2 rfl
    have e6 := unhide H4 rfl
    subst e5
    subst e6
    clear H1 H2 H4
    go_wp2_with fail
    go_ret2
    exact ⟨true, rfl, unhide HFin⟩
  | false =>
    have e5 : en ≠ 5 := fun e => by have := (unhide H1).1 e; cases this
    obtain ⟨e6, e7⟩ := unhide H2 rfl
    subst e6
    subst e7
    have c5 : ((en : Int) == 5) = false := ne_intO (by omega)
    have c6 := eqI (en : Int)
    have c7 := eqI (sq : Int)
    clear H1 H2 H4 e5
    go_wp2_with fail
    go_ret2
    exact ⟨false, rfl, unhide HFin⟩
end
end Go.Proofs.Qxb6500417aGreat
