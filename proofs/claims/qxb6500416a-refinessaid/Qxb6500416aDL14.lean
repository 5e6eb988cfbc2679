/-
  OWN WORK. THE LAW OF DIFF: SameTreeDiff (laid by tools/gen_dl14.py).
-/
import Derived.Test.Qxb6500416aDL13
namespace Go.Proofs.Qxb6500416a
open Go.RowKit Go.PlainAid
set_option linter.unusedSimpArgs false
set_option linter.unusedVariables false

set_option maxRecDepth 100000 in
set_option maxHeartbeats 8000000 in
theorem sameTreeDiff_any {B : Nat} {w : World} {l : Nat} (h : LI B w l) :
    Calls Try.prog 18 #[.pointer (some ⟨l, 0, none⟩)] w fun x w' => x = .returned (.bool true) ∧ Stp B l w w' := by
  obtain ⟨e, mp, pv, r0, r1, k0, k1, k2, k3, tx, hs, p, A0, A1, L, F, R, M, h⟩ := h
  have n0 : A0.length ≤ 1000 := Nat.le_trans h.n0 (by omega)
  have n1 : A1.length ≤ 1000 := Nat.le_trans h.n1 (by omega)
  have nr : (tdRes A0 A1).length ≤ 1000 := by have := tdRes_len A0 A1; have := h.n0; have := h.n1; omega
  have N0 := hide n0
  have N1 := hide n1
  have NR := hide nr
  have H := hide h
  have O0 := hide (Only.refl (fun _ => False) w)
  have Llw := hide (Has.lt h.lw)
  clear h n0 n1 nr
  go_enter Try.func18, Try.ntmps18
  have g1 := (unhide H).quiet (unhide O0)
  have C1 := hide (copyFiles_any r0 A0 g1.f0.in_ (unhide N0))
  have c1 := Has.cell g1.lw 4
  have l1 := Has.lt g1.lw
  clear g1
  go_wp2_with fail
  refine (unhide C1).mono ?_
  rintro x w1 ⟨va, rfl, f1, b1, o1⟩
  have z1 := o1.size
  have F1 := hide f1
  have B1 : Hid (∀ y, va.ownBlock = some y → w.heap.size ≤ y ∧ y < w1.heap.size) := hide (fun y hy => ⟨b1 y hy, ownsRow_lt f1 y hy⟩)
  have O1 := hide ((unhide O0).trans o1 (fun _ _ h => h))
  have Q1 := hide o1
  clear f1 b1 o1 C1 c1
  have g2 := (unhide H).quiet (unhide O1)
  have C2 := hide (copyFiles_any r1 A1 g2.f1.in_ (unhide N1))
  have c2 := Has.cell g2.lw 5
  have l2 := Has.lt g2.lw
  clear g2
  go_wp2_with fail
  refine (unhide C2).mono ?_
  rintro x w2 ⟨vb, rfl, f2, b2, o2⟩
  have z2 := o2.size
  have F2 := hide f2
  have B2 : Hid (∀ y, vb.ownBlock = some y → w1.heap.size ≤ y ∧ y < w2.heap.size) := hide (fun y hy => ⟨b2 y hy, ownsRow_lt f2 y hy⟩)
  have O2 := hide ((unhide O1).trans o2 (fun _ _ h => h))
  have Q2 := hide o2
  clear f2 b2 o2 C2 c2
  have g3 := (unhide H).quiet (unhide O2)
  have C3 := hide (copyFiles_any r0 A0 g3.f0.in_ (unhide N0))
  have c3 := Has.cell g3.lw 4
  have l3 := Has.lt g3.lw
  clear g3
  go_wp2_with fail
  refine (unhide C3).mono ?_
  rintro x w3 ⟨vc, rfl, f3, b3, o3⟩
  have z3 := o3.size
  have F3 := hide f3
  have B3 : Hid (∀ y, vc.ownBlock = some y → w2.heap.size ≤ y ∧ y < w3.heap.size) := hide (fun y hy => ⟨b3 y hy, ownsRow_lt f3 y hy⟩)
  have O3 := hide ((unhide O2).trans o3 (fun _ _ h => h))
  have Q3 := hide o3
  clear f3 b3 o3 C3 c3
  have g4 := (unhide H).quiet (unhide O3)
  have C4 := hide (copyFiles_any r1 A1 g4.f1.in_ (unhide N1))
  have c4 := Has.cell g4.lw 5
  have l4 := Has.lt g4.lw
  clear g4
  go_wp2_with fail
  refine (unhide C4).mono ?_
  rintro x w4 ⟨vd, rfl, f4, b4, o4⟩
  have z4 := o4.size
  have F4 := hide f4
  have B4 : Hid (∀ y, vd.ownBlock = some y → w3.heap.size ≤ y ∧ y < w4.heap.size) := hide (fun y hy => ⟨b4 y hy, ownsRow_lt f4 y hy⟩)
  have O4 := hide ((unhide O3).trans o4 (fun _ _ h => h))
  have Q4 := hide o4
  clear f4 b4 o4 C4 c4
  have Qa4 := hide (((unhide Q2).trans (unhide Q3) (fun _ _ h => h)).trans (unhide Q4) (fun _ _ h => h))
  have Qb4 := hide ((unhide Q3).trans (unhide Q4) (fun _ _ h => h))
  have Fa := hide ((unhide F1).keep (unhide Qa4) (fun _ _ h => h))
  have Fb := hide ((unhide F2).keep (unhide Qb4) (fun _ _ h => h))
  have Fc := hide ((unhide F3).keep (unhide Q4) (fun _ _ h => h))
  have Fd := F4
  clear F1 F2 F3 F4 Q1 Q2 Q3 Q4 Qa4 Qb4
  have C5 := hide (dtree_any (.pointer (some ⟨e, 0, none⟩)) va vb A0 A1 (unhide Fa).in_ (unhide Fb).in_)
  have g5 := (unhide H).quiet (unhide O4)
  have c5 := Has.cell g5.lw 0
  have l5 := Has.lt g5.lw
  clear g5
  have HT := hide (And.intro (rfl : tdErr A0 A1 = tdErr A0 A1) (rfl : tdRes A0 A1 = tdRes A0 A1))
  generalize hE : tdErr A0 A1 = E at C5
  have HE := hide hE
  clear hE HT
  go_wp2_with fail
  refine (unhide C5).mono ?_
  rintro x w5 ⟨vr, rfl, i5⟩
  have z5 := i5.ho.size
  have BR : Hid (∀ y, vr.ownBlock = some y → w4.heap.size ≤ y ∧ y < w5.heap.size) := hide (fun y hy => ⟨i5.hb y hy, ownsRow_lt i5.own y hy⟩)
  have O5 := hide ((unhide O4).trans i5.ho (fun _ _ h => h))
  have Ga := hide ((unhide Fa).keep i5.ho (fun _ _ h => h))
  have Gb := hide ((unhide Fb).keep i5.ho (fun _ _ h => h))
  have Gc := hide ((unhide Fc).keep i5.ho (fun _ _ h => h))
  have Gd := hide ((unhide Fd).keep i5.ho (fun _ _ h => h))
  have Gr := hide i5.own
  clear i5 C5 c5 Fa Fb Fc Fd
  have C6 := hide (dmtree_any mp vc vd A0 A1 (unhide Gc).in_ (unhide Gd).in_)
  rw [unhide HE] at C6
  have g6 := (unhide H).quiet (unhide O5)
  have c6 := Has.cell g6.lw 1
  have l6 := Has.lt g6.lw
  clear g6
  go_wp2_with fail
  refine (unhide C6).mono ?_
  rintro x w6 ⟨vs, rfl, i6⟩
  have z6 := i6.ho.size
  have O6 := hide ((unhide O5).trans i6.ho (fun _ _ h => h))
  have Gs := hide i6.own
  have P6 := hide i6.ho
  clear i6 C6 c6
  have C7 := hide (untouched_li ((unhide H).quiet (unhide O6)).li)
  go_wp2_with fail
  refine (unhide C7).mono ?_
  rintro x w7 ⟨rfl, o7⟩
  have z7 := o7.size
  have O7 := hide ((unhide O6).trans o7 (fun _ _ h => h))
  have P7 := hide ((unhide P6).trans o7 (fun _ _ h => h))
  have C8 := hide (lawChanges_eq vr vs (tdRes A0 A1) ((unhide Gr).keep (unhide P7) (fun _ _ h => h)).in_ ((unhide Gs).keep o7 (fun _ _ h => h)).in_ (unhide NR))
  clear o7 C7
  go_wp2_with fail
  refine (unhide C8).mono ?_
  rintro x w8 ⟨rfl, o8⟩
  have z8 := o8.size
  have O8 := hide ((unhide O7).trans o8 (fun _ _ h => h))
  have P8 := hide ((unhide P7).trans o8 (fun _ _ h => h))
  have C9 := hide (apiFiles_eq va vc A0 ((unhide Ga).keep (unhide P8) (fun _ _ h => h)).in_ ((unhide Gc).keep (unhide P8) (fun _ _ h => h)).in_ (unhide N0))
  clear o8 C8
  go_wp2_with fail
  refine (unhide C9).mono ?_
  rintro x w9 ⟨rfl, o9⟩
  have z9 := o9.size
  have O9 := hide ((unhide O8).trans o9 (fun _ _ h => h))
  have P9 := hide ((unhide P8).trans o9 (fun _ _ h => h))
  have C10 := hide (apiFiles_eq vb vd A1 ((unhide Gb).keep (unhide P9) (fun _ _ h => h)).in_ ((unhide Gd).keep (unhide P9) (fun _ _ h => h)).in_ (unhide N1))
  clear o9 C9
  go_wp2_with fail
  refine (unhide C10).mono ?_
  rintro x w10 ⟨rfl, o10⟩
  have z10 := o10.size
  have O10 := hide ((unhide O9).trans o10 (fun _ _ h => h))
  have P10 := hide ((unhide P9).trans o10 (fun _ _ h => h))
  have h10 := (unhide H).quiet (unhide O10)
  have hF : ∀ y, F y → y < w.heap.size := fun y hy => (unhide H).ep.inn y hy
  have hR := (unhide H).Rlt
  have hM := (unhide H).Mlt
  have hw0 := (unhide H).bw
  have hll := unhide Llw
  have rm10 : Room B w10 l F R M (fun y => va.ownBlock = some y) :=
    { lt := fun y hy => by have := unhide B1 y hy; omega, nF := fun y hy hf => by have := hF y hf; have := unhide B1 y hy; omega, nR := fun y hy hr => by have := hR y hr; have := unhide B1 y hy; omega, nM := fun y hy hr => by have := hM y hr; have := unhide B1 y hy; omega, nl := fun hy => by have := unhide B1 l hy; omega, bG := fun y hy => by have := unhide B1 y hy; omega }
  have C11 := hide (ownFiles_li h10 ((unhide Ga).keep (unhide P10) (fun _ _ h => h)) rm10)
  have K10 := hide (fun y hy => hM y (h10.kl2.own y hy))
  clear h10 rm10 o10 C10
  clear hF hR hM
  go_wp2_with fail
  refine (unhide C11).mono ?_
  rintro x w11 ⟨rfl, k2a, h11, s11, q11⟩
  have z11 := q11.size
  have rm11 : Room B w11 l F R (Mx M va w10 w11) (fun y => vb.ownBlock = some y) :=
    { lt := fun y hy => by have := unhide B2 y hy; omega, nF := fun y hy hf => by have := (unhide H).ep.inn y hf; have := unhide B2 y hy; omega, nR := fun y hy hr => by have := (unhide H).Rlt y hr; have := unhide B2 y hy; omega, nM := fun y hy hr => by
        have hb := unhide B2 y hy
        rcases hr with hr | hr | hr
        · have := (unhide H).Mlt y hr; omega
        · have := unhide B1 y hr; omega
        · omega, nl := fun hy => by have := unhide B2 l hy; omega, bG := fun y hy => by have := unhide B2 y hy; omega }
  have C12 := hide (ownFiles_li h11 (((unhide Gb).keep (unhide P10) (fun _ _ h => h)).keep s11 (fun y hy hs => by
    have hb := unhide B2 y hy
    rcases hs with h1 | h1 | h1
    · omega
    · have := unhide B1 y h1; omega
    · have := unhide K10 y h1; omega)) rm11)
  have Gr11 := hide (((unhide Gr).keep (unhide P10) (fun _ _ h => h)).keep s11 (fun y hy hs => by
    have hb := unhide BR y hy
    rcases hs with h1 | h1 | h1
    · omega
    · have := unhide B1 y h1; omega
    · have := unhide K10 y h1; omega))
  have K11 := hide (fun y hy => h11.kl2.own y hy)
  have O11 := hide (((unhide O10).mono (T := fun y => B ≤ y) (fun _ _ h => h.elim)).trans q11 (fun y _ h => h))
  clear h11 s11 q11 rm11 C11
  go_wp2_with fail
  refine (unhide C12).mono ?_
  rintro x w12 ⟨rfl, k2b, h12, s12, q12⟩
  have z12 := q12.size
  have rm12 : Room B w12 l F R (Mx (Mx M va w10 w11) vb w11 w12) (fun y => vr.ownBlock = some y) :=
    { lt := fun y hy => by have := unhide BR y hy; omega, nF := fun y hy hf => by have := (unhide H).ep.inn y hf; have := unhide BR y hy; omega, nR := fun y hy hr => by have := (unhide H).Rlt y hr; have := unhide BR y hy; omega, nM := fun y hy hr => by
        have hb := unhide BR y hy
        rcases hr with (hr | hr | hr) | hr | hr
        · have := (unhide H).Mlt y hr; omega
        · have := unhide B1 y hr; omega
        · omega
        · have := unhide B2 y hr; omega
        · omega, nl := fun hy => by have := unhide BR l hy; omega, bG := fun y hy => by have := unhide BR y hy; omega }
  have C13 := hide (ownChanges_li h12 ((unhide Gr11).keep s12 (fun y hy hs => by
    have hb := unhide BR y hy
    rcases hs with h1 | h1 | h1
    · omega
    · have := unhide B2 y h1; omega
    · rcases unhide K11 y h1 with hr | hr | hr
      · have := (unhide H).Mlt y hr; omega
      · have := unhide B1 y hr; omega
      · omega)) rm12)
  have O12 := hide ((unhide O11).trans q12 (fun y _ h => h))
  clear h12 s12 q12 rm12 C12
  go_wp2_with fail
  refine (unhide C13).mono ?_
  rintro x w13 ⟨rfl, k3', h13, q13⟩
  have RR := hide (And.intro h13.li ((unhide O12).trans q13 (fun y _ h => h)))
  clear h13 q13 C13
  go_wp2_with fail
  go_ret
  exact ⟨rfl, unhide RR⟩
end Go.Proofs.Qxb6500416a
