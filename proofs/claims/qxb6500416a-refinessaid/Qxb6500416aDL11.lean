/-
  OWN WORK. THE LAW OF DIFF: SameDiff.
-/
import Derived.Test.Qxb6500416aDL10
namespace Go.Proofs.Qxb6500416a
open Go.RowKit Go.PlainAid
set_option linter.unusedSimpArgs false
set_option linter.unusedVariables false

set_option maxRecDepth 100000 in
set_option maxHeartbeats 4000000 in
theorem sameDiff_any {B : Nat} {w : World} {l : Nat} (h : LI B w l) (a b : ByteArray) :
    Calls Try.prog 14 #[.pointer (some ⟨l, 0, none⟩), .string a, .string b] w fun x w' => x = .returned (.bool true) ∧ Stp B l w w' := by
  obtain ⟨e, mp, pv, r0, r1, k0, k1, k2, k3, tx, hs, p, A0, A1, L, F, R, M, h⟩ := h
  have C1 := hide (ddiff_all h.ep a b)
  have C2 := hide (dmdiff_all mp a b)
  have HB := hide (dP_PB a b)
  have c0 := Has.cell h.lw 0
  have ll := Has.lt h.lw
  have H := hide h
  clear h
  generalize dP a b = P at *
  generalize dN a b = N at *
  go_enter Try.func14, Try.ntmps14
  go_wp2_with fail
  refine (unhide C1).mono ?_
  rintro x w1 ⟨v, hs1, F', L', rfl, p1, d1, e1, f1, o1⟩
  have h1 := (unhide H).engine e1 f1 o1
  have c1 := Has.cell h1.lw 1
  have ll1 := Has.lt h1.lw
  have z1 := o1.size
  have H1 := hide h1
  have O1 := hide (o1.mono (T := fun y => B ≤ y) (fun y _ hy => (unhide H).bF y hy))
  have P1 := hide (p1.mono (G' := fun y => w.heap.size ≤ y ∧ ¬ F' y ∧ y < w1.heap.size) (fun y hy h => ⟨h.1, h.2, hy⟩))
  have D1 := hide d1
  have HRm : Hid (∀ W : World, w1.heap.size ≤ W.heap.size → Room B W l F' R M (fun y => w.heap.size ≤ y ∧ ¬ F' y ∧ y < w1.heap.size)) := hide (fun W hW =>
    { lt := fun y hy => by have := hy.2.2; omega, nF := fun y hy => hy.2.1, nR := fun y hy hr => by have := (unhide H).Rlt y hr; have := hy.1; omega, nM := fun y hy hr => by have := (unhide H).Mlt y hr; have := hy.1; omega, nl := fun hy => by have := hy.1; omega, bG := fun y hy => by have := hy.1; have := (unhide H).bw; omega })
  clear h1 e1 f1 o1 p1 d1 C1 c0
  go_wp2_with fail
  refine (unhide C2 w1).mono ?_
  rintro x w2 ⟨u, hs2, rfl, p2, o2⟩
  have z2 := o2.size
  have C3 := hide (untouched_li ((unhide H1).quiet o2).li)
  have P2 := hide p2
  have O2 := hide o2
  clear o2 C2 p2 c1
  go_wp2_with fail
  refine (unhide C3).mono ?_
  rintro x w3 ⟨rfl, o3⟩
  have z3 := o3.size
  have C4 := hide (samePatch_eq ((unhide P1).keep ((unhide O2).trans o3 (fun _ _ h => h)) (fun _ _ h => h)) ((unhide P2).keep o3 (fun _ _ h => h)) (unhide HB).len1 (unhide HB).lens)
  have O3 := hide ((unhide O2).trans o3 (fun _ _ h => h))
  clear o3 C3 O2
  go_wp2_with fail
  refine (unhide C4).mono ?_
  rintro x w4 ⟨rfl, o4⟩
  have z4 := o4.size
  have O4 := hide ((unhide O3).trans o4 (fun _ _ h => h))
  have C5 := hide (copyPatch_any ((unhide P1).keep (unhide O4) (fun _ _ h => h)) (unhide HB).len1 (unhide HB).lens)
  clear o4 C4 O3 P2
  go_wp2_with fail
  refine (unhide C5).mono ?_
  rintro x w5 ⟨v5, hs5, rfl, p5, nd5, _, o5, g5, rfl⟩
  have z5 := o5.size
  have O5 := (unhide O4).trans o5 (fun _ _ h => h)
  have h5 := (unhide H1).quiet O5
  have p1' := (unhide P1).keep O5 (fun _ _ h => h)
  have rm5 : Room B w5 l F' R M (fun y => w4.heap.size ≤ y ∧ y < w5.heap.size) :=
    { lt := fun y hy => hy.2, nF := fun y hy hf => by have := (unhide H1).ep.inn y hf; have := hy.1; omega, nR := fun y hy hr => by have := (unhide H).Rlt y hr; have := hy.1; omega, nM := fun y hy hr => by have := (unhide H).Mlt y hr; have := hy.1; omega, nl := fun hy => by have := hy.1; omega, bG := fun y hy => by have := hy.1; have := (unhide H).bw; omega }
  have h6 := h5.setPatch (p5.mono (fun y hy h => ⟨h, hy⟩)) (dst_of_nodup nd5) (unhide HB) rm5
  have q6 := donly1 (w := w5) (p := l) 2 (.slice (some ⟨g5, 0, none⟩) P.length P.length)
  have z6 := q6.size
  have rm6 : Room B (w5.setCell ⟨l, 2, none⟩ (.slice (some ⟨g5, 0, none⟩) P.length P.length)) l F' (fun y => (w4.heap.size ≤ y ∧ y < w5.heap.size) ∨ r0.ownBlock = some y ∨ r1.ownBlock = some y) M (fun y => w.heap.size ≤ y ∧ ¬ F' y ∧ y < w1.heap.size) := by
    have hr := unhide HRm (w5.setCell ⟨l, 2, none⟩ (.slice (some ⟨g5, 0, none⟩) P.length P.length)) (by omega)
    exact { lt := hr.lt, nF := hr.nF, nR := fun y hy hq => by
              rcases hq with hq | hq
              · have := hq.1; have := hy.2.2; omega
              · exact hr.nR y hy (h5.rf y hq), nM := hr.nM, nl := hr.nl, bG := hr.bG }
  have C6 := hide (ownPatch_li h6 (p1'.keep q6 (fun y hy e => by have := hy.1; omega)) (unhide D1) (unhide HB).len1 rm6)
  have c2 := Has.cell h5.lw 2
  have z2' := Has.free h5.lw 2
  have ll5 := Has.lt h5.lw
  have OO := hide (((unhide O1).trans O5 (fun _ _ h => h.elim)).trans q6 (fun y _ e => by subst e; exact (unhide H).bl))
  clear O5 h5 p1' rm5 h6 q6 rm6 p5 nd5 o5 C5 O4 H1 O1 P1 D1 HRm
  go_wp2_with fail
  refine (unhide C6).mono ?_
  rintro x w7 ⟨rfl, hL, o7⟩
  have RR := hide (And.intro hL ((unhide OO).trans o7 (fun y _ h => h)))
  clear hL o7 OO C6
  go_wp2_with fail
  go_ret
  exact ⟨rfl, unhide RR⟩
end Go.Proofs.Qxb6500416a
