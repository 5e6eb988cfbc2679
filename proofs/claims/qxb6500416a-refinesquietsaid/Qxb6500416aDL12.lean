/-
  OWN WORK. THE LAW OF DIFF: SameApply.
-/
import Derived.Test.Qxb6500416aDL11
namespace Go.Proofs.Qxb6500416a
open Go.RowKit Go.PlainAid
set_option linter.unusedSimpArgs false
set_option linter.unusedVariables false

set_option maxRecDepth 100000 in
set_option maxHeartbeats 4000000 in
theorem sameApply_any {B : Nat} {w : World} {l : Nat} (h : LI B w l) (a : ByteArray) :
    Calls Try.prog 16 #[.pointer (some ⟨l, 0, none⟩), .string a] w fun x w' => x = .returned (.bool true) ∧ Stp B l w w' := by
  obtain ⟨e, mp, pv, r0, r1, k0, k1, k2, k3, tx, hs, p, A0, A1, L, F, R, M, h⟩ := h
  have HB := hide h.pb
  have C1 := hide (copyPatch_any h.pat h.pb.len1 h.pb.lens)
  have c2 := Has.cell h.lw 2
  have ll := Has.lt h.lw
  have H := hide h
  clear h
  go_enter Try.func16, Try.ntmps16
  go_wp2_with fail
  refine (unhide C1).mono ?_
  rintro x w1 ⟨v1, hs1, rfl, p1, nd1, _, o1, g1, rfl⟩
  have z1 := o1.size
  have h1 := (unhide H).quiet o1
  have P1 := hide (p1.mono (G' := fun y => w.heap.size ≤ y ∧ y < w1.heap.size) (fun y hy h => ⟨h, hy⟩))
  have D1 := hide (dst_of_nodup nd1)
  have C2 := hide (copyPatch_any h1.pat (unhide HB).len1 (unhide HB).lens)
  have c2' := Has.cell h1.lw 2
  have ll1 := Has.lt h1.lw
  have O1 := hide o1
  clear h1 p1 nd1 o1 C1 c2
  go_wp2_with fail
  refine (unhide C2).mono ?_
  rintro x w2 ⟨v2, hs2, rfl, p2, _, _, o2, g2, rfl⟩
  have z2 := o2.size
  have P2 := hide p2
  have O2 := hide ((unhide O1).trans o2 (fun _ _ h => h))
  have h2 := (unhide H).quiet (unhide O2)
  have Q2 := hide o2
  have C3 := hide (dapply_any (e := e) ((unhide P1).keep o2 (fun _ _ h => h)) a (unhide HB).len1 (unhide HB).lens (unhide HB).strs (unhide HB).ats)
  have c0 := Has.cell h2.lw 0
  have ll2 := Has.lt h2.lw
  clear h2 p2 o2 C2 c2' O1
  generalize hS : applyS a p = S at *
  generalize hN : applyN a p = N at *
  have HS := hide (And.intro hS hN)
  clear hS hN
  go_wp2_with fail
  refine (unhide C3).mono ?_
  rintro x w3 ⟨rfl, o3⟩
  have z3 := o3.size
  have O3 := hide ((unhide O2).trans o3 (fun _ _ h => h))
  have Q3 := hide ((unhide Q2).trans o3 (fun _ _ h => h))
  have h3 := (unhide H).quiet (unhide O3)
  have C4 := hide (dmapply_any mp ((unhide P2).keep o3 (fun _ _ h => h)) a (unhide HB).len1 (unhide HB).lens (unhide HB).strs (unhide HB).ats)
  rw [(unhide HS).1, (unhide HS).2] at C4
  have c1 := Has.cell h3.lw 1
  have ll3 := Has.lt h3.lw
  clear h3 o3 C3 c0 O2 Q2 P2
  go_wp2_with fail
  refine (unhide C4).mono ?_
  rintro x w4 ⟨rfl, o4⟩
  have z4 := o4.size
  have O4 := hide ((unhide O3).trans o4 (fun _ _ h => h))
  have Q4 := hide ((unhide Q3).trans o4 (fun _ _ h => h))
  have C5 := hide (untouched_li ((unhide H).quiet (unhide O4)).li)
  clear o4 C4 c1 O3 Q3
  go_wp2_with fail
  refine (unhide C5).mono ?_
  rintro x w5 ⟨rfl, o5⟩
  have z5 := o5.size
  have O5 := hide ((unhide O4).trans o5 (fun _ _ h => h))
  have Q5 := hide ((unhide Q4).trans o5 (fun _ _ h => h))
  have h5 := (unhide H).quiet (unhide O5)
  have C6 := hide (samePatch_eq ((unhide P1).keep (unhide Q5) (fun _ _ h => h)) h5.pat (unhide HB).len1 (unhide HB).lens)
  have c2 := Has.cell h5.lw 2
  have ll5 := Has.lt h5.lw
  clear h5 o5 C5 O4 Q4
  go_wp2_with fail
  refine (unhide C6).mono ?_
  rintro x w6 ⟨rfl, o6⟩
  have z6 := o6.size
  have O6 := hide ((unhide O5).trans o6 (fun _ _ h => h))
  have Q6 := hide ((unhide Q5).trans o6 (fun _ _ h => h))
  have h6 := (unhide H).quiet (unhide O6)
  have rm : Room B w6 l F R M (fun y => w.heap.size ≤ y ∧ y < w1.heap.size) :=
    { lt := fun y hy => by have := hy.2; omega, nF := fun y hy hf => by have := (unhide H).ep.inn y hf; have := hy.1; omega, nR := fun y hy hr => by have := (unhide H).Rlt y hr; have := hy.1; omega, nM := fun y hy hr => by have := (unhide H).Mlt y hr; have := hy.1; omega, nl := fun hy => by have := hy.1; omega, bG := fun y hy => by have := hy.1; have := (unhide H).bw; omega }
  have C7 := hide (ownPatch_li h6 ((unhide P1).keep (unhide Q6) (fun _ _ h => h)) (unhide D1) (unhide HB).len1 rm)
  clear h6 o6 C6 O5 Q5 c2 rm
  go_wp2_with fail
  refine (unhide C7).mono ?_
  rintro x w7 ⟨rfl, hL, o7⟩
  have RR := hide (And.intro hL (((unhide O6).mono (T := fun y => B ≤ y) (fun _ _ h => h.elim)).trans o7 (fun y _ h => h)))
  clear hL o7 C7 O6 Q6
  go_wp2_with fail
  go_ret
  exact ⟨rfl, unhide RR⟩
end Go.Proofs.Qxb6500416a
