/-
  OWN WORK. THE LAW OF DIFF: copies and comparisons.
-/
import Derived.Test.Qxb6500416aDMg3
import Derived.Test.Qxb6500416aDTdW
namespace Go.Proofs.Qxb6500416a
open Go.RowKit Go.PlainAid
set_option linter.unusedSimpArgs false
set_option linter.unusedVariables false

set_option maxRecDepth 100000 in
theorem copyLines_any {w : World} (v : Value) (l : List Str) (h : LnIn w v l) (hl : l.length ≤ 100000) :
    Calls Try.prog 24 #[v] w fun e w' => ∃ g, e = .returned (.slice (some ⟨g, 0, none⟩) l.length l.length) ∧ OwnL w' (.slice (some ⟨g, 0, none⟩) l.length l.length) l ∧ Only (fun _ => False) w w' ∧ w.heap.size ≤ g ∧ g < w'.heap.size := by
  obtain ⟨a, cap, rfl, hc⟩ := h.s
  have hm := drun_make_strs w l.length (by omega)
  have hcp := drun_copy_strs w l.length a cap l rfl hc
  have HR := hide (And.intro (lineV_own w l l.length rfl (by omega)) (And.intro ((Only.refl (fun _ => False) w).alloc (.cells (lineV l).toArray 9)) (show w.heap.size < (w.alloc (.cells (lineV l).toArray 9)).heap.size by simp)))
  clear hc h
  go_enter Try.func24, Try.ntmps24
  go_wp2_with fail
  go_ret
  exact ⟨_, rfl, (unhide HR).1, (unhide HR).2.1, Nat.le_refl _, (unhide HR).2.2⟩
theorem LnIn.shape {w : World} {v : Value} {l : List Str} (h : LnIn w v l) : ∃ a c, v = .slice a l.length c := by
  obtain ⟨a, c, e, _⟩ := h.parts
  exact ⟨a, c, e⟩
set_option maxRecDepth 100000 in
theorem copyHunk_any {w : World} (at_ : Int) (dv iv : Value) (D N : List Str) (hD : LnIn w dv D) (hN : LnIn w iv N) (hdl : D.length ≤ 100000) (hnl : N.length ≤ 100000) :
    Calls Try.prog 25 #[.agg #[.int .i64 at_, dv, iv]] w fun e w' => ∃ d n : Nat, e = .returned (.agg #[.int .i64 at_, .slice (some ⟨d, 0, none⟩) D.length D.length, .slice (some ⟨n, 0, none⟩) N.length N.length]) ∧ OwnL w' (.slice (some ⟨d, 0, none⟩) D.length D.length) D ∧ OwnL w' (.slice (some ⟨n, 0, none⟩) N.length N.length) N ∧ Only (fun _ => False) w w' ∧ w.heap.size ≤ d ∧ d < n ∧ n < w'.heap.size := by
  obtain ⟨da, dc, rfl⟩ := hD.shape
  obtain ⟨na, nc, rfl⟩ := hN.shape
  have oA := ((Only.refl (fun _ => False) w).alloc (.cells #[.int .i64 at_, .slice da D.length dc, .slice na N.length nc] 62)).alloc (.cells #[.int .i64 0, .slice none 0 0, .slice none 0 0] 62)
  have C1 := hide (copyLines_any _ D (hD.keep oA (fun _ _ h => h)) hdl)
  have C2 := hide (fun W (hW : Only (fun _ => False) ((w.alloc (.cells #[.int .i64 at_, .slice da D.length dc, .slice na N.length nc] 62)).alloc (.cells #[.int .i64 0, .slice none 0 0, .slice none 0 0] 62)) W) => copyLines_any _ N ((hN.keep oA (fun _ _ h => h)).keep hW (fun _ _ h => h)) hnl)
  have h1 := (Has.new w #[.int .i64 at_, .slice da D.length dc, .slice na N.length nc] 62).alloc (.cells #[.int .i64 0, .slice none 0 0, .slice none 0 0] 62)
  have h2 := Has.new' (w.alloc (.cells #[.int .i64 at_, .slice da D.length dc, .slice na N.length nc] 62)) #[.int .i64 0, .slice none 0 0, .slice none 0 0] 62 (w.heap.size + 1) (by simp)
  have sA : w.heap.size + 1 < ((w.alloc (.cells #[.int .i64 at_, .slice da D.length dc, .slice na N.length nc] 62)).alloc (.cells #[.int .i64 0, .slice none 0 0, .slice none 0 0] 62)).heap.size := by simp
  have HA := hide oA
  have H1 := hide h1
  have H2 := hide h2
  clear hD hN oA h1 h2
  go_enter Try.func25, Try.ntmps25
  go_upto_region 1 with fail
  generalize (w.alloc (.cells #[.int .i64 at_, .slice da D.length dc, .slice na N.length nc] 62)).alloc (.cells #[.int .i64 0, .slice none 0 0, .slice none 0 0] 62) = W at *
  have c1 := (unhide H1).cell 1
  have l1 := (unhide H1).lt
  go_wp2_with fail
  refine (unhide C1).mono ?_
  rintro e w1 ⟨gd, rfl, oD, o1, s1, s1'⟩
  have g1 := (unhide H1).keep o1 (fun h => h)
  have c2 := g1.cell 2
  have l2 := g1.lt
  have C3 := hide (unhide C2 w1 o1)
  have OD := hide oD
  have O1 := hide o1
  have G1 := hide g1
  clear oD o1 g1 C1 C2 c1 l1
  go_wp2_with fail
  refine (unhide C3).mono ?_
  rintro e w2 ⟨gn, rfl, oN, o2, s2, s2'⟩
  have g2 := (unhide G1).keep o2 (fun h => h)
  have k2 := ((unhide H2).keep (unhide O1) (fun h => h)).keep o2 (fun h => h)
  have q0 := g2.cell 0
  have l3 := g2.lt
  have p0 := k2.cell 0
  have p1 := k2.cell 1
  have p2 := k2.cell 2
  have z0 := k2.free 0
  have z1 := k2.free 1
  have z2 := k2.free 2
  have l4 := k2.lt
  have hlD := ownsRow_ne ((unhide OD).keep o2 (fun _ _ h => h)).row k2 (by decide)
  have hlN := ownsRow_ne oN.row k2 (by decide)
  have OD2 := hide ((unhide OD).keep o2 (fun _ _ h => h))
  have ON2 := hide oN
  have hF := fun (W' : World) (hW : Only (fun y => y = w.heap.size + 1) w2 W') => And.intro ((unhide OD2).keep hW (fun y hy e => hlD y hy e)) (And.intro ((unhide ON2).keep hW (fun y hy e => hlN y hy e)) (And.intro (((unhide HA).trans ((unhide O1).trans o2 (fun _ _ h => h)) (fun _ _ h => h)).trans hW (fun y hy e => by omega)) hW.size))
  have HF := hide hF
  have oS := ((donly1 (w := w2) (p := w.heap.size + 1) 0 (.int .i64 at_)).trans (donly1 (p := w.heap.size + 1) 1 (.slice (some ⟨gd, 0, none⟩) D.length D.length)) (fun _ _ h => h)).trans (donly1 (p := w.heap.size + 1) 2 (.slice (some ⟨gn, 0, none⟩) N.length N.length)) (fun _ _ h => h)
  have OS := hide oS
  clear hF oS oN o2 g2 hlD hlN OD C3 c2 l2 G1
  go_wp2_with fail
  refine bodyPost_ret (v := .agg #[.int .i64 at_, .slice (some ⟨gd, 0, none⟩) D.length D.length, .slice (some ⟨gn, 0, none⟩) N.length N.length]) (by simp [results, Try.results25, go_sem, p0, p1, p2, l4]) rfl ?_
  obtain ⟨f1, f2, f3, f4⟩ := unhide HF _ (unhide OS)
  exact ⟨_, _, rfl, f1, f2, f3, by omega, by omega, by omega⟩
end Go.Proofs.Qxb6500416a
