/-
  OWN WORK. THE B-TREE: del.
-/
import Derived.Test.Qxb6500412aGreatBDl
import Derived.Test.Qxb6500412aGreatBMnd
namespace Go.Proofs.Qxb6500412aGreat
open Go.RowKit Go.PlainAid
set_option linter.unusedSimpArgs false
set_option linter.unusedVariables false

theorem Und.thin {N N1 : Nat → Option ByteArray} {h : Nat} {s : ByteArray} {hi : Option ByteArray} {k : ByteArray} {t : Tr (h + 2)} {xs ys : List (ByteArray × Tr (h + 1))} {s1 : ByteArray} {c' : Tr (h + 1)} {freed : List Nat} (U : Und N N1 h s hi k t xs ys s1 c' freed) (h1 : (itT c').length < 2) (h2 : 2 ≤ (itT t).length) (h4 : (itT t).length ≤ 4) : Thin N1 h hi xs ys s1 c' :=
  ⟨U.sz, U.z1, U.zc, by have := U.zc.1; omega, U.ch, U.st, U.nd, by have := U.len; omega, by have := U.len; omega⟩
theorem rep_same {h : Nat} {x : Node} {xs ys : List (ByteArray × Tr (h + 1))} {s1 : ByteArray} {c c' : Tr (h + 1)} (r : Rep (h + 1) x (xs ++ (s1, c) :: ys)) (hp : pgT c' = pgT c) : Rep (h + 1) x (xs ++ (s1, c') :: ys) := by
  have : RepI x (pk (xs ++ (s1, c) :: ys)) := r
  show RepI x (pk (xs ++ (s1, c') :: ys))
  rw [pk_app, pk_cons] at this ⊢
  rw [hp]
  exact this
section
variable {q : Gnd} {k : ByteArray}
set_option maxRecDepth 100000 in
set_option maxHeartbeats 6000000 in
theorem del_any : ∀ (h : Nat) {w : World} {view : List ByteArray} (A : FA q w true view) {s : ByteArray} {hi : Option ByteArray} {lo : Nat} {t : Tr (h + 1)} (g : Gd (NV view) h s hi lo t) (hk : lt k s = false) (hk2 : ltO k hi) (hK : HasK k (entsL h (itT t))) (fuel : Nat) (hfu : h < fuel) (hf8 : fuel ≤ 8),
    Calls Tryz.prog 306 #[.pointer (some ⟨q.f, 0, none⟩), .int .i64 (pgT t), .string k, .int .i64 fuel] w (DelPost q w view h s hi lo k t)
  | 0, w, view, A, s, hi, lo, t, g, hk, hk2, hK, fuel, hfu, hf8 => del_leaf A g hK fuel hfu hf8
  | h + 1, w, view, A, s, hi, lo, t, g, hk, hk2, hK, fuel, hfu, hf8 => by
    have hlo2 : lo = 2 := by rcases g.l2 with h1 | h1 <;> omega
    subst hlo2
    have ef : ((fuel - 1 : Nat) : Int) = (fuel : Int) - 1 := by omega
    have IH : ∀ (w : World) (_ : FA q w true view) (s : ByteArray) (hi : Option ByteArray) (t : Tr (h + 1)) (_ : Gd (NV view) h s hi 2 t) (_ : lt k s = false) (_ : ltO k hi) (_ : HasK k (entsL h (itT t))),
        Calls Tryz.prog 306 #[.pointer (some ⟨q.f, 0, none⟩), .int .i64 (pgT t), .string k, .int .i64 ((fuel : Int) - 1)] w (DelPost q w view h s hi 2 k t) := by
      intro w A s hi t g hk hk2 hK
      rw [← ef]
      exact del_any h A g hk hk2 hK (fuel - 1) (by omega) (by omega)
    have IH := hide IH
    clear ef
    have C := hide (load_any A g.st.1 g.fits)
    have hl4 : (itT t).length ≤ 4 := g.sz.2.1
    have hl2 : 2 ≤ (itT t).length := g.sz.1
    have hst0 := g.st.1
    have a0 : decide ((fuel : Int) ≤ 0) = false := decide_eq_false (by omega)
    go_enter Tryz.func306, Tryz.ntmps306
    go_wp2_with fail
    refine (unhide C).mono ?_
    rintro e w1 ⟨x, rfl, r, A1, o1⟩
    have HH := hide (And.intro r (And.intro A1 o1))
    have rk := r.kd1
    have kk : ((x.k : Int) == 1) = false := kk_f (b := 1) (by omega)
    have xn := r.n
    have x4 : x.n ≤ 4 := by omega
    have x2 : 2 ≤ x.n := by omega
    have hsz := o1.size
    clear A1 o1 r rk
    go_upto_region 2 with (first | (refine wpList_alloc_ndd 10 rfl rfl rfl ?_; intro b w2 hB gB oB; have HB := hide hB; have OB := hide oB; clear hB oB) | (refine wpList_store_nd rfl _ _ rfl b x rfl rfl (unhide HB) ?_; intro w3 n3 o3))
    have hb0 : w.heap.size ≤ b := Nat.le_trans hsz gB
    have A3 := ((unhide HH).2.1.quiet (unhide OB)).loc A hb0 o3
    have O2 := hide (((unhide HH).2.2.q0 (unhide OB)).qn o3 hb0)
    have A2 := hide A3
    have N2 := hide n3
    have nSb := A.nS hb0
    clear n3 o3 A3 HB OB gB hsz
    have c0 := (unhide N2).kind.1
    have CC := hide (childOf_any x k (by omega) (by omega) w3)
    go_wp2_with (first | (refine wpList_load_nd rfl _ rfl b rfl (unhide N2) ?_))
    refine (unhide CC).mono ?_
    rintro e w4 ⟨i, rfl, hcd, o4⟩
    obtain ⟨xs, e, ys, hit, hxl⟩ := cut_at (l := itT t) (i := i) (by have := hcd.lt_; omega)
    obtain ⟨s1, c⟩ := e
    have r := (unhide HH).1
    rw [hit] at r
    rw [← hxl] at hcd
    have I := g.inn hit
    obtain ⟨k1, k2⟩ := child_spot r hcd I.kfs hk hk2
    have hC := kid_at r
    rw [hxl] at hC hcd
    have hxi : i < x.n := hcd.lt_
    have hi4 : i < 5 := by omega
    have N4 := (unhide N2).keep o4 (fun h => h)
    have ck := (N4.kid i hi4).1
    rw [hC] at ck
    have A4 := (unhide A2).quiet o4
    have C2 := hide (unhide IH _ A4 _ _ _ I.gd k1 k2 ((I.hasK k1 k2).mp hK))
    have a5 : (i : Int) < 5 := by omega
    have O4 := hide ((unhide O2).q0 o4)
    have HN4 := hide N4
    have RR := hide r
    have II := hide I
    have K1 := hide k1
    have K2 := hide k2
    have HXL := hide hxl
    clear hcd r I k1 k2 hC N4 A4 o4 c0 CC IH C HH hxl
    go_wp2_with fail
    refine (unhide C2).mono ?_
    rintro e w5 ⟨view1, c', freed, rfl, DA, A5, o5⟩
    have U := (unhide II).und (unhide K1) (unhide K2) DA
    have N5 := hide ((unhide HN4).keep o5 nSb)
    have O5 := hide ((unhide O4).qt o5)
    have AA5 := hide A5
    have RS := hide (rep_same (unhide RR) DA.pg)
    clear A5 o5 ck C2 HN4 O4 O2 A2 N2
    by_cases hth : (itT c').length < 2
    · have T := U.thin hth hl2 hl4
      have b1 : decide ((itT c').length < 2) = true := decide_eq_true hth
      rw [b1]
      have CM := mend_any (unhide AA5) T (unhide RS)
      rw [unhide HXL] at CM
      have CM := hide CM
      have UU := hide U
      clear T U b1 DA RS RR
      go_wp2_with (first | (refine wpList_load_nd rfl _ rfl b rfl (unhide N5) ?_))
      refine (unhide CM).mono ?_
      rintro e w6 ⟨y, view2, l', freed2, rfl, ry, M, A6, o6⟩
      have N6 := hide ((unhide N5).keep o6 nSb)
      have O6 := hide ((unhide O5).qt o6)
      have AA6 := hide A6
      have lens := M.len
      have ln0 := (unhide UU).len
      have ry1 := ry.n
      have RY := hide ry
      have hat : NV view2 (pgT t) = some (page (ndOf (h + 1) (itT t))) := by
        rw [M.fr.out (pgT t) (fun hm => (unhide UU).tn ((unhide UU).pm.mem_iff.mp (by simp only [List.mem_append]; exact .inl hm))), (unhide UU).at_]
        exact hst0
      have ft : Fits (h + 1) l' := Fits.of (N := NV view2) NV_lt (show l'.length ≤ 4 by omega) (.inr (by omega)) M.sz M.st
      have MM := hide M
      clear A6 o6 M ry CM N5 O5 AA5
      go_upto_region 19 with (first | (refine wpList_store_nd rfl _ _ rfl b y rfl rfl (unhide N6) ?_; intro w7 n7 o7))
      have A7 := hide ((unhide AA6).loc A hb0 o7)
      have O7 := hide ((unhide O6).qn o7 hb0)
      have N7 := hide n7
      clear n7 o7 N6 AA6 O6
      have CS := hide (store_any ((unhide A7).quiet (Only.refl _ w7).drew) hat (unhide RY) ft)
      clear ft hat
      have YN := hide ry1
      clear ry1
      refine wp_region_held_drew (S := (fun w' => NdAt w' b y)) (by kernel_rfl) (unhide N7).drew (fun hH0 => ?_)
      refine takeH 0 91 (v := ?vd9) rfl rfl (by kernel_rfl) (by kernel_rfl) (by kernel_rfl) (fun _ _ _ h => h) (Or.inl ⟨by rfl, ?hd9⟩) hH0 ?rd9
      case hd9 => (intro w hSw; (try dsimp only at hSw); go_simp; (try with_reducible rfl))
      case rd9 =>
      try simp only [Act.put, List.setIfInBounds_toArray, List.set_cons_zero, List.set_cons_succ]
      refine takeH 1 92 (v := ?vd10) rfl rfl (by kernel_rfl) (by kernel_rfl) (by kernel_rfl) (fun _ _ _ h => h) (Or.inl ⟨by rfl, ?hd10⟩) hH0 ?rd10
      case hd10 => (intro w hSw; have q1 := (NdAt.num hSw).1; clear hSw; go_simp; (try with_reducible rfl))
      case rd10 =>
      try simp only [Act.put, List.setIfInBounds_toArray, List.set_cons_zero, List.set_cons_succ]
      refine takeH 2 93 (v := ?vd11) rfl rfl (by kernel_rfl) (by kernel_rfl) (by kernel_rfl) (fun _ _ _ h => h) (Or.inl ⟨by rfl, ?hd11⟩) hH0 ?rd11
      case hd11 => (intro w hSw; (try dsimp only at hSw); go_simp; (try with_reducible rfl))
      case rd11 =>
      try simp only [Act.put, List.setIfInBounds_toArray, List.set_cons_zero, List.set_cons_succ]
      refine takeH 3 94 (v := ?vd12) rfl rfl (by kernel_rfl) (by kernel_rfl) (by kernel_rfl) (fun _ _ _ h => h) (Or.inl ⟨by rfl, ?hd12⟩) hH0 ?rd12
      case hd12 => (intro w hSw; (try dsimp only at hSw); go_simp; (try with_reducible rfl))
      case rd12 =>
      try simp only [Act.put, List.setIfInBounds_toArray, List.set_cons_zero, List.set_cons_succ]
      refine takeH 4 95 (v := ?vd13) rfl rfl (by kernel_rfl) (by kernel_rfl) (by kernel_rfl) (fun _ _ _ h => h) (Or.inl ⟨by rfl, ?hd13⟩) hH0 ?rd13
      case hd13 => (intro w hSw; (try dsimp only at hSw); go_simp; (try with_reducible rfl))
      case rd13 =>
      try simp only [Act.put, List.setIfInBounds_toArray, List.set_cons_zero, List.set_cons_succ]
      refine takeH 5 96 rfl rfl (by kernel_rfl) (by kernel_rfl) (by kernel_rfl) (fun _ _ _ h => h) (yieldsIf_load_nd (by rfl) _ rfl b rfl y (fun _ h => h)) hH0 ?rd14
      case rd14 =>
      try simp only [Act.put, List.setIfInBounds_toArray, List.set_cons_zero, List.set_cons_succ]
      refine callH 6 (by kernel_rfl) rfl 97 rfl rfl 152 Tryz.func152 (by kernel_rfl) (by kernel_rfl) #[.tmp 94, .tmp 95, .tmp 96] #[65, 3, 218] rfl #[.pointer (some ⟨q.f, 0, none⟩), .int .i64 (pgT t), ndA y] (by simp [Act.eval]) (R := fun v w' => v = .int .i64 0 ∧ (∃ view', FA q w' true view' ∧ NV view' = setN (NV view2) (pgT t) (some (page (ndOf (h + 1) l')))) ∧ Only q.S w7.drew w') ((unhide CS).mono (by rintro en w' ⟨rfl, h1, h2⟩; exact ⟨_, rfl, rfl, h1, h2⟩)) ?kcs
      case kcs =>
      rintro _ w6 ⟨rfl, hV, o6⟩
      have S6 := NdAt.keep hH0 o6 nSb
      have O6 := hide ((unhide O7).drew.qt o6)
      have HV := hide hV
      refine ⟨S6, ?_⟩
      clear hV o6
      try simp only [Act.put, List.setIfInBounds_toArray, List.set_cons_zero, List.set_cons_succ]
      refine takeH 7 8 (v := ?vd15) rfl rfl (by kernel_rfl) (by kernel_rfl) (by kernel_rfl) (fun _ _ _ h => h) (Or.inl ⟨by rfl, ?hd15⟩) S6 ?rd15
      case hd15 => (intro w hSw; (try dsimp only at hSw); go_simp; (try with_reducible rfl))
      case rd15 =>
      try simp only [Act.put, List.setIfInBounds_toArray, List.set_cons_zero, List.set_cons_succ]
      refine takeH 8 9 (v := ?vd16) rfl rfl (by kernel_rfl) (by kernel_rfl) (by kernel_rfl) (fun _ _ _ h => h) (Or.inl ⟨by rfl, ?hd16⟩) S6 ?rd16
      case hd16 => (intro w hSw; (try dsimp only at hSw); go_simp; (try with_reducible rfl))
      case rd16 =>
      try simp only [Act.put, List.setIfInBounds_toArray, List.set_cons_zero, List.set_cons_succ]
      refine wpAnyH_done (by kernel_rfl) ?_ _
      clear S6 hH0 CS
      go_wp2_with fail
      go_ret2
      obtain ⟨view', A8, e8⟩ := unhide HV
      have D := (unhide UU).mended (unhide MM) hl4 hl2
      rw [← e8] at D
      refine ⟨view', _, _, ?_, D, A8, unhide O6⟩
      have := unhide YN
      show Ending.returned (.tuple #[.bool (decide ((y.n : Int) < 2)), .int .i64 0]) = Ending.returned (.tuple #[.bool (decide (l'.length < 2)), .int .i64 0])
      rw [this]
      congr 4
      simp
      omega
    · have b1 : decide ((itT c').length < 2) = false := decide_eq_false hth
      rw [b1]
      have D := U.done (by omega) hl4 hl2 hst0
      have ln0 := U.len
      have DD := hide (And.intro D ln0)
      clear D U b1 DA RS RR ln0
      go_wp2_with fail
      go_ret2
      refine ⟨view1, _, freed, ?_, (unhide DD).1, unhide AA5, unhide O5⟩
      have h1 := (unhide DD).2
      have h2 : decide ((xs ++ (s1, c') :: ys).length < 2) = false := decide_eq_false (by omega)
      show _ = Ending.returned (.tuple #[.bool (decide ((xs ++ (s1, c') :: ys).length < 2)), .int .i64 0])
      rw [h2]
      rfl
end
end Go.Proofs.Qxb6500412aGreat
