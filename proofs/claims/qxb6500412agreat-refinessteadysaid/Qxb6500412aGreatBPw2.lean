/-
  OWN WORK. THE B-TREE: put.
-/
import Derived.Test.Qxb6500412aGreatBPw
namespace Go.Proofs.Qxb6500412aGreat
open Go.RowKit Go.PlainAid
set_option linter.unusedSimpArgs false
set_option linter.unusedVariables false

section
variable {q : Gnd} {k v : ByteArray}
set_option maxRecDepth 100000 in
set_option maxHeartbeats 6000000 in
theorem put_any : ∀ (h : Nat) {w : World} {view : List ByteArray} (A : FA q w true view) {s : ByteArray} {hi : Option ByteArray} {lo : Nat} {t : Tr (h + 1)} (g : Gd (NV view) h s hi lo t) (hk : lt k s = false) (hk2 : ltO k hi) (k16 : k.size ≤ 16) (v16 : v.size ≤ 16) {us : List Nat} (hc : Cov (NV view) us) (hu : ¬ HasK k (entsL h (itT t)) → us.length + (entsL h (itT t)).length ≤ 72 + (pgs (h + 1) t).length) (fuel : Nat) (hfu : h < fuel) (hf8 : fuel ≤ 8),
    Calls Tryz.prog 304 #[.pointer (some ⟨q.f, 0, none⟩), .int .i64 (pgT t), .string k, .string v, .int .i64 fuel] w (PutPost q w view h s hi lo k v t)
  | 0, w, view, A, s, hi, lo, t, g, hk, hk2, k16, v16, us, hc, hu, fuel, hfu, hf8 => put_leaf A g hk hk2 k16 v16 hc hu fuel hfu hf8
  | h + 1, w, view, A, s, hi, lo, t, g, hk, hk2, k16, v16, us, hc, hu, fuel, hfu, hf8 => by
    have hlo2 : lo = 2 := by rcases g.l2 with h1 | h1 <;> omega
    subst hlo2
    have ef : ((fuel - 1 : Nat) : Int) = (fuel : Int) - 1 := by omega
    have IH : ∀ (w : World) (_ : FA q w true view) (s : ByteArray) (hi : Option ByteArray) (t : Tr (h + 1)) (_ : Gd (NV view) h s hi 2 t) (_ : lt k s = false) (_ : ltO k hi) (_ : ¬ HasK k (entsL h (itT t)) → us.length + (entsL h (itT t)).length ≤ 72 + (pgs (h + 1) t).length),
        Calls Tryz.prog 304 #[.pointer (some ⟨q.f, 0, none⟩), .int .i64 (pgT t), .string k, .string v, .int .i64 ((fuel : Int) - 1)] w (PutPost q w view h s hi 2 k v t) := by
      intro w A s hi t g hk hk2 hu
      rw [← ef]
      exact put_any h A g hk hk2 k16 v16 hc hu (fuel - 1) (by omega) (by omega)
    have IH := hide IH
    clear ef
    have C := hide (load_any A g.st.1 g.fits)
    have hl4 : (itT t).length ≤ 4 := g.sz.2.1
    have hl2 : 2 ≤ (itT t).length := g.sz.1
    have hst0 := g.st.1
    have hsto := g.st
    have a0 : decide ((fuel : Int) ≤ 0) = false := decide_eq_false (by omega)
    go_enter Tryz.func304, Tryz.ntmps304
    go_wp2_with fail
    refine (unhide C).mono ?_
    rintro e w1 ⟨x, rfl, r, A1, o1⟩
    have HH := hide (And.intro r (And.intro A1 o1))
    have rk := r.kd1
    have kk : ((x.k : Int) == 1) = false := kk_f (b := 1) (by omega)
    have xn := r.n
    have x4 : x.n ≤ 4 := by omega
    have x2 : 2 ≤ x.n := by omega
    have hsz := o1.size
    clear A1 o1 r rk
    go_upto_region 2 with (first | (refine wpList_alloc_ndd 13 rfl rfl rfl ?_; intro b w2 hB gB oB; have HB := hide hB; have OB := hide oB; clear hB oB) | (refine wpList_store_nd rfl _ _ rfl b x rfl rfl (unhide HB) ?_; intro w3 n3 o3))
    have hb0 : w.heap.size ≤ b := Nat.le_trans hsz gB
    have A3 := ((unhide HH).2.1.quiet (unhide OB)).loc A hb0 o3
    have O2 := hide (((unhide HH).2.2.q0 (unhide OB)).qn o3 hb0)
    have A2 := hide A3
    have N2 := hide n3
    have nSb0 := A.nS hb0
    clear n3 o3 A3 HB OB gB hsz
    have c0 := (unhide N2).kind.1
    have CC := hide (childOf_any x k (by omega) (by omega) w3)
    go_wp2_with (first | (refine wpList_load_nd rfl _ rfl b rfl (unhide N2) ?_))
    refine (unhide CC).mono ?_
    rintro e w4 ⟨i, rfl, hcd, o4⟩
    obtain ⟨xs, e, ys, hit, rfl⟩ := cut_at (l := itT t) (i := i) (by have := hcd.lt_; omega)
    obtain ⟨s1, c⟩ := e
    have r := (unhide HH).1
    rw [hit] at r
    have I := g.inn hit
    obtain ⟨k1, k2⟩ := child_spot r hcd I.kfs hk hk2
    have hC := kid_at r
    have hxi : xs.length < x.n := hcd.lt_
    have hi4 : xs.length < 5 := by omega
    have N4 := (unhide N2).keep o4 (fun h => h)
    have ck := (N4.kid xs.length hi4).1
    rw [hC] at ck
    have A4 := (unhide A2).quiet o4
    have C2 := hide (unhide IH _ A4 _ _ _ I.gd k1 k2 (fun hn => I.room (hu (fun hh => hn ((I.hasK k1 k2).mp hh)))))
    have a5 : (xs.length : Int) < 5 := by omega
    have O4 := hide ((unhide O2).q0 o4)
    have HN4 := hide N4
    have RR := hide r
    have II := hide I
    have K1 := hide k1
    have K2 := hide k2
    clear hcd r I k1 k2 hC N4 A4 o4 c0 CC IH C HH
    go_wp2_with fail
    refine (unhide C2).mono ?_
    rintro e w5 ⟨view3, fresh, A5, o5, hcase⟩
    have N5 := hide ((unhide HN4).keep o5 nSb0)
    have O5 := hide ((unhide O4).qt o5)
    have AA5 := hide A5
    clear A5 o5 ck C2 HN4 O4 O2 A2 N2
    rcases hcase with ⟨c', rfl, PA⟩ | ⟨c1, c2, up, rfl, PB⟩
    · have PT := hide ((unhide II).putA (unhide K1) (unhide K2) PA)
      clear PA
      unfold bE
      go_wp2_with fail
      go_ret3
      exact ⟨view3, _, unhide AA5, unhide O5, .inl ⟨_, rfl, unhide PT⟩⟩
    · have OVi := (unhide II).over (unhide K1) (unhide K2) PB
      have hr1 : 1 ≤ pgT c2 := (NV_some PB.s2.1).1
      have z1 : ((pgT c2 : Int) == 0) = false := by simp; omega
      have CP := hide (innerPut_any x xs.length up (pgT c2) hxi x4 w5)
      have PG1 := hide PB.pg
      have OV := hide OVi
      clear OVi PB hr1
      go_wp2_with (first | (refine wpList_load_nd rfl _ rfl b rfl (unhide N5) ?_))
      refine (unhide CP).mono ?_
      rintro e w6 ⟨y, rfl, hy, o6⟩
      have r3 : Rep (h + 1) y (xs ++ (s1, c1) :: (up, c2) :: ys) := by
        have rr : RepI x (pk (xs ++ (s1, c) :: ys)) := unhide RR
        rw [pk_app, pk_cons] at rr
        have hy' : IPut x (pk xs).length up (pgT c2) y := by rw [pk_len]; exact hy
        have := RepI.put rr hy'
        show RepI y (pk (xs ++ (s1, c1) :: (up, c2) :: ys))
        rw [pk_app, pk_cons, pk_cons]
        show RepI y (pk xs ++ (s1, pgT c1) :: (up, pgT c2) :: pk ys)
        rw [unhide PG1]
        exact this
      have N6 := hide ((unhide N5).keep o6 (fun h => h))
      have A6 := hide ((unhide AA5).quiet o6)
      have O6 := hide ((unhide O5).q0 o6)
      clear hy o6 CP N5 AA5 O5 RR PG1
      go_upto_region 13 with (first | (refine wpList_store_nd rfl _ _ rfl b y rfl rfl (unhide N6) ?_; intro w8 n5 o5))
      have N3 := hide n5
      have AA := hide ((unhide A6).loc A hb0 o5)
      have O3 := hide ((unhide O6).qn o5 hb0)
      clear n5 o5 N6 A6 O6
      have R3 := hide r3
      clear r3
      have hlo3 : (h + 1) = 0 ∨ 1 ≤ (xs ++ (s1, c1) :: (up, c2) :: ys).length := .inr (by simp; omega)
      clear z1 a5 hi4
      generalize hl3g : xs ++ (s1, c1) :: (up, c2) :: ys = l3 at *
      have hmx : mx (h + 1) = 4 := rfl
      have yn := (unhide R3).n
      have ymx := (unhide OV).mt
      have c1 := (unhide N3).num.1
      have hat := (unhide OV).at_
      have hN3 := hat.trans hst0
      by_cases hfit : y.n ≤ 4
      · have a1 : decide ((y.n : Int) ≤ 4) = true := decide_eq_true (by omega)
        have ft := Fits.of (N := NV view3) NV_lt (show l3.length ≤ mx (h + 1) by omega) hlo3 (unhide OV).sz (unhide OV).st
        have CS := hide (store_any (unhide AA) hN3 (unhide R3) ft)
        have PA := hide ((unhide OV).fit (by omega))
        clear ft hat hN3
        go_wp2_with (first | (refine wpList_load_nd rfl _ rfl b rfl (unhide N3) ?_))
        refine (unhide CS).mono ?_
        rintro e w9 ⟨rfl, ⟨view9, A9, e9⟩, o9⟩
        have PA2 := unhide PA
        rw [← e9] at PA2
        have FF := hide (And.intro A9 (And.intro o9 PA2))
        clear A9 o9 PA2 e9 PA
        go_wp2_with fail
        go_ret3
        exact ⟨view9, _, (unhide FF).1, (unhide O3).qt (unhide FF).2.1, .inl ⟨_, rfl, (unhide FF).2.2⟩⟩
      · have a1 : decide ((y.n : Int) ≤ 4) = false := decide_eq_false (by omega)
        have hl3 : l3.length = mx (h + 1) + 1 := by omega
        have fts := Fits.take (view := view3) hl3 (unhide OV).sz (unhide OV).st
        have room := (unhide OV).room hl3 hu
        have cov := (unhide OV).cov hc hsto
        have SP := hide (split_any y (by omega) (by omega) w8)
        clear hat
        go_wp2_with (first | (refine wpList_load_nd rfl _ rfl b rfl (unhide N3) ?_))
        refine (unhide SP).mono ?_
        rintro e w5 ⟨ya, yb, up, rfl, hsp, o5⟩
        obtain ⟨ra, rb, hup⟩ := (unhide R3).split hl3 hsp
        have A5 := (unhide AA).quiet o5
        have sz5 : w.heap.size ≤ w5.heap.size := Nat.le_trans (unhide O3).size o5.size
        have HR := hide (And.intro ra (And.intro rb hup))
        have H5 := hide (And.intro A5 ((unhide O3).q0 o5))
        clear ra rb hup hsp A5 o5
        go_upto_region 16 with (first | (refine wpList_alloc_ndd 20 rfl rfl rfl ?_; intro ba w6 hB gB oB; have HBa := hide hB; have OBa := hide oB; have GBa := hide gB; clear hB oB gB) | (refine wpList_alloc_ndd 21 rfl rfl rfl ?_; intro bb w7 hB gB oB; have HBb := hide hB; have OBb := hide oB; have GBb := hide gB; have HBa2 := hide ((unhide HBa).keep oB (fun h => h)); clear hB oB gB) | (refine wpList_store_nd rfl _ _ rfl ba ya rfl rfl (unhide HBa2) ?_; intro w8 na oa; have NA := hide na; have OA := hide oa; clear na oa) | (refine wpList_store_nd rfl _ _ rfl bb yb rfl rfl ((unhide HBb).keep (unhide OA) (fun e => by have q1 := Has.lt (unhide HBa); have q2 := unhide GBb; omega)) ?_; intro w9 nb ob; have NB := hide nb; have OB := hide ob; clear nb ob))
        have q1 := Has.lt (unhide HBa)
        have q2 := unhide GBb
        have q3 := unhide GBa
        have hab : ba < bb := by omega
        have ga0 : w.heap.size ≤ ba := by omega
        have gb0 : w.heap.size ≤ bb := by omega
        have A9 := ((((unhide H5).1.quiet (unhide OBa)).quiet (unhide OBb)).loc A ga0 (unhide OA)).loc A gb0 (unhide OB)
        have O9 := hide ((((unhide H5).2.q0 (unhide OBa)).q0 (unhide OBb)).qn (unhide OA) ga0 |>.qn (unhide OB) gb0)
        have NA9 := hide ((unhide NA).keep (unhide OB) (fun e => by omega))
        have NB9 := NB
        have AA9 := hide A9
        have nSa := A.nS ga0
        have nSb := A.nS gb0
        clear HBa OBa GBa HBb OBb GBb HBa2 NA OA OB NB H5 q1 q2 q3 sz5 A9 c1
        have cp := (unhide AA9).ptr
        have CA := hide (qalloc (unhide AA9) cov (by rw [List.length_append]; exact room))
        go_wp2_with fail
        refine (unhide CA).mono ?_
        rintro e w10 ⟨pr, rfl, ⟨view10, A10, e10⟩, ⟨p1, p72, pnone⟩, o10⟩
        have hpt : pgT t ≠ pr := fun e => by rw [← e, hN3] at pnone; cases pnone
        have hN10 : NV view10 (pgT t) = some (page (ndOf _ (itT t))) := by rw [e10, setN_other _ _ hpt]; exact hN3
        have CS := hide (store_any A10 hN10 (unhide HR).1 fts.1)
        have NA10 := hide ((unhide NA9).keep o10 nSa)
        have NB10 := hide ((unhide NB9).keep o10 nSb)
        have O10 := hide ((unhide O9).qt o10)
        have E10 := hide e10
        have PN := hide pnone
        clear A10 o10 e10 pnone cp CA
        go_wp2_with (first | (refine wpList_load_nd rfl _ rfl ba rfl (unhide NA10) ?_))
        refine (unhide CS).mono ?_
        rintro e w11 ⟨rfl, ⟨view11, A11, e11⟩, o11⟩
        have hN11 : NV view11 pr = some zeroB := by rw [e11, setN_other _ _ (fun e => hpt e.symm), unhide E10, setN_same]
        have CS2 := hide (store_any A11 hN11 (unhide HR).2.1 fts.2)
        have NB11 := hide ((unhide NB10).keep o11 nSb)
        have O11 := hide ((unhide O10).qt o11)
        have E11 := hide e11
        clear A11 o11 e11 CS hN10
        go_wp2_with (first | (refine wpList_load_nd rfl _ rfl bb rfl (unhide NB11) ?_))
        refine (unhide CS2).mono ?_
        rintro e w12 ⟨rfl, ⟨view12, A12, e12⟩, o12⟩
        obtain ⟨e2, he2⟩ : ∃ e2, l3[2]? = some e2 := get_ex (by have := mx_lo (h + 1); omega)
        have PB := (unhide OV).split hl3 (z := zeroB) he2 ((unhide HR).2.2 e2 he2) (unhide PN) ⟨_, hst0⟩ (fun n hn => hsto.some n (by rw [pgs_succ]; simp [hn]))
        rw [← unhide E10, ← unhide E11, ← e12] at PB
        have FF := hide (And.intro A12 (And.intro o12 PB))
        clear A12 o12 e12 PB he2 e2 CS2 hN11
        go_wp2_with fail
        go_ret3
        exact ⟨view12, _, (unhide FF).1, (unhide O11).qt (unhide FF).2.1, .inr ⟨_, _, up, rfl, (unhide FF).2.2⟩⟩
end
end Go.Proofs.Qxb6500412aGreat
