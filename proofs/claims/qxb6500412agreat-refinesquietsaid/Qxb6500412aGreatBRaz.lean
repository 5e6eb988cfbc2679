/-
  OWN WORK. THE B-TREE: store2, raze.
-/
import Derived.Test.Qxb6500412aGreatBPp
namespace Go.Proofs.Qxb6500412aGreat
open Go.RowKit Go.PlainAid
set_option linter.unusedSimpArgs false
set_option linter.unusedVariables false

section
variable {q : Gnd}
set_option maxRecDepth 100000 in
theorem store2_any {w : World} {view : List ByteArray} {h : Nat} {x y : Node} {l m : List (ByteArray × Tr h)} (A : FA q w true view) {pa pb : Nat} {b0 b1 : ByteArray} (ha : NV view pa = some b0) (hb : NV view pb = some b1) (rx : Rep h x l) (ry : Rep h y m) (fx : Fits h l) (fy : Fits h m) :
    Calls Tryz.prog 353 #[.pointer (some ⟨q.f, 0, none⟩), .int .i64 pa, ndA x, .int .i64 pb, ndA y] w fun e w' => e = .returned (.int .i64 0) ∧ (∃ view', FA q w' true view' ∧ NV view' = setN (setN (NV view) pa (some (page (ndOf h l)))) pb (some (page (ndOf h m)))) ∧ Only q.S w w' := by
  go_enter Tryz.func353, Tryz.ntmps353
  go_upto_region 1 with (first | (refine wpList_box_ndd 7 rfl rfl _ rfl x rfl ?_; intro g w1 hG gG oG) | (refine wpList_box_ndd 9 rfl rfl _ rfl y rfl ?_; intro g2 w2 hG2 gG2 oG2))
  have A2 := (A.quiet oG).quiet oG2
  have C1 := hide (store_any A2 ha rx fx)
  have N1 := hide (hG.keep oG2 (fun h => h))
  have N2 := hide hG2
  have O2 := hide (oG.q0 oG2)
  have hg2 : w.heap.size ≤ g2 := Nat.le_trans oG.size gG2
  have nS2 := A.nS hg2
  clear hG hG2 oG oG2 A2 gG gG2
  go_wp2_with (first | (refine wpList_load_nd rfl _ rfl g rfl (unhide N1) ?_))
  refine (unhide C1).mono ?_
  rintro e w3 ⟨rfl, ⟨view3, A3, e3⟩, o3⟩
  have hb3 : ∃ b, NV view3 pb = some b := by
    rw [e3]
    by_cases e : pb = pa
    · rw [e, setN_same]; exact ⟨_, rfl⟩
    · rw [setN_other _ _ e]; exact ⟨_, hb⟩
  obtain ⟨b3, hb3⟩ := hb3
  have C2 := hide (store_any A3 hb3 ry fy)
  have N3 := hide ((unhide N2).keep o3 nS2)
  have O3 := hide ((unhide O2).up.qt o3)
  have E3 := hide e3
  clear A3 o3 e3 N1 N2 O2 C1
  go_wp2_with (first | (refine wpList_load_nd rfl _ rfl g2 rfl (unhide N3) ?_))
  refine (unhide C2).mono ?_
  rintro e w4 ⟨rfl, ⟨view4, A4, e4⟩, o4⟩
  rw [unhide E3] at e4
  have FF := hide (And.intro A4 (And.intro e4 o4))
  clear A4 e4 o4
  go_wp2_with fail
  go_ret
  exact ⟨rfl, ⟨view4, (unhide FF).1, (unhide FF).2.1⟩, (unhide O3).qt (unhide FF).2.2⟩
/-- The pages without those of a list. -/
def offN (N : Nat → Option ByteArray) (ps : List Nat) : Nat → Option ByteArray := fun n => if n ∈ ps then none else N n
theorem offN_nil (N : Nat → Option ByteArray) : offN N [] = N := by funext n; simp [offN]
theorem offN_off (N : Nat → Option ByteArray) (a b : List Nat) : offN (offN N a) b = offN N (a ++ b) := by
  funext n
  unfold offN
  by_cases h1 : n ∈ b
  · rw [if_pos h1, if_pos (by simp [h1])]
  · rw [if_neg h1]
    by_cases h2 : n ∈ a
    · rw [if_pos h2, if_pos (by simp [h2])]
    · rw [if_neg h2, if_neg (by simp [h1, h2])]
theorem offN_one (N : Nat → Option ByteArray) (a : List Nat) (p : Nat) : setN (offN N a) p none = offN N (p :: a) := by
  funext n
  unfold setN offN
  by_cases h1 : n = p
  · rw [if_pos h1, if_pos (by simp [h1])]
  · rw [if_neg h1]
    by_cases h2 : n ∈ a
    · rw [if_pos h2, if_pos (by simp [h2])]
    · rw [if_neg h2, if_neg (by simp [h1, h2])]
theorem Inn.gdOff {N : Nat → Option ByteArray} {h : Nat} {s : ByteArray} {hi : Option ByteArray} {t : Tr (h + 2)} {xs ys : List (ByteArray × Tr (h + 1))} {s1 : ByteArray} {c : Tr (h + 1)} (I : Inn N h s hi t xs ys s1 c) : Gd (offN N (pgsL (h + 1) xs)) h s1 (bnd ys hi) 2 c :=
  ⟨I.cz, I.cbd, I.cst.keep (fun n hn => by unfold offN; rw [if_neg (I.nds.2.2.2.2 n hn).1]), I.nds.2.2.2.1, .inr rfl⟩
def RazeR (q : Gnd) (w : World) (view : List ByteArray) (h : Nat) (t : Tr (h + 1)) (e : Ending) (w' : World) : Prop :=
  e = .returned (.tuple #[.int .i64 (entsL h (itT t)).length, .int .i64 0]) ∧ (∃ view', FA q w' true view' ∧ NV view' = offN (NV view) (pgs (h + 1) t)) ∧ Only q.S w w'
set_option maxRecDepth 100000 in
set_option maxHeartbeats 4000000 in
theorem raze_leaf {w : World} {view : List ByteArray} (A : FA q w true view) {s : ByteArray} {hi : Option ByteArray} {lo : Nat} {t : Tr 1} (g : Gd (NV view) 0 s hi lo t) (fuel : Nat) (hfu : 0 < fuel) (hf8 : fuel ≤ 8) :
    Calls Tryz.prog 305 #[.pointer (some ⟨q.f, 0, none⟩), .int .i64 (pgT t), .int .i64 fuel] w (RazeR q w view 0 t) := by
  have C := hide (load_any A g.st.1 g.fits)
  have hst0 := g.st.1
  have a0 : decide ((fuel : Int) ≤ 0) = false := decide_eq_false (by omega)
  go_enter Tryz.func305, Tryz.ntmps305
  go_wp2_with fail
  refine (unhide C).mono ?_
  rintro e w1 ⟨x, rfl, r, A1, o1⟩
  have HH := hide (And.intro r (And.intro A1 o1))
  have rk := r.kd0
  have kk : ((x.k : Int) == 1) = true := kk_t (b := 1) rk
  have hsz := o1.size
  clear A1 o1 r rk
  go_upto_region 2 with (first | (refine wpList_alloc_ndd 8 rfl rfl rfl ?_; intro b w2 hB gB oB; have HB := hide hB; have OB := hide oB; clear hB oB) | (refine wpList_store_nd rfl _ _ rfl b x rfl rfl (unhide HB) ?_; intro w3 n3 o3))
  have hb0 : w.heap.size ≤ b := Nat.le_trans hsz gB
  have A3 := ((unhide HH).2.1.quiet (unhide OB)).loc A hb0 o3
  have O3 := hide (((unhide HH).2.2.q0 (unhide OB)).qn o3 hb0)
  have CF := hide (qfree A3 hst0)
  have cp := A3.ptr
  have N3 := hide n3
  clear n3 o3 A3 HB OB gB
  have c0 := (unhide N3).kind.1
  have c1 := (unhide N3).num.1
  go_wp2_with fail
  refine (unhide CF).mono ?_
  rintro e w4 ⟨rfl, ⟨view4, A4, e4⟩, o4⟩
  have FF := hide (And.intro A4 (And.intro e4 o4))
  clear A4 e4 o4
  go_wp2_with fail
  go_ret2
  refine ⟨?_, ⟨view4, (unhide FF).1, ?_⟩, (unhide O3).qt (unhide FF).2.2⟩
  · have hn := (unhide HH).1.n
    rw [show entsL 0 (itT t) = (show List KV from itT t) from entsL_zero _]
    show _ = Ending.returned (.tuple #[.int .i64 (((itT t).length : Nat) : Int), .int .i64 0])
    rw [← hn]
    rfl
  · rw [(unhide FF).2.1, pgs_succ, show pgsL 0 (itT t) = [] from pgsL_zero _, ← offN_one, offN_nil]
set_option maxRecDepth 100000 in
set_option maxHeartbeats 4000000 in
theorem raze_any : ∀ (h : Nat) {w : World} {view : List ByteArray} (A : FA q w true view) {s : ByteArray} {hi : Option ByteArray} {lo : Nat} {t : Tr (h + 1)} (g : Gd (NV view) h s hi lo t) (fuel : Nat) (hfu : h < fuel) (hf8 : fuel ≤ 8) (hen : (entsL h (itT t)).length ≤ 1000),
    Calls Tryz.prog 305 #[.pointer (some ⟨q.f, 0, none⟩), .int .i64 (pgT t), .int .i64 fuel] w (RazeR q w view h t)
  | 0, w, view, A, s, hi, lo, t, g, fuel, hfu, hf8, _ => raze_leaf A g fuel hfu hf8
  | h + 1, w, view, A, s, hi, lo, t, g, fuel, hfu, hf8, hen => by
    have ef : ((fuel - 1 : Nat) : Int) = (fuel : Int) - 1 := by omega
    have IH : ∀ (w : World) (view : List ByteArray) (_ : FA q w true view) (s : ByteArray) (hi : Option ByteArray) (t : Tr (h + 1)) (_ : Gd (NV view) h s hi 2 t) (_ : (entsL h (itT t)).length ≤ 1000),
        Calls Tryz.prog 305 #[.pointer (some ⟨q.f, 0, none⟩), .int .i64 (pgT t), .int .i64 ((fuel : Int) - 1)] w (RazeR q w view h t) := by
      intro w view A s hi t g hen
      rw [← ef]
      exact raze_any h A g (fuel - 1) (by omega) (by omega) hen
    have IH := hide IH
    clear ef
    have C := hide (load_any A g.st.1 g.fits)
    have hst0 := g.st.1
    have hl4 : (itT t).length ≤ 4 := g.sz.2.1
    have a0 : decide ((fuel : Int) ≤ 0) = false := decide_eq_false (by omega)
    go_enter Tryz.func305, Tryz.ntmps305
    go_wp2_with fail
    refine (unhide C).mono ?_
    rintro e w1 ⟨x, rfl, r, A1, o1⟩
    have HH := hide (And.intro r (And.intro A1 o1))
    have rk := r.kd1
    have kk : ((x.k : Int) == 1) = false := kk_f (b := 1) (by omega)
    have xn := r.n
    have x4 : x.n ≤ 4 := by omega
    have hsz := o1.size
    clear A1 o1 r rk
    go_upto_region 2 with (first | (refine wpList_alloc_ndd 8 rfl rfl rfl ?_; intro b w2 hB gB oB; have HB := hide hB; have OB := hide oB; clear hB oB) | (refine wpList_store_nd rfl _ _ rfl b x rfl rfl (unhide HB) ?_; intro w3 n3 o3))
    have hb0 : w.heap.size ≤ b := Nat.le_trans hsz gB
    have nSb := A.nS hb0
    have A3 := hide (((unhide HH).2.1.quiet (unhide OB)).loc A hb0 o3)
    have O3 := hide (((unhide HH).2.2.q0 (unhide OB)).qn o3 hb0)
    have N3 := hide n3
    clear n3 o3 HB OB gB
    have c0 := (unhide N3).kind.1
    go_upto_region 8 with fail
    clear c0
    go_loopw [10, 11] (fun cv iv wr => ∃ (i : Nat) (vi : List ByteArray), i ≤ x.n ∧ iv = .int .i64 i ∧ cv = .int .i64 ((entsL (h + 1) ((itT t).take i)).length : Nat) ∧ FA q wr true vi ∧ NV vi = offN (NV view) (pgsL (h + 1) ((itT t).take i)) ∧ NdAt wr b x ∧ Only q.S w wr) (fun _ iv _ => 5 - (intOf iv).toNat)
    case atStart => exact ⟨0, view, Nat.zero_le _, rfl, rfl, unhide A3, by simp [offN_nil], unhide N3, unhide O3⟩
    case round =>
      obtain ⟨i, vi, hi, rfl, rfl, Ai, ei, Ni, Oi⟩ := hrel
      have c1 := Ni.num.1
      by_cases hs : i < x.n
      · have a1 : decide ((i : Int) < (x.n : Int)) = true := decide_eq_true (by omega)
        obtain ⟨xs, e, ys, hit, hxl⟩ := cut_at (l := itT t) (i := i) (by omega)
        obtain ⟨s1, c⟩ := e
        have r := (unhide HH).1
        rw [hit] at r
        have I := g.inn hit
        have hC := kid_at r
        rw [hxl] at hC
        have ht : (itT t).take i = xs := by rw [hit, ← hxl]; simp
        have ht2 : (itT t).take (i + 1) = xs ++ [(s1, c)] := by rw [hit, ← hxl, List.take_append, List.take_of_length_le (by omega)]; simp
        rw [ht] at ei ⊢
        have hG := I.gdOff
        rw [← ei] at hG
        have hel : (entsL (h + 1) xs).length + (entsL h (itT c)).length ≤ 1000 := by rw [I.ens] at hen; simp at hen; omega
        have C2 := hide (unhide IH _ _ Ai _ _ _ hG (by omega))
        have ck := (Ni.kid i (by omega)).1
        rw [hC] at ck
        have a2 : (i : Int) < 5 := by omega
        have HT2 := hide ht2
        have EI := hide ei
        have NI := hide Ni
        have OI := hide Oi
        have w1 : (((entsL (h + 1) xs).length : Nat) : Int) + (((entsL h (itT c)).length : Nat) : Int) ≤ 1000 := by omega
        clear ht ht2 I r hC hG ei Ni Oi hit Ai
        go_wp2_with fail
        refine (unhide C2).mono ?_
        rintro e w5 ⟨rfl, ⟨v5, A5, e5⟩, o5⟩
        have FF := hide (And.intro A5 (And.intro e5 o5))
        have N5 := hide ((unhide NI).keep o5 nSb)
        clear A5 e5 o5 C2 ck c1
        go_wp2_with fail
        go_roundw
        case rel =>
          refine ⟨i + 1, v5, by omega, by go_num, ?_, (unhide FF).1, ?_, unhide N5, (unhide OI).qt (unhide FF).2.2⟩
          · rw [unhide HT2, entsL_app]
            simp [ents_succ]
          · rw [(unhide FF).2.1, unhide EI, offN_off, unhide HT2, pgsL_app]
            simp
        case measure => simp [intOf]; omega
      · have a1 : decide ((i : Int) < (x.n : Int)) = false := decide_eq_false (by omega)
        have ht : (itT t).take i = itT t := by rw [List.take_of_length_le]; omega
        rw [ht] at ei ⊢
        have hnt : NV vi (pgT t) = some (page (ndOf (h + 1) (itT t))) := by
          rw [ei]
          unfold offN
          rw [if_neg (fun hm => by
            have := g.nd
            rw [pgs_succ] at this
            exact (List.nodup_cons.mp this).1 hm)]
          exact hst0
        have CF := hide (qfree Ai hnt)
        have cp := Ai.ptr
        have EI := hide ei
        have OI := hide Oi
        clear ei Oi Ai Ni ht hnt
        go_wp2_with fail
        refine (unhide CF).mono ?_
        rintro e w4 ⟨rfl, ⟨view4, A4, e4⟩, o4⟩
        have FF := hide (And.intro A4 (And.intro e4 o4))
        clear A4 e4 o4
        go_wp2_with fail
        go_ret2
        refine ⟨rfl, ⟨view4, (unhide FF).1, ?_⟩, (unhide OI).qt (unhide FF).2.2⟩
        rw [(unhide FF).2.1, unhide EI, offN_one, pgs_succ]
end
end Go.Proofs.Qxb6500412aGreat
