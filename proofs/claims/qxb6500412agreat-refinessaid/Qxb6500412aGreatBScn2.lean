/-
  OWN WORK. THE B-TREE: scan below an inner node.
-/
import Derived.Test.Qxb6500412aGreatBScn
namespace Go.Proofs.Qxb6500412aGreat
open Go.RowKit Go.PlainAid
set_option linter.unusedSimpArgs false
set_option linter.unusedVariables false

theorem child_less {h : Nat} {x : Node} {xs ys : List (ByteArray × Tr (h + 1))} {k : ByteArray} {hi : Option ByteArray} {e : ByteArray × Tr (h + 1)} (r : Rep (h + 1) x (xs ++ e :: ys)) (ch : Child x k xs.length) (hz : ∀ f ∈ xs ++ e :: ys, Sz (h + 1) 2 f.2) (hc : Ch (Bd (h + 1)) (xs ++ e :: ys) hi) : ∀ f ∈ entsL (h + 1) xs, lt f.1 k = true := by
  intro f hf
  have h1 := (Ch_app _ _ _).mp hc
  have h2 := (Ch_in (fun g hg => hz g (by simp [hg])) h1.1 f hf).2
  have h3 : lt f.1 e.1 = true := h2
  cases xs with
  | nil => simp at hf
  | cons a xs' =>
    have h4 := ch.le xs'.length (by simp)
    have h5 := RepI.s r xs'.length _ (pk_get (by simp : ((a :: xs') ++ e :: ys)[xs'.length + 1]? = some e))
    rw [h5] at h4
    exact lt_ge h3 h4
theorem seC_some (e : KV) : seC (some e) = 0 := rfl
theorem seC_none : seC none = 9 := rfl
section
variable {q : Gnd} {op : Bool} {view : List ByteArray} {k : ByteArray} {past : Bool}
set_option maxRecDepth 100000 in
set_option maxHeartbeats 6000000 in
theorem scan_any : ∀ (h : Nat) {w : World} (A : FA q w op view) {s : ByteArray} {hi : Option ByteArray} {lo : Nat} {t : Tr (h + 1)} (g : Gd (NV view) h s hi lo t) (fuel : Nat) (hfu : h < fuel) (hf8 : fuel ≤ 8),
    Calls Tryz.prog 349 #[.pointer (some ⟨q.f, 0, none⟩), .int .i64 (pgT t), .string k, .bool past, .int .i64 fuel] w fun e w' => e = .returned (seV (seekL k past (entsL h (itT t)))) ∧ FA q w' op view ∧ Only q.S w w'
  | 0, w, A, s, hi, lo, t, g, fuel, hfu, hf8 => scan_leaf A g fuel hfu hf8
  | h + 1, w, A, s, hi, lo, t, g, fuel, hfu, hf8 => by
    have ef : ((fuel - 1 : Nat) : Int) = (fuel : Int) - 1 := by omega
    have IH : ∀ (w : World) (_ : FA q w op view) (s : ByteArray) (hi : Option ByteArray) (lo : Nat) (t : Tr (h + 1)) (_ : Gd (NV view) h s hi lo t),
        Calls Tryz.prog 349 #[.pointer (some ⟨q.f, 0, none⟩), .int .i64 (pgT t), .string k, .bool past, .int .i64 ((fuel : Int) - 1)] w fun e w' => e = .returned (seV (seekL k past (entsL h (itT t)))) ∧ FA q w' op view ∧ Only q.S w w' := by
      intro w A s hi lo t g
      rw [← ef]
      exact scan_any h A g (fuel - 1) (by omega) (by omega)
    have IH := hide IH
    clear ef
    have hl4 : (itT t).length ≤ 4 := g.sz.2.1
    have hl2 : 2 ≤ (itT t).length := by
      have := g.sz.1
      rcases g.l2 with h1 | h1 <;> omega
    have a0 : decide ((fuel : Int) ≤ 0) = false := decide_eq_false (by omega)
    go_enter Tryz.func349, Tryz.ntmps349
    go_upto_region 1 with (first | (refine wpList_alloc_kvd 10 rfl rfl rfl ?_; intro p w0 hP gP oP))
    have C := hide (load_any (A.quiet oP) g.st.1 g.fits)
    have HP := hide hP
    have OP := hide oP
    have nSp := A.nS gP
    have plt := Has.lt hP
    clear hP oP
    go_wp2_with fail
    refine (unhide C).mono ?_
    rintro e w1 ⟨x, rfl, r, A1, o1⟩
    have HH := hide (And.intro r (And.intro A1 ((unhide OP).up.qt o1)))
    have rk := r.kd1
    have kk : ((x.k : Int) == 1) = false := kk_f (b := 1) (by omega)
    have xn := r.n
    have x4 : x.n ≤ 4 := by omega
    have x2 : 2 ≤ x.n := by omega
    have hsz := o1.size
    have P1 := hide ((unhide HP).keep o1 nSp)
    clear A1 o1 r rk HP OP
    go_upto_region 2 with (first | (refine wpList_alloc_ndd 12 rfl rfl rfl ?_; intro b w2 hB gB oB; have HB := hide hB; have OB := hide oB; clear hB oB) | (refine wpList_store_nd rfl _ _ rfl b x rfl rfl (unhide HB) ?_; intro w3 n3 o3))
    have hpb : p < b := by omega
    have hb0 : w.heap.size ≤ b := by omega
    have nSb := A.nS hb0
    have A3 := ((unhide HH).2.1.quiet (unhide OB)).loc A hb0 o3
    have O3 := hide (((unhide HH).2.2.q0 (unhide OB)).qn o3 hb0)
    have P3 := hide (((unhide P1).keep (unhide OB) (fun h => h)).keep o3 (fun e => by omega))
    have AA := hide A3
    have N3 := hide n3
    clear n3 o3 A3 HB OB gB P1
    have c0 := (unhide N3).kind.1
    have CC := hide (childOf_any x k (by omega) (by omega) w3)
    go_wp2_with (first | (refine wpList_load_nd rfl _ rfl b rfl (unhide N3) ?_))
    refine (unhide CC).mono ?_
    rintro e w4 ⟨c, rfl, hcd, o4⟩
    have hc0 : seekL k past (entsL (h + 1) ((itT t).take c)) = none := by
      obtain ⟨xs, e, ys, hit, hxl⟩ := cut_at (l := itT t) (i := c) (by have := hcd.lt_; omega)
      have r := (unhide HH).1
      rw [hit] at r
      have ht : (itT t).take c = xs := by rw [hit, ← hxl]; simp
      rw [ht]
      refine seekL_less (child_less r (by rw [hxl]; exact hcd) (fun f hf => ?_) (by rw [← hit]; exact g.bd.2))
      exact (g.sz.2.2 f (by rw [hit]; exact hf)).2
    have hclt : c < x.n := hcd.lt_
    have I4 := hide (And.intro ((unhide AA).quiet o4) (And.intro ((unhide N3).keep o4 (fun h => h)) (And.intro ((unhide P3).keep o4 (fun h => h)) ((unhide O3).q0 o4))))
    have HC0 := hide hc0
    clear hc0 hcd o4 N3 P3 AA O3 c0 CC
    go_upto_region 12 with fail
    go_loopw [15] (fun iv wr => ∃ (i : Nat), i ≤ x.n ∧ iv = .int .i64 i ∧ FA q wr op view ∧ NdAt wr b x ∧ KvAt wr p kvD ∧ Only q.S w wr ∧ seekL k past (entsL (h + 1) ((itT t).take i)) = none) (fun iv _ => 5 - (intOf iv).toNat)
    case atStart => exact ⟨c, by omega, rfl, (unhide I4).1, (unhide I4).2.1, (unhide I4).2.2.1, (unhide I4).2.2.2, unhide HC0⟩
    case round =>
      obtain ⟨i, hi, rfl, Ai, Ni, Pi, Oi, hno⟩ := hrel
      clear I4 HC0
      have c1 := Ni.num.1
      by_cases hs : i < x.n
      · have a1 : decide ((i : Int) < (x.n : Int)) = true := decide_eq_true (by omega)
        obtain ⟨xs, e, ys, hit, hxl⟩ := cut_at (l := itT t) (i := i) (by omega)
        obtain ⟨s1, c⟩ := e
        have r := (unhide HH).1
        rw [hit] at r
        have I := g.inn hit
        have hC := kid_at r
        rw [hxl] at hC
        have ht : (itT t).take i = xs := by rw [hit, ← hxl]; simp
        have ht2 : (itT t).take (i + 1) = xs ++ [(s1, c)] := by rw [hit, ← hxl, List.take_append, List.take_of_length_le (by omega)]; simp
        rw [ht] at hno
        have hend : seekL k past (entsL (h + 1) (itT t)) = (seekL k past (entsL h (itT c))).or (seekL k past (entsL (h + 1) ys)) := by
          rw [I.ens, seekL_app, seekL_app, hno]; rfl
        have hnext : seekL k past (entsL h (itT c)) = none → seekL k past (entsL (h + 1) ((itT t).take (i + 1))) = none := fun hc => by
          rw [ht2, entsL_app, seekL_app, hno]
          simp [ents_succ, hc]
        have C2 := hide (unhide IH _ Ai _ _ _ _ I.gd)
        have ck := (Ni.kid i (by omega)).1
        rw [hC] at ck
        have a2 : (i : Int) < 5 := by omega
        have GG := hide (And.intro Ni (And.intro Pi (And.intro Oi (And.intro hend hnext))))
        clear ht ht2 I r hC Ni Pi Oi hit Ai hno hend hnext
        go_wp2_with fail
        refine (unhide C2).mono ?_
        rintro e w5 ⟨rfl, A5, o5⟩
        have sz5 : w.heap.size ≤ w5.heap.size := Nat.le_trans (unhide GG).2.2.1.size o5.size
        have N5 := hide ((unhide GG).1.keep o5 nSb)
        have P5 := hide ((unhide GG).2.1.keep o5 nSp)
        have O5 := hide ((unhide GG).2.2.1.qt o5)
        have AA5 := hide A5
        have plt5 := Has.lt (unhide P5)
        have blt5 := Has.lt (unhide N5)
        clear A5 o5 C2 ck c1
        unfold seV
        cases hse : seekL k past (entsL h (itT c)) with
        | some e =>
          have hE := hide ((unhide GG).2.2.2.1)
          rw [seC_some]
          have FIN : Hid (seekL k past (entsL (h + 1) (itT t)) = some e) := hide (by rw [unhide hE, hse]; rfl)
          clear GG hse hE
          simp only [Option.getD_some]
          go_upto_region 15 with (first | (refine wpList_alloc_kvd 16 rfl rfl rfl ?_; intro u w6 hU gU oU; have HU := hide hU; have OU := hide oU; clear hU oU) | (refine wpList_store_kv rfl _ _ rfl u e rfl rfl (unhide HU) ?_; intro w7 n7 o7))
          have gu0 : w.heap.size ≤ u := by omega
          have A7 := hide (((unhide AA5).quiet (unhide OU)).loc A gu0 o7)
          have O7 := hide (((unhide O5).q0 (unhide OU)).qn o7 gu0)
          have P7 := hide (((unhide P5).keep (unhide OU) (fun h => h)).keep o7 (fun e => by omega))
          have U7 := hide n7
          clear n7 o7 HU OU P5 O5 AA5
          go_wp2_with (first | (refine wpList_load_kv rfl _ rfl u rfl (unhide U7) ?_) | (refine wpList_store_kv rfl _ _ rfl p e rfl rfl (unhide P7) ?_; intro w8 n8 o8))
          refine bodyPost_ret (res2_kv Tryz.results349 _ rfl n8) rfl ?_
          refine ⟨?_, (unhide A7).loc A gP o8, (unhide O7).qn o8 gP⟩
          rw [unhide FIN]
          rfl
        | none =>
          have hE := hide ((unhide GG).2.2.2.2 hse)
          rw [seC_none]
          clear GG hse
          simp only [Option.getD_none]
          go_upto_region 15 with (first | (refine wpList_alloc_kvd 16 rfl rfl rfl ?_; intro u w6 hU gU oU; have HU := hide hU; have OU := hide oU; clear hU oU) | (refine wpList_store_kv rfl _ _ rfl u kvD rfl rfl (unhide HU) ?_; intro w7 n7 o7))
          have gu0 : w.heap.size ≤ u := by omega
          have A7 := hide (((unhide AA5).quiet (unhide OU)).loc A gu0 o7)
          have O7 := hide (((unhide O5).q0 (unhide OU)).qn o7 gu0)
          have P7 := hide (((unhide P5).keep (unhide OU) (fun h => h)).keep o7 (fun e => by omega))
          have N7 := hide (((unhide N5).keep (unhide OU) (fun h => h)).keep o7 (fun e => by omega))
          clear n7 o7 HU OU P5 O5 AA5 N5
          go_wp2_with fail
          go_roundw
          case rel => exact ⟨i + 1, by omega, by go_num, unhide A7, unhide N7, unhide P7, unhide O7, unhide hE⟩
          case measure => simp [intOf]; omega
      · have a1 : decide ((i : Int) < (x.n : Int)) = false := decide_eq_false (by omega)
        have ht : (itT t).take i = itT t := by rw [List.take_of_length_le]; omega
        rw [ht] at hno
        have GG := hide (And.intro Ai (And.intro Pi (And.intro Oi hno)))
        clear Ai Pi Oi hno Ni ht
        go_wp2_with (first | (refine wpList_store_kv rfl _ _ rfl p kvD rfl rfl (unhide GG).2.1 ?_; intro w8 n8 o8))
        refine bodyPost_ret (res2_kv Tryz.results349 _ rfl n8) rfl ?_
        refine ⟨?_, (unhide GG).1.loc A gP o8, (unhide GG).2.2.1.qn o8 gP⟩
        rw [(unhide GG).2.2.2]
        rfl
end
end Go.Proofs.Qxb6500412aGreat
