/-
  OWN WORK. THE B-TREE: del, a leaf.
-/
import Derived.Test.Qxb6500412aGreatBThn
namespace Go.Proofs.Qxb6500412aGreat
open Go.RowKit Go.PlainAid
set_option linter.unusedSimpArgs false
set_option linter.unusedVariables false

/-- What del answers, and what it leaves. -/
def DelPost (q : Gnd) (w : World) (view : List ByteArray) (h : Nat) (s : ByteArray) (hi : Option ByteArray) (lo : Nat) (k : ByteArray) (t : Tr (h + 1)) (e : Ending) (w' : World) : Prop :=
  ∃ (view' : List ByteArray) (t' : Tr (h + 1)) (freed : List Nat), e = .returned (.tuple #[.bool (decide ((itT t').length < 2)), .int .i64 0]) ∧ DelA (NV view) (NV view') h s hi lo k t t' freed ∧ FA q w' true view' ∧ Only q.S w w'
section
variable {q : Gnd} {k : ByteArray}
set_option maxRecDepth 100000 in
set_option maxHeartbeats 6000000 in
theorem del_leaf {w : World} {view : List ByteArray} (A : FA q w true view) {s : ByteArray} {hi : Option ByteArray} {lo : Nat} {t : Tr 1} (g : Gd (NV view) 0 s hi lo t) (hk : HasK k (entsL 0 (itT t))) (fuel : Nat) (hfu : 0 < fuel) (hf8 : fuel ≤ 8) :
    Calls Tryz.prog 306 #[.pointer (some ⟨q.f, 0, none⟩), .int .i64 (pgT t), .string k, .int .i64 fuel] w (DelPost q w view 0 s hi lo k t) := by
  have C := hide (load_any A g.st.1 g.fits)
  have hl3 : (itT t).length ≤ 3 := g.sz.2.1
  have hst0 := g.st.1
  have a0 : decide ((fuel : Int) ≤ 0) = false := decide_eq_false (by omega)
  obtain ⟨l, hl⟩ : ∃ l : List KV, itT t = (show List (ByteArray × Tr 0) from l) := ⟨itT t, rfl⟩
  have hkl : HasK k l := by
    rw [hl] at hk
    rw [show entsL 0 (show List (ByteArray × Tr 0) from l) = l from entsL_zero _] at hk
    exact hk
  have hll : (itT t).length = l.length := by rw [hl]; rfl
  go_enter Tryz.func306, Tryz.ntmps306
  go_wp2_with fail
  refine (unhide C).mono ?_
  rintro e w1 ⟨x, rfl, r, A1, o1⟩
  have HH := hide (And.intro r (And.intro A1 o1))
  have rk := r.kd0
  have kk : ((x.k : Int) == 1) = true := kk_t (b := 1) rk
  have xn : x.n = l.length := by have := r.n; omega
  have x3 : x.n ≤ 3 := by omega
  have XN := hide xn
  have hsz := o1.size
  clear A1 o1 r rk xn
  go_upto_region 2 with (first | (refine wpList_alloc_ndd 10 rfl rfl rfl ?_; intro b w2 hB gB oB; have HB := hide hB; have OB := hide oB; clear hB oB) | (refine wpList_store_nd rfl _ _ rfl b x rfl rfl (unhide HB) ?_; intro w3 n3 o3))
  have hb0 : w.heap.size ≤ b := Nat.le_trans hsz gB
  have nSb := A.nS hb0
  have AA := hide (((unhide HH).2.1.quiet (unhide OB)).loc A hb0 o3)
  have O3 := hide (((unhide HH).2.2.q0 (unhide OB)).qn o3 hb0)
  have N3 := hide n3
  clear n3 o3 HB OB gB hsz
  have rl : RepL x l := by
    have : RepL x (itT t) := (unhide HH).1
    rw [hl] at this
    exact this
  have RL := hide rl
  clear rl
  have c0 := (unhide N3).kind.1
  have c1 := (unhide N3).num.1
  go_upto_region 6 with fail
  clear c0
  go_loop [12] (fun iv => ∃ i : Nat, iv = .int .i64 i ∧ i ≤ x.n ∧ ∀ j, j < i → x.K j ≠ k) (fun iv => 4 - (intOf iv).toNat)
  case atStart => exact ⟨0, rfl, Nat.zero_le _, fun j hj => by omega⟩
  case round =>
    obtain ⟨i, rfl, hi', hne⟩ := hrel
    have HN := hide hne
    clear hne
    by_cases hs : i < x.n
    · have a1 : decide ((i : Int) < (x.n : Int)) = true := decide_eq_true (by omega)
      have a1p : (i : Int) < (x.n : Int) := by omega
      have a2 : (i : Int) < 4 := by omega
      have ck := ((unhide N3).key i (by omega)).1
      by_cases hx : x.K i = k
      · have b1 := seq_t hx
        have a3 : ((i : Int) == (x.n : Int)) = false := by simp; omega
        obtain ⟨e, he⟩ : ∃ e : KV, l[i]? = some e := get_ex (by have := unhide XN; omega)
        have hek : e.1 = k := by rw [← ((unhide RL).v i e he).1]; exact hx
        have CL := hide (leafCut_any x i hs (by omega) w3)
        have HE := hide (And.intro he hek)
        clear hx he hek
        go_wp2_with (first | (refine wpList_load_nd rfl _ rfl b rfl (unhide N3) ?_))
        refine (unhide CL).mono ?_
        rintro e' w4 ⟨y, rfl, hy, o4⟩
        have ry := (unhide RL).cut hy (by have := unhide XN; omega)
        have yn := ry.n
        have N4 := hide ((unhide N3).keep o4 (fun h => h))
        have A4 := hide ((unhide AA).quiet o4)
        have O4 := hide ((unhide O3).q0 o4)
        have RY := hide ry
        clear hy o4 CL N3 AA O3 ck c1 ry
        go_upto_region 11 with (first | (refine wpList_store_nd rfl _ _ rfl b y rfl rfl (unhide N4) ?_; intro w5 n5 o5))
        have A5 := hide ((unhide A4).loc A hb0 o5)
        have O5 := hide ((unhide O4).qn o5 hb0)
        have N5 := hide n5
        clear n5 o5 N4 A4 O4
        have hil : i < l.length := by have := unhide XN; omega
        have hel : (l.eraseIdx i).length + 1 = l.length := by rw [List.length_eraseIdx, if_pos hil]; omega
        have ft : Fits 0 (show List (ByteArray × Tr 0) from l.eraseIdx i) := by
          refine ⟨?_, fun f hf => ?_⟩
          · show (l.eraseIdx i).length ≤ 3
            omega
          · exact g.sz.2.2 f (by rw [hl]; exact (List.eraseIdx_sublist l i).subset hf)
        have DA := hide (DelA.leaf (N := NV view) hl g.sz g.bd (unhide HE).1 (unhide HE).2)
        have YN := hide yn
        have CS := hide (store_any ((unhide A5).quiet (Only.refl _ w5).drew) hst0 (show Rep 0 y (show List (ByteArray × Tr 0) from l.eraseIdx i) from unhide RY) ft)
        clear ft yn
        refine wp_region_held_drew (S := (fun w' => NdAt w' b y)) (by kernel_rfl) (unhide N5).drew (fun hH0 => ?_)
        refine takeH 0 52 (v := ?vd1) rfl rfl (by kernel_rfl) (by kernel_rfl) (by kernel_rfl) (fun _ _ _ h => h) (Or.inl ⟨by rfl, ?hd1⟩) hH0 ?rd1
        case hd1 => (intro w hSw; (try dsimp only at hSw); go_simp; (try with_reducible rfl))
        case rd1 =>
        try simp only [Act.put, List.setIfInBounds_toArray, List.set_cons_zero, List.set_cons_succ]
        refine takeH 1 53 (v := ?vd2) rfl rfl (by kernel_rfl) (by kernel_rfl) (by kernel_rfl) (fun _ _ _ h => h) (Or.inl ⟨by rfl, ?hd2⟩) hH0 ?rd2
        case hd2 => (intro w hSw; have q1 := (NdAt.num hSw).1; clear hSw; go_simp; (try with_reducible rfl))
        case rd2 =>
        try simp only [Act.put, List.setIfInBounds_toArray, List.set_cons_zero, List.set_cons_succ]
        refine takeH 2 54 (v := ?vd3) rfl rfl (by kernel_rfl) (by kernel_rfl) (by kernel_rfl) (fun _ _ _ h => h) (Or.inl ⟨by rfl, ?hd3⟩) hH0 ?rd3
        case hd3 => (intro w hSw; (try dsimp only at hSw); go_simp; (try with_reducible rfl))
        case rd3 =>
        try simp only [Act.put, List.setIfInBounds_toArray, List.set_cons_zero, List.set_cons_succ]
        refine takeH 3 55 (v := ?vd4) rfl rfl (by kernel_rfl) (by kernel_rfl) (by kernel_rfl) (fun _ _ _ h => h) (Or.inl ⟨by rfl, ?hd4⟩) hH0 ?rd4
        case hd4 => (intro w hSw; (try dsimp only at hSw); go_simp; (try with_reducible rfl))
        case rd4 =>
        try simp only [Act.put, List.setIfInBounds_toArray, List.set_cons_zero, List.set_cons_succ]
        refine takeH 4 56 (v := ?vd5) rfl rfl (by kernel_rfl) (by kernel_rfl) (by kernel_rfl) (fun _ _ _ h => h) (Or.inl ⟨by rfl, ?hd5⟩) hH0 ?rd5
        case hd5 => (intro w hSw; (try dsimp only at hSw); go_simp; (try with_reducible rfl))
        case rd5 =>
        try simp only [Act.put, List.setIfInBounds_toArray, List.set_cons_zero, List.set_cons_succ]
        refine takeH 5 57 rfl rfl (by kernel_rfl) (by kernel_rfl) (by kernel_rfl) (fun _ _ _ h => h) (yieldsIf_load_nd (by rfl) _ rfl b rfl y (fun _ h => h)) hH0 ?rd6
        case rd6 =>
        try simp only [Act.put, List.setIfInBounds_toArray, List.set_cons_zero, List.set_cons_succ]
        refine callH 6 (by kernel_rfl) rfl 58 rfl rfl 152 Tryz.func152 (by kernel_rfl) (by kernel_rfl) #[.tmp 55, .tmp 56, .tmp 57] #[65, 3, 218] rfl #[.pointer (some ⟨q.f, 0, none⟩), .int .i64 (pgT t), ndA y] (by simp [Act.eval]) (R := fun v w' => v = .int .i64 0 ∧ (∃ view', FA q w' true view' ∧ NV view' = setN (NV view) (pgT t) (some (page (ndOf 0 (show List (ByteArray × Tr 0) from l.eraseIdx i))))) ∧ Only q.S w5.drew w') ((unhide CS).mono (by rintro en w' ⟨rfl, h1, h2⟩; exact ⟨_, rfl, rfl, h1, h2⟩)) ?kcs
        case kcs =>
        rintro _ w6 ⟨rfl, hV, o6⟩
        have S6 := NdAt.keep hH0 o6 nSb
        have O6 := hide ((unhide O5).drew.qt o6)
        have HV := hide hV
        refine ⟨S6, ?_⟩
        clear hV o6
        try simp only [Act.put, List.setIfInBounds_toArray, List.set_cons_zero, List.set_cons_succ]
        refine takeH 7 8 (v := ?vd7) rfl rfl (by kernel_rfl) (by kernel_rfl) (by kernel_rfl) (fun _ _ _ h => h) (Or.inl ⟨by rfl, ?hd7⟩) S6 ?rd7
        case hd7 => (intro w hSw; (try dsimp only at hSw); go_simp; (try with_reducible rfl))
        case rd7 =>
        try simp only [Act.put, List.setIfInBounds_toArray, List.set_cons_zero, List.set_cons_succ]
        refine takeH 8 9 (v := ?vd8) rfl rfl (by kernel_rfl) (by kernel_rfl) (by kernel_rfl) (fun _ _ _ h => h) (Or.inl ⟨by rfl, ?hd8⟩) S6 ?rd8
        case hd8 => (intro w hSw; (try dsimp only at hSw); go_simp; (try with_reducible rfl))
        case rd8 =>
        try simp only [Act.put, List.setIfInBounds_toArray, List.set_cons_zero, List.set_cons_succ]
        refine wpAnyH_done (by kernel_rfl) ?_ _
        clear S6 hH0 CS
        go_wp2_with fail
        go_ret2
        obtain ⟨view', A6, e6⟩ := unhide HV
        have D := unhide DA
        rw [show (Nd.lf (l.eraseIdx i)) = ndOf 0 (show List (ByteArray × Tr 0) from l.eraseIdx i) from rfl, ← e6] at D
        refine ⟨view', _, [], ?_, D, A6, unhide O6⟩
        have := unhide YN
        show Ending.returned (.tuple #[.bool (decide ((y.n : Int) < 2)), .int .i64 0]) = Ending.returned (.tuple #[.bool (decide ((l.eraseIdx i).length < 2)), .int .i64 0])
        rw [this]
        congr 4
        simp
        omega
      · have b1 := seq_f hx
        have HN2 : Hid (∀ j, j < i + 1 → x.K j ≠ k) := hide (fun j hj => by
          by_cases e : j = i
          · rw [e]; exact hx
          · exact unhide HN j (by omega))
        clear hx
        go_wp2_with fail
        go_round
        case rel => exact ⟨i + 1, by go_num, by omega, unhide HN2⟩
        case measure => simp [intOf]; omega
    · exfalso
      obtain ⟨e, he, hke⟩ := hkl
      obtain ⟨j, hj, rfl⟩ := List.mem_iff_getElem.mp he
      have h1 := (unhide RL).v j _ (List.getElem?_eq_getElem hj)
      exact unhide HN j (by have := unhide XN; omega) (by rw [h1.1]; exact hke)
end
end Go.Proofs.Qxb6500412aGreat
