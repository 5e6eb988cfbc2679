/-
  OWN WORK. THE B-TREE: Check's walk over inner nodes. (tools/gen_bck.py writes it.)
-/
import Derived.Test.Qxb6500410aGreatBCk
import Derived.Deep.CutBlock
import Derived.Deep.DeepCutAuto
namespace Go.Proofs.Qxb6500410aGreat
open Go.RowKit Go.PlainAid
set_option linter.unusedSimpArgs false
set_option linter.unusedVariables false

section
variable {q : Gnd} {op : Bool} {view : List ByteArray}
theorem Fst_s {α : Type} {h : Nat} {s s1 : ByteArray} {c : α} {ys : List (ByteArray × α)} (hf : Fst (h + 1) s ((s1, c) :: ys)) : s1 = s := by
  rcases hf (s1, c) (by simp) with h1 | h1
  · exact h1
  · omega
/-- The walk's contract at one height. -/
def CkAll (q : Gnd) (op : Bool) (view : List ByteArray) (h : Nat) : Prop := ∀ (w : World) (_ : FA q w op view) (s : ByteArray) (hi : Option ByteArray) (lo : Nat) (t : Tr (h + 1)) (_ : Gd (NV view) h s hi lo t) (tb : Nat) (seen : Nat → Bool) (ent dep : Nat) (_ : TlAt w tb seen ent dep) (_ : Off q tb) (level : Nat) (_ : 1 ≤ level) (_ : level + h ≤ 8) (_ : lo = 2 ∨ level = 1) (_ : dep = 0 ∨ dep = level + h) (_ : ∀ n ∈ pgs (h + 1) t, seen n = false) (_ : ent + (entsL h (itT t)).length ≤ 1000) (ls hs : ByteArray) (hL hH : Bool) (_ : hL = true → ls = s) (_ : hH = true → hi = some hs),
    Calls Tryz.prog 101 #[.pointer (some ⟨q.f, 0, none⟩), .pointer (some ⟨tb, 0, none⟩), .int .i64 (pgT t), .int .i64 level, .string ls, .bool hL, .string hs, .bool hH] w (CkR q op view w tb seen ent level h t)
set_option maxRecDepth 100000 in
set_option maxHeartbeats 16000000 in
theorem cwalk_step {h : Nat} (ihh : CkAll q op view h) {w : World} (A : FA q w op view) {s : ByteArray} {hi : Option ByteArray} {lo : Nat} {t : Tr (h + 2)} (g : Gd (NV view) (h + 1) s hi lo t) {tb : Nat} {seen : Nat → Bool} {ent dep : Nat} (Tl : TlAt w tb seen ent dep) (hO : Off q tb) (level : Nat) (hl1 : 1 ≤ level) (hl8 : level + (h + 1) ≤ 8) (hlo : lo = 2 ∨ level = 1) (hdep : dep = 0 ∨ dep = level + (h + 1)) (hsn : ∀ n ∈ pgs ((h + 1) + 1) t, seen n = false) (hen : ent + (entsL (h + 1) (itT t)).length ≤ 1000) (ls hs : ByteArray) (hL hH : Bool) (b1 : hL = true → ls = s) (b2 : hH = true → hi = some hs) :
    Calls Tryz.prog 101 #[.pointer (some ⟨q.f, 0, none⟩), .pointer (some ⟨tb, 0, none⟩), .int .i64 (pgT t), .int .i64 level, .string ls, .bool hL, .string hs, .bool hH] w (CkR q op view w tb seen ent level (h + 1) t) := by
    have IH : ∀ (w : World) (_ : FA q w op view) (s : ByteArray) (hi : Option ByteArray) (t : Tr (h + 1)) (_ : Gd (NV view) h s hi 2 t) (seen : Nat → Bool) (ent dep : Nat) (_ : TlAt w tb seen ent dep) (_ : dep = 0 ∨ dep = level + (h + 1)) (_ : ∀ n ∈ pgs (h + 1) t, seen n = false) (_ : ent + (entsL h (itT t)).length ≤ 1000) (ls hs : ByteArray) (hL hH : Bool) (_ : hL = true → ls = s) (_ : hH = true → hi = some hs),
        Calls Tryz.prog 101 #[.pointer (some ⟨q.f, 0, none⟩), .pointer (some ⟨tb, 0, none⟩), .int .i64 (pgT t), .int .i64 ((level : Int) + 1), .string ls, .bool hL, .string hs, .bool hH] w (CkR q op view w tb seen ent (level + 1) h t) := by
      intro w A s hi t g seen ent dep Tl hdep hsn hen ls hs hL hH b1 b2
      have el : ((level + 1 : Nat) : Int) = (level : Int) + 1 := by omega
      rw [← el]
      exact ihh w A s hi 2 t g tb seen ent dep Tl hO (level + 1) (by omega) (by omega) (.inl rfl) (by omega) hsn hen ls hs hL hH b1 b2
    clear ihh
    have IH := hide IH
    have hl4 : (itT t).length ≤ 4 := g.sz.2.1
    have hl2 : 2 ≤ (itT t).length := by
      have := g.sz.1
      rcases g.l2 with h1 | h1 <;> omega
    have hp72 := NV_pg g
    have p1 : decide ((level : Int) > 8) = false := decide_eq_false (by omega)
    have p1' : decide (8 < (level : Int)) = false := decide_eq_false (by omega)
    have p2 : decide ((pgT t : Int) < 0) = false := decide_eq_false (by omega)
    have p3 : decide ((pgT t : Int) ≥ 72) = false := decide_eq_false (by omega)
    have p3' : decide (72 ≤ (pgT t : Int)) = false := decide_eq_false (by omega)
    have p4 : (pgT t : Int) < 72 := by omega
    have t1 := Tl.cs hp72
    rw [hsn _ (pgT_in t)] at t1
    obtain ⟨t1, t1f⟩ := t1
    have Tl1 := Tl.set hp72
    have o0 : Only (fun k => k = tb) w (w.setCell ⟨tb, pgT t, none⟩ (.bool true)) := only1 _ _
    have A0 := A.off hO o0
    have C := hide (load_any A0 g.st.1 g.fits)
    have HT := hide Tl1
    have oT : Only (q.T tb) w (w.setCell ⟨tb, pgT t, none⟩ (.bool true)) := o0.mono (fun k _ e => .inr e)
    have HO := hide oT
    have s0 := o0.size
    clear Tl1 o0 A0 oT
    go_enter Tryz.func101, Tryz.ntmps101
    go_upto_region 4 with fail
    generalize w.setCell ⟨tb, pgT t, none⟩ (.bool true) = w0 at *
    clear t1 t1f
    go_wp2_with fail
    refine (unhide C).mono ?_
    rintro e w1 ⟨x, rfl, r, A1, o1⟩
    have s1 := o1.size
    have HH := hide (And.intro r (And.intro A1 (And.intro ((unhide HT).keep o1 hO.S) ((unhide HO).trans o1 (fun k _ h => .inl h)))))
    have rk := r.kd1
    have kk2 : ((x.k : Int) == 2) = true := kk_t (b := 2) rk
    have kk : ((x.k : Int) == 1) = false := kk_f (b := 1) (by omega)
    have xn := r.n
    have x4 : x.n ≤ 4 := by omega
    have XN := hide xn
    have KO : Hid (∀ i, i < keysN (h + 1) x → lt (x.K i) s = false ∧ ltO (x.K i) hi ∧ (0 < i → lt (x.K (i - 1)) (x.K i) = true)) := hide (fun i hk => keyOk g r i hk)
    clear A1 o1 r rk HT HO C xn
    go_upto_region 5 with (first | (refine wpList_alloc_ndd 17 rfl rfl rfl ?_; intro b w2 hB gB oB; have HB := hide hB; have OB := hide oB; clear hB oB) | (refine wpList_store_nd rfl _ _ rfl b x rfl rfl (unhide HB) ?_; intro w3 n3 o3))
    have s2 := (unhide OB).size
    have hb0 : w.heap.size ≤ b := by omega
    have tlt := Has.lt Tl
    have A3 := hide (((unhide HH).2.1.quiet (unhide OB)).loc A hb0 o3)
    have T3 := hide (((unhide HH).2.2.1.keep (unhide OB) (fun h => h)).keep o3 (fun e => by omega))
    have O3 := hide ((((unhide HH).2.2.2).q0 (unhide OB)).qn o3 hb0)
    have N3 := hide n3
    have nSb := A.nS hb0
    have nTb : ¬ q.T tb b := fun c => by
      rcases c with c | c
      · exact nSb c
      · omega
    clear n3 o3 HB OB gB
    have c0 := (unhide N3).kind.1
    have c1 := (unhide N3).num.1
    have hkk : keysN (h + 1) x ≤ 4 ∧ keysN (h + 1) x = x.n - 1 := ⟨by unfold keysN; rw [if_neg (by omega)]; omega, by unfold keysN; rw [if_neg (by omega)]⟩
    obtain ⟨hk4, hke⟩ := hkk
    have xpos : 2 ≤ x.n := by have := unhide XN; omega
    have hki : (x.n : Int) - 1 = (keysN (h + 1) x : Int) := by omega
    clear xpos
    generalize hkn : keysN (h + 1) x = kn at *
    go_upto_block 0 with fail
    go_cut [] (fun wx => Only (fun _ => False) w3 wx)
    case first =>
      go_wp2_with fail
      go_loopw [20] (fun iv wr => ∃ i : Nat, iv = .int .i64 i ∧ i ≤ kn ∧ Only (fun _ => False) w3 wr) (fun iv _ => 5 - (intOf iv).toNat)
      case atStart => exact ⟨0, rfl, Nat.zero_le _, Only.refl _ _⟩
      case round =>
        obtain ⟨i, rfl, hi_, oR⟩ := hrel
        have NR := hide ((unhide N3).keep oR (fun h => h))
        have OR := hide oR
        clear oR c0 c1
        by_cases hs_ : i < kn
        · have a1 : decide ((i : Int) < (x.n : Int) - 1) = true := decide_eq_true (by omega)
          have a1' : decide ((i : Int) < (kn : Int)) = true := decide_eq_true (by omega)
          have a2 : (i : Int) < 4 := by omega
          have ck := ((unhide NR).key i (by omega)).1
          obtain ⟨k1, k2, k3⟩ := unhide KO i hs_
          have CW := hide (within_any (x.K i) ls hs s hi hL hH b1 b2 k1 k2)
          clear k1 k2
          by_cases hi0 : 0 < i
          · have a3 : decide ((i : Int) > 0) = true := decide_eq_true (by omega)
            have a3' : decide (0 < (i : Int)) = true := decide_eq_true (by omega)
            have k4 : Op.bytesLess (x.K (i - 1)).toList (x.K i).toList = true := k3 hi0
            have cj := ((unhide NR).key (i - 1) (by omega)).1
            have ej : ((i : Int) - 1).toNat = i - 1 := by omega
            have a4 : (0 : Int) ≤ (i : Int) - 1 := by omega
            have a5 : (i : Int) - 1 < 4 := by omega
            clear k3
            go_upto_region 13 with fail
            go_quiet (first | (go_at_call 141; exact Calls.quiet_of_same ((unhide CW _).mono (fun e w' h => ⟨h.1, h.2.symm⟩))))
            go_wp2_with fail
            go_roundw
            case rel => exact ⟨i + 1, by go_num, by omega, (unhide OR).trans (onlyN _ _) (fun _ _ h => h)⟩
            case measure => simp [intOf]; omega
          · have a3 : decide ((i : Int) > 0) = false := decide_eq_false (by omega)
            have a3' : decide (0 < (i : Int)) = false := decide_eq_false (by omega)
            clear k3
            go_upto_region 13 with fail
            go_quiet (first | (go_at_call 141; exact Calls.quiet_of_same ((unhide CW _).mono (fun e w' h => ⟨h.1, h.2.symm⟩))))
            go_wp2_with fail
            go_roundw
            case rel => exact ⟨i + 1, by go_num, by omega, (unhide OR).trans (onlyN _ _) (fun _ _ h => h)⟩
            case measure => simp [intOf]; omega
        · have a1 : decide ((i : Int) < (x.n : Int) - 1) = false := decide_eq_false (by omega)
          have a1' : decide ((i : Int) < (kn : Int)) = false := decide_eq_false (by omega)
          have OR2 := hide (unhide OR)
          have hs3 : ¬ ((i : Int) < (x.n : Int) - 1) := by omega
          have hs4 : ¬ ((i : Int) < (kn : Int)) := by omega
          clear OR NR
          go_wp2_with fail
          go_meet
          exact unhide OR2
    case rest =>
    have oR := hcut
    generalize wc = wr at *
    have NR := hide ((unhide N3).keep oR (fun h => h))
    have A4 := hide ((unhide A3).quiet oR)
    have T4 := hide ((unhide T3).keep oR (fun h => h))
    have O4 := hide ((unhide O3).q0 oR)
    clear c0 c1
    have c0 := (unhide NR).kind.1
    have c1 := (unhide NR).num.1
    clear A3 T3 O3 N3 oR hcut hki hke hkn KO
    have x2 : 2 ≤ x.n := by have := unhide XN; omega
    have x2a : decide ((x.n : Int) < 2) = false := decide_eq_false (by omega)
    have W0 := hide (unhide T4)
    generalize hseen : see1 seen (pgT t) = sn0 at *
    go_upto_region 23 with fail
    go_loopw [21] (fun iv wj => ∃ (i : Nat) (dp : Nat), i ≤ x.n ∧ iv = .int .i64 i ∧ (dp = 0 ∨ dp = level + (h + 1)) ∧ (0 < i → dp = level + (h + 1)) ∧ FA q wj op view ∧ NdAt wj b x ∧ TlAt wj tb (seeA sn0 (pgsL (h + 1) ((itT t).take i))) (ent + (entsL (h + 1) ((itT t).take i)).length) dp ∧ Only (q.T tb) w wj) (fun iv _ => 5 - (intOf iv).toNat)
    case atStart =>
      have T0 : TlAt wr tb (seeA sn0 (pgsL (h + 1) ((itT t).take 0))) (ent + (entsL (h + 1) ((itT t).take 0)).length) dep := by
        rw [List.take_zero, pgsL_nil, entsL_nil, seeA_nil, List.length_nil, Nat.add_zero]
        exact unhide W0
      exact ⟨0, dep, Nat.zero_le _, rfl, hdep, (fun h0 => absurd h0 (Nat.lt_irrefl 0)), unhide A4, unhide NR, T0, unhide O4⟩
    case round =>
      clear A4 NR T4 O4 W0 c0 c1
      obtain ⟨i, dp, hix, rfl, hd1, hd2, Ai, Ni, Ti, Oi⟩ := hrel
      have c1 := Ni.num.1
      by_cases hs_ : i < x.n
      · have a1 : decide ((i : Int) < (x.n : Int)) = true := decide_eq_true (by omega)
        have a2 : (i : Int) < 5 := by omega
        obtain ⟨xs, e, ys, hit, hxl⟩ := cut_at (l := itT t) (i := i) (by have := unhide XN; omega)
        obtain ⟨s1, c⟩ := e
        have r := (unhide HH).1
        rw [hit] at r
        have I := g.inn hit
        have hC := kid_at r
        rw [hxl] at hC
        have ht : (itT t).take i = xs := by rw [hit, ← hxl]; simp
        have ht2 : (itT t).take (i + 1) = xs ++ [(s1, c)] := by rw [hit, ← hxl, List.take_append, List.take_of_length_le (by omega)]; simp
        rw [ht] at Ti
        have hsn1 : ∀ n ∈ pgs (h + 1) c, seeA sn0 (pgsL (h + 1) xs) n = false := fun n hn => by
          have h1 := I.nds
          unfold seeA
          rw [if_neg (h1.2.2.2.2 n hn).1, ← hseen]
          unfold see1
          rw [if_neg (fun e => h1.2.1 (by rw [← e]; exact hn))]
          exact hsn n (by rw [I.pgs]; simp [hn])
        have hel : ent + (entsL (h + 1) xs).length + (entsL h (itT c)).length ≤ 1000 := by rw [I.ens] at hen; simp at hen; omega
        have hlow : i = 0 → s1 = s := fun h0 => by
          have hf := g.bd.1
          have : xs = [] := List.eq_nil_of_length_eq_zero (by omega)
          rw [hit, this] at hf
          exact Fst_s hf
        have hK1 : 0 < i → x.K (i - 1) = s1 := fun h0 => by
          have hg1 : (xs ++ (s1, c) :: ys)[i - 1 + 1]? = some (s1, c) := by rw [show i - 1 + 1 = xs.length by omega]; exact mid_get
          exact RepI.s r (i - 1) (s1, pgT c) (pk_get hg1)
        have hn2 : x.n = xs.length + 1 + ys.length := by have := unhide XN; rw [hit] at this; simp at this; omega
        have hK2 : i + 1 < x.n → bnd ys hi = some (x.K i) := fun h0 => by
          cases ys with
          | nil => simp at hn2; omega
          | cons y ys' =>
            have hg1 : (xs ++ (s1, c) :: y :: ys')[i + 1]? = some y := by rw [← hxl, List.getElem?_append_right (by omega)]; simp
            have : x.K i = y.1 := RepI.s r i (y.1, pgT y.2) (pk_get hg1)
            rw [this]
            rfl
        have hK3 : ¬ i + 1 < x.n → bnd ys hi = hi := fun h0 => by
          have : ys = [] := List.eq_nil_of_length_eq_zero (by omega)
          rw [this]; rfl
        have ck := (Ni.kid i (by omega)).1
        rw [hC] at ck
        have CC := hide (fun ls hs hL hH b1 b2 => unhide IH _ Ai s1 (bnd ys hi) c I.gd _ _ _ Ti hd1 hsn1 hel ls hs hL hH b1 b2)
        have GG := hide (And.intro ht2 (And.intro Oi (And.intro hlow (And.intro hK1 (And.intro hK2 hK3)))))
        have NI := hide Ni
        clear ht ht2 I r hC Ti Oi hit Ai hsn1 hel hlow hK1 hK2 hK3 hn2
        by_cases hi0 : 0 < i
        · have a3 : decide ((i : Int) > 0) = true := decide_eq_true (by omega)
          have a3' : decide (0 < (i : Int)) = true := decide_eq_true (by omega)
          have a4 : (0 : Int) ≤ (i : Int) - 1 := by omega
          have a5 : (i : Int) - 1 < 4 := by omega
          have ej : ((i : Int) - 1).toNat = i - 1 := by omega
          have cj := ((unhide NI).key (i - 1) (by omega)).1
          by_cases hl_ : i + 1 < x.n
          · have a6 : decide ((i : Int) + 1 < (x.n : Int)) = true := decide_eq_true (by omega)
            have a7 : (i : Int) < 4 := by omega
            have ci := ((unhide NI).key i (by omega)).1
            have C2 := hide (unhide CC (x.K (i - 1)) (x.K i) true true (fun _ => (unhide GG).2.2.2.1 hi0) (fun _ => (unhide GG).2.2.2.2.1 hl_))
            clear CC IH
            go_wp2_with fail
            refine (unhide C2).mono ?_
            rintro e w5 ⟨rfl, A5, T5, o5⟩
            have FF := hide (And.intro A5 (And.intro T5 (And.intro ((unhide GG).2.1.qt o5) ((unhide NI).keep o5 nTb))))
            clear A5 T5 o5 C2
            go_wp2_with fail
            go_roundw
            case rel =>
              refine ⟨i + 1, level + (h + 1), by omega, by go_num, .inr rfl, fun _ => rfl, (unhide FF).1, (unhide FF).2.2.2, ?_, (unhide FF).2.2.1⟩
              have h1 := (unhide FF).2.1
              rw [(unhide GG).1, pgsL_app, entsL_app]
              rw [seeA_app] at h1
              simp only [pgsL_cons, pgsL_nil, List.append_nil, entsL_cons, entsL_nil, List.length_append, ents_succ]
              rw [show level + (h + 1) = level + 1 + h by omega, ← Nat.add_assoc]
              exact h1
            case measure => simp [intOf]; omega
          · have a6 : decide ((i : Int) + 1 < (x.n : Int)) = false := decide_eq_false (by omega)
            have C2 := hide (unhide CC (x.K (i - 1)) hs true hH (fun _ => (unhide GG).2.2.2.1 hi0) (by rw [(unhide GG).2.2.2.2.2 hl_]; exact b2))
            clear CC IH
            go_wp2_with fail
            refine (unhide C2).mono ?_
            rintro e w5 ⟨rfl, A5, T5, o5⟩
            have FF := hide (And.intro A5 (And.intro T5 (And.intro ((unhide GG).2.1.qt o5) ((unhide NI).keep o5 nTb))))
            clear A5 T5 o5 C2
            go_wp2_with fail
            go_roundw
            case rel =>
              refine ⟨i + 1, level + (h + 1), by omega, by go_num, .inr rfl, fun _ => rfl, (unhide FF).1, (unhide FF).2.2.2, ?_, (unhide FF).2.2.1⟩
              have h1 := (unhide FF).2.1
              rw [(unhide GG).1, pgsL_app, entsL_app]
              rw [seeA_app] at h1
              simp only [pgsL_cons, pgsL_nil, List.append_nil, entsL_cons, entsL_nil, List.length_append, ents_succ]
              rw [show level + (h + 1) = level + 1 + h by omega, ← Nat.add_assoc]
              exact h1
            case measure => simp [intOf]; omega
        · have a3 : decide ((i : Int) > 0) = false := decide_eq_false (by omega)
          have a3' : decide (0 < (i : Int)) = false := decide_eq_false (by omega)
          have i0 : i = 0 := by omega
          by_cases hl_ : i + 1 < x.n
          · have a6 : decide ((i : Int) + 1 < (x.n : Int)) = true := decide_eq_true (by omega)
            have a7 : (i : Int) < 4 := by omega
            have ci := ((unhide NI).key i (by omega)).1
            have C2 := hide (unhide CC ls (x.K i) hL true (fun e => by rw [(unhide GG).2.2.1 i0]; exact b1 e) (fun _ => (unhide GG).2.2.2.2.1 hl_))
            clear i0
            clear CC IH
            go_wp2_with fail
            refine (unhide C2).mono ?_
            rintro e w5 ⟨rfl, A5, T5, o5⟩
            have FF := hide (And.intro A5 (And.intro T5 (And.intro ((unhide GG).2.1.qt o5) ((unhide NI).keep o5 nTb))))
            clear A5 T5 o5 C2
            go_wp2_with fail
            go_roundw
            case rel =>
              refine ⟨i + 1, level + (h + 1), by omega, by go_num, .inr rfl, fun _ => rfl, (unhide FF).1, (unhide FF).2.2.2, ?_, (unhide FF).2.2.1⟩
              have h1 := (unhide FF).2.1
              rw [(unhide GG).1, pgsL_app, entsL_app]
              rw [seeA_app] at h1
              simp only [pgsL_cons, pgsL_nil, List.append_nil, entsL_cons, entsL_nil, List.length_append, ents_succ]
              rw [show level + (h + 1) = level + 1 + h by omega, ← Nat.add_assoc]
              exact h1
            case measure => simp [intOf]; omega
          · omega
      · have a1 : decide ((i : Int) < (x.n : Int)) = false := decide_eq_false (by omega)
        have ht : (itT t).take i = itT t := by rw [List.take_of_length_le]; have := unhide XN; omega
        rw [ht] at Ti
        have FF := hide (And.intro Ai (And.intro Ti Oi))
        have hd3 := hd2 (by omega)
        clear Ai Ti Oi Ni ht
        go_wp2_with fail
        go_ret
        refine ⟨rfl, (unhide FF).1, ?_, (unhide FF).2.2⟩
        have := (unhide FF).2.1
        rw [hd3, ← hseen, see1_A, seeA_app] at this
        rw [pgs_succ]
        exact this
theorem cwalk_all : ∀ (h : Nat), CkAll q op view h := by
  intro h
  induction h with
  | zero =>
    intro w A s hi lo t g tb seen ent dep Tl hO level hl1 hl8 hlo hdep hsn hen ls hs hL hH b1 b2
    exact cwalk_leaf A g Tl hO level hl1 hl8 hlo hdep hsn hen ls hs hL hH b1 b2
  | succ h ih =>
    intro w A s hi lo t g tb seen ent dep Tl hO level hl1 hl8 hlo hdep hsn hen ls hs hL hH b1 b2
    exact cwalk_step ih A g Tl hO level hl1 hl8 hlo hdep hsn hen ls hs hL hH b1 b2
end
end Go.Proofs.Qxb6500410aGreat
