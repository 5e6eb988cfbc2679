/-
  OWN WORK. THE B-TREE: mend.
-/
import Derived.Test.Qxb6500412aGreatBThn
namespace Go.Proofs.Qxb6500412aGreat
open Go.RowKit Go.PlainAid
set_option linter.unusedSimpArgs false
set_option linter.unusedVariables false

section
variable {q : Gnd}
set_option maxRecDepth 100000 in
set_option maxHeartbeats 8000000 in
theorem mend_any {w : World} {view : List ByteArray} (AF : FA q w true view) {h : Nat} {hi : Option ByteArray} {xs ys : List (ByteArray × Tr (h + 1))} {s1 : ByteArray} {m : Tr (h + 1)} (T : Thin (NV view) h hi xs ys s1 m) {x : Node} (rx : Rep (h + 1) x (xs ++ (s1, m) :: ys)) :
    Calls Tryz.prog 342 #[.pointer (some ⟨q.f, 0, none⟩), ndA x, .int .i64 xs.length] w (MendPost q w view h hi (xs ++ (s1, m) :: ys)) := by
  obtain ⟨c, hc⟩ : ∃ c, xs.length = c := ⟨_, rfl⟩
  have hn := rx.n
  have n2 := T.n2
  have n4 := T.n4
  have hlen : (xs ++ (s1, m) :: ys).length = xs.length + ys.length + 1 := by simp; omega
  have xi : c < x.n := by omega
  have x4 : x.n ≤ 4 := by omega
  have hC := kid_at rx
  rw [hc] at hC
  rw [hc]
  have nn : x.n = c + ys.length + 1 := by omega
  have HC := hide hc
  have NN := hide nn
  clear hlen hc hn n2 nn
  have y1 : 1 ≤ c + ys.length := by have := T.n2; have h2 : (xs ++ (s1, m) :: ys).length = xs.length + ys.length + 1 := (by simp; omega); have := unhide HC; omega
  have hst := T.st (s1, m) (by simp)
  have ftm : Fits h (itT m) := Fits.of (N := NV view) NV_lt T.zm.2.1 (.inr (by have := T.th; omega)) T.zm.2.2 hst.2
  have RX := hide rx
  go_enter Tryz.func342, Tryz.ntmps342
  go_upto_region 1 with (first | (refine wpList_box_ndd 4 rfl rfl _ rfl x rfl ?_; intro g w1 hG gG oG) | (refine wpList_alloc_ndd 6 rfl rfl rfl ?_; intro p w2 hP gP oP))
  have hgp : g < p := Nat.lt_of_lt_of_le (Has.lt hG) gP
  have gp0 : w.heap.size ≤ p := by omega
  have nSg := AF.nS gG
  have nSp := AF.nS gp0
  have A2 := (AF.quiet oG).quiet oP
  have CM := hide (load_any A2 hst.1 ftm)
  have c0 := ((hG.keep oP (fun h => h)).kid c (by omega)).1
  rw [hC] at c0
  have I2 := hide (And.intro (hG.keep oP (fun h => h)) (And.intro hP (oG.q0 oP)))
  have xi5 : (c : Int) < 5 := by omega
  clear hG hP oG oP gP A2 rx hst
  go_wp2_with fail
  refine (unhide CM).mono ?_
  rintro e w3 ⟨xm, rfl, rm, A3, o3⟩
  have pl3 : p < w3.heap.size := Nat.lt_of_lt_of_le (Has.lt (unhide I2).2.1) o3.size
  have I3 := hide (And.intro ((unhide I2).1.keep o3 nSg) (And.intro ((unhide I2).2.1.keep o3 nSp) (And.intro ((unhide I2).2.2.up.qt o3) A3)))
  have RM := hide rm
  clear c0 CM I2 o3 A3 rm
  go_upto_region 2 with (first | (refine wpList_alloc_ndd 8 rfl rfl rfl ?_; intro bm w4 hB gB oB; have HB := hide hB; have OB := hide oB; clear hB oB) | (refine wpList_store_nd rfl _ _ rfl bm xm rfl rfl (unhide HB) ?_; intro w5 n5 o5))
  have hpm : p < bm := by omega
  have gm0 : w.heap.size ≤ bm := by omega
  have nSm := AF.nS gm0
  have I5 := hide (And.intro (((unhide I3).1.keep (unhide OB) (fun h => h)).keep o5 (fun e => by omega)) (And.intro (((unhide I3).2.1.keep (unhide OB) (fun h => h)).keep o5 (fun e => by omega)) (And.intro n5 (And.intro (((unhide I3).2.2.1.q0 (unhide OB)).qn o5 gm0) (((unhide I3).2.2.2.quiet (unhide OB)).loc AF gm0 o5)))))
  clear HB OB n5 o5 gB I3 pl3
  have ck := (unhide I5).2.2.1.kind.1
  have cn := (unhide I5).2.2.1.num.1
  have hmn := (unhide RM).n
  have hth := T.th
  go_upto_if 36 with fail
  go_cut [10, 11] (fun s10 s11 wx => s10 = .int .i64 2 ∧ s11 = .int .i64 (mx h : Nat) ∧ wx = w5)
  case first =>
    cases h with
    | zero =>
      have kk : ((xm.k : Int) == 2) = false := kk_f (b := 2) (by rw [(unhide RM).kd0]; omega)
      go_upto_region 7 with fail
      go_meet
      case rel => exact ⟨rfl, rfl, rfl⟩
    | succ h =>
      have kk : ((xm.k : Int) == 2) = true := kk_t (b := 2) (unhide RM).kd1
      go_upto_region 7 with fail
      go_meet
      case rel => exact ⟨rfl, rfl, rfl⟩
  case rest =>
  obtain ⟨rfl, rfl, rfl⟩ := hcut
  clear ck cn
  go_upto_region 8 with (first | (refine wpList_alloc_ndd 12 rfl rfl rfl ?_; intro bl w6 hB gB oB; have HL := hide hB; have OL := hide oB; have GL := hide gB; clear hB oB gB) | (refine wpList_alloc_ndd 13 rfl rfl rfl ?_; intro br w7 hB gB oB; have HR := hide hB; have OR := hide oB; have GR := hide gB; clear hB oB gB))
  have q1 := Has.lt (unhide I5).2.2.1
  have q2 := unhide GL
  have q3 := Has.lt (unhide HL)
  have q4 := unhide GR
  have hml : bm < bl := by omega
  have hlr : bl < br := by omega
  have gl0 : w.heap.size ≤ bl := by omega
  have gr0 : w.heap.size ≤ br := by omega
  have nSl := AF.nS gl0
  have nSr := AF.nS gr0
  have I7 := hide (And.intro (((unhide I5).1.keep (unhide OL) (fun h => h)).keep (unhide OR) (fun h => h)) (And.intro (((unhide I5).2.1.keep (unhide OL) (fun h => h)).keep (unhide OR) (fun h => h)) (And.intro (((unhide I5).2.2.1.keep (unhide OL) (fun h => h)).keep (unhide OR) (fun h => h)) (And.intro ((unhide HL).keep (unhide OR) (fun h => h)) (And.intro (unhide HR) (And.intro (((unhide I5).2.2.2.1.q0 (unhide OL)).q0 (unhide OR)) (((unhide I5).2.2.2.2.quiet (unhide OL)).quiet (unhide OR))))))))
  clear q1 q2 q3 q4 HL OL GL HR OR GR I5
  go_upto_if 38 with fail
  go_cut [9] (fun s9 wx => s9 = .bool true ∧ ∃ xl : Node, NdAt wx g x ∧ NdAt wx p nd0 ∧ NdAt wx bm xm ∧ NdAt wx bl xl ∧ NdAt wx br nd0 ∧ Only q.S w wx ∧ FA q wx true view ∧ (∀ xs' s0 L, xs = xs' ++ [(s0, L)] → Rep h xl (itT L) ∧ (itT L).length = 2))
  case first =>
    rcases List.eq_nil_or_concat xs with hxs | ⟨xs', e0, hxs⟩
    · have hx0 : c = 0 := by rw [← unhide HC, hxs]; rfl
      have NX := hide hxs
      clear hxs
      subst hx0
      go_wp2_with fail
      go_meet
      case rel => exact ⟨rfl, nd0, (unhide I7).1, (unhide I7).2.1, (unhide I7).2.2.1, (unhide I7).2.2.2.1, (unhide I7).2.2.2.2.1, (unhide I7).2.2.2.2.2.1, (unhide I7).2.2.2.2.2.2, fun xs' s0 L hh => by rw [unhide NX] at hh; simp at hh⟩
    · obtain ⟨s0, Lk⟩ := e0
      rw [List.concat_eq_append] at hxs
      obtain ⟨c', hc'⟩ : ∃ c', xs'.length = c' := ⟨_, rfl⟩
      have hxl : c = c' + 1 := by rw [← unhide HC, hxs, ← hc']; simp
      have T' := T
      rw [hxs] at T'
      have P := T'.left
      have RXl := unhide RX
      have hassoc : xs ++ (s1, m) :: ys = xs' ++ (s0, Lk) :: (s1, m) :: ys := by rw [hxs]; simp
      rw [hassoc] at RXl
      have hC' := kid_at RXl
      rw [hc'] at hC'
      have HC' := hide hc'
      clear hc'
      have stL : Sto (NV view) (h + 1) Lk := P.st (s0, Lk) (by simp)
      have zL : Sz (h + 1) 2 Lk := (T'.sz (s0, Lk) (by simp)).2
      have ftL : Fits h (itT Lk) := Fits.of (N := NV view) NV_lt zL.2.1 (.inr (by have := zL.1; omega)) zL.2.2 stL.2
      have a1 : decide ((c : Int) > 0) = true := decide_eq_true (by omega)
      have a1' : decide (0 < (c : Int)) = true := decide_eq_true (by omega)
      have em : (c : Int) - 1 = (c' : Int) := by omega
      have xi' : (c' : Int) < 5 := by omega
      have CL := hide (load_any (unhide I7).2.2.2.2.2.2 stL.1 ftL)
      have c0 := ((unhide I7).1.kid c' (by omega)).1
      rw [hC'] at c0
      have cmk := (unhide I7).2.2.1.kind.1
      have L2 := zL.1
      have HXS := hide hxs
      have HAS := hide hassoc
      have HCL := hide hC'
      have HP := hide P
      have RXL := hide RXl
      have hxlH := hide hxl
      clear hxs hxl T' P RXl hassoc hC' stL zL ftL
      go_wp2_with fail
      refine (unhide CL).mono ?_
      rintro e w8 ⟨xl, rfl, rl, A8, o8⟩
      have I8 := hide (And.intro ((unhide I7).1.keep o8 nSg) (And.intro ((unhide I7).2.1.keep o8 nSp) (And.intro ((unhide I7).2.2.1.keep o8 nSm) (And.intro ((unhide I7).2.2.2.1.keep o8 nSl) (And.intro ((unhide I7).2.2.2.2.1.keep o8 nSr) (And.intro ((unhide I7).2.2.2.2.2.1.qt o8) A8))))))
      have RL := hide rl
      have hln := rl.n
      have hkk : xl.k = xm.k := by
        have r1 := unhide RL
        have r2 := unhide RM
        cases h with
        | zero => rw [r1.kd0, r2.kd0]
        | succ h => rw [r1.kd1, r2.kd1]
      clear c0 cmk CL I7 o8 A8 rl
      go_upto_region 10 with (first | (refine wpList_store_nd rfl _ _ rfl bl xl rfl rfl (unhide I8).2.2.2.1 ?_; intro w9 n9 o9))
      have I9 := hide (And.intro ((unhide I8).1.keep o9 (fun e => by omega)) (And.intro ((unhide I8).2.1.keep o9 (fun e => by omega)) (And.intro ((unhide I8).2.2.1.keep o9 (fun e => by omega)) (And.intro n9 (And.intro ((unhide I8).2.2.2.2.1.keep o9 (fun e => by omega)) (And.intro ((unhide I8).2.2.2.2.2.1.qn o9 gl0) ((unhide I8).2.2.2.2.2.2.loc AF gl0 o9)))))))
      have cm := (unhide I9).2.2.1.kind.1
      have cl := (unhide I9).2.2.2.1.kind.1
      have cln := (unhide I9).2.2.2.1.num.1
      clear n9 o9 I8
      by_cases h3 : (itT Lk).length = 2
      · have a2 : decide ((xl.n : Int) > 2) = false := decide_eq_false (by omega)
        have a2' : decide (2 < (xl.n : Int)) = false := decide_eq_false (by omega)
        go_wp2_with fail
        go_meet
        case rel =>
          refine ⟨rfl, xl, (unhide I9).1, (unhide I9).2.1, (unhide I9).2.2.1, (unhide I9).2.2.2.1, (unhide I9).2.2.2.2.1, (unhide I9).2.2.2.2.2.1, (unhide I9).2.2.2.2.2.2, fun xs2 s02 L2' hh => ?_⟩
          rw [unhide HXS] at hh
          have := List.append_inj' hh rfl
          simp at this
          obtain ⟨_, h1, h2⟩ := this
          rw [← h2]
          exact ⟨unhide RL, h3⟩
      · have a2 : decide ((xl.n : Int) > 2) = true := decide_eq_true (by omega)
        have a2' : decide (2 < (xl.n : Int)) = true := decide_eq_true (by omega)
        go_upto_region 13 with fail
        clear cm cl cln
        obtain ⟨La, e0, hLe⟩ := last_split (l := itT Lk) (by intro e; rw [e] at L2; simp at L2)
        have hLa : (itT Lk).length = La.length + 1 := by rw [hLe]; simp
        have mxh := mx_hi h
        have mLk : (itT Lk).length ≤ mx h := (unhide HP).zl.2.1
        have rl' := unhide RL
        rw [hLe] at rl'
        have CF := hide (fun w => fromLeft_rep (sep := s1) rl' (unhide RM) (by omega) (by omega) hth ((unhide HP).less hLe hth) (by rcases (unhide HP).heads with h0 | h0; exact .inl h0; exact .inr (fun f hf => h0 f (one_head hth hf))) w)
        have hKc : x.K c' = s1 := RepI.s (unhide RXL) c' (s1, pgT m) (by have := unhide HC'; rw [pk_app, pk_cons, pk_cons, ← this, ← pk_len xs']; simp)
        have c4 : (c' : Int) < 4 := by have := unhide hxlH; omega
        have c40 : c' < 4 := by omega
        have c00 : (0 : Int) ≤ (c' : Int) := by omega
        have cw : IntKind.i64.wrap (c' : Int) = (c' : Int) := by rw [IntWalk.i64_in]; omega
        have HLE := hide hLe
        clear rl'
        go_cut [14, 15, 16] (fun s14 s15 s16 wx => ∃ (ga gb : Nat) (ya yb : Node), s14 = .pointer (some ⟨ga, 0, none⟩) ∧ s15 = .pointer (some ⟨gb, 0, none⟩) ∧ s16 = .string e0.1 ∧ NdAt wx ga ya ∧ NdAt wx gb yb ∧ Rep h ya La ∧ Rep h yb (e0 :: itT m) ∧ br < ga ∧ br < gb ∧ Only q.S w wx ∧ FA q wx true view ∧ NdAt wx g x ∧ NdAt wx p nd0)
        case first =>
          have hbr := Has.lt (unhide I9).2.2.2.2.1
          have szd : w9.drew.heap.size = w9.heap.size := rfl
          as_aux_lemma =>
            refine wp_region_held_drew (S := (fun w' => NdAt w' g x ∧ NdAt w' bl xl ∧ NdAt w' bm xm)) (by kernel_rfl) ⟨(unhide I9).1.drew, (unhide I9).2.2.2.1.drew, (unhide I9).2.2.1.drew⟩ (fun hH0 => ?_)
            refine takeH 0 64 rfl rfl (by kernel_rfl) (by kernel_rfl) (by kernel_rfl) (fun _ _ _ h => h) (yieldsIf_load_nd (by rfl) _ rfl bl rfl xl (fun _ h => h.2.1)) hH0 ?rt1
            case rt1 =>
            try simp only [Act.put, List.setIfInBounds_toArray, List.set_cons_zero, List.set_cons_succ]
            refine takeH 1 65 rfl rfl (by kernel_rfl) (by kernel_rfl) (by kernel_rfl) (fun _ _ _ h => h) (yieldsIf_load_nd (by rfl) _ rfl bm rfl xm (fun _ h => h.2.2)) hH0 ?rt2
            case rt2 =>
            try simp only [Act.put, List.setIfInBounds_toArray, List.set_cons_zero, List.set_cons_succ]
            refine takeH 2 66 (v := ?vt3) rfl rfl (by kernel_rfl) (by kernel_rfl) (by kernel_rfl) (fun _ _ _ h => h) (Or.inl ⟨by rfl, ?ht3⟩) hH0 ?rt3
            case ht3 => (intro w hSw; (try dsimp only at hSw); go_simp; (try with_reducible rfl))
            case rt3 =>
            try simp only [Act.put, List.setIfInBounds_toArray, List.set_cons_zero, List.set_cons_succ]
            refine takeH 3 67 (v := ?vt4) rfl rfl (by kernel_rfl) (by kernel_rfl) (by kernel_rfl) (fun _ _ _ h => h) (Or.inl ⟨by rfl, ?ht4⟩) hH0 ?rt4
            case ht4 => (intro w hSw; (try dsimp only at hSw); go_simp; (try with_reducible rfl))
            case rt4 =>
            try simp only [Act.put, List.setIfInBounds_toArray, List.set_cons_zero, List.set_cons_succ]
            refine takeH 4 68 (v := ?vt5) rfl rfl (by kernel_rfl) (by kernel_rfl) (by kernel_rfl) (fun _ _ _ h => h) (Or.inl ⟨by rfl, ?ht5⟩) hH0 ?rt5
            case ht5 => (intro w hSw; (try dsimp only at hSw); go_simp; (try with_reducible rfl))
            case rt5 =>
            try simp only [Act.put, List.setIfInBounds_toArray, List.set_cons_zero, List.set_cons_succ]
            refine takeH 5 69 (v := ?vt6) rfl rfl (by kernel_rfl) (by kernel_rfl) (by kernel_rfl) (fun _ _ _ h => h) (Or.inl ⟨by rfl, ?ht6⟩) hH0 ?rt6
            case ht6 => (intro w hSw; (try dsimp only at hSw); go_simp; (try with_reducible rfl))
            case rt6 =>
            try simp only [Act.put, List.setIfInBounds_toArray, List.set_cons_zero, List.set_cons_succ]
            refine takeH 6 70 (v := ?vt7) rfl rfl (by kernel_rfl) (by kernel_rfl) (by kernel_rfl) (fun _ _ _ h => h) (Or.inl ⟨by rfl, ?ht7⟩) hH0 ?rt7
            case ht7 => (intro w hSw; have q1 := (NdAt.key hSw.1 c' (by omega)).1; rw [hKc] at q1; clear hSw; go_simp; (try with_reducible rfl))
            case rt7 =>
            try simp only [Act.put, List.setIfInBounds_toArray, List.set_cons_zero, List.set_cons_succ]
            refine callAlloc2H 7 12 13 (by kernel_rfl) rfl 71 rfl rfl 352 Tryz.func352 (by kernel_rfl) (by kernel_rfl) #[.tmp 64, .tmp 65, .tmp 70] #[218, 218, 9] rfl #[ndA xl, ndA xm, .string s1] (by simp [Act.eval]) (R := fun v w' => ∃ ya yb, v = .tuple #[ndA ya, ndA yb, .string e0.1] ∧ (Rep h ya La ∧ Rep h yb (e0 :: itT m)) ∧ Only (fun _ => False) w9.drew w') ((unhide CF w9.drew).mono (by rintro en w' ⟨ya, yb, rfl, h1, h2⟩; exact ⟨_, rfl, ya, yb, rfl, h1, h2⟩)) rfl 14 rfl rfl rfl rfl 15 rfl rfl rfl ?k8 ?k9 ?k10
            case k8 =>
              rintro _ w11 ⟨ya, yb, rfl, hyy, oo⟩
              have oc13 : Only (fun _ => False) w9.drew w11 := oo
              have hS12 := (show _ ∧ _ ∧ _ from ⟨NdAt.keep hH0.1 oo (fun e => e), NdAt.keep hH0.2.1 oo (fun e => e), NdAt.keep hH0.2.2 oo (fun e => e)⟩)
              have zw11 := oo.size
              refine ⟨hS12, ?_⟩
              clear oo
              try simp only [Act.put, List.setIfInBounds_toArray, List.set_cons_zero, List.set_cons_succ]
              refine takeH 8 63 (v := ?vt14) rfl rfl (by kernel_rfl) (by kernel_rfl) (by kernel_rfl) (fun _ _ _ h => h) (Or.inl ⟨by rfl, ?ht14⟩) hS12 ?rt14
              case ht14 => (intro w hSw; (try dsimp only at hSw); go_simp; (try with_reducible rfl))
              case rt14 =>
              try simp only [Act.put, List.setIfInBounds_toArray, List.set_cons_zero, List.set_cons_succ]
              refine takeH 9 72 (v := ?vt15) rfl rfl (by kernel_rfl) (by kernel_rfl) (by kernel_rfl) (fun _ _ _ h => h) (Or.inl ⟨by rfl, ?ht15⟩) hS12 ?rt15
              case ht15 => (intro w hSw; (try dsimp only at hSw); go_simp; (try with_reducible rfl))
              case rt15 =>
              try simp only [Act.put, List.setIfInBounds_toArray, List.set_cons_zero, List.set_cons_succ]
              refine takeH 10 73 (v := ?vt16) rfl rfl (by kernel_rfl) (by kernel_rfl) (by kernel_rfl) (fun _ _ _ h => h) (Or.inl ⟨by rfl, ?ht16⟩) hS12 ?rt16
              case ht16 => (intro w hSw; (try dsimp only at hSw); go_simp; (try with_reducible rfl))
              case rt16 =>
              try simp only [Act.put, List.setIfInBounds_toArray, List.set_cons_zero, List.set_cons_succ]
              refine takeH 11 74 (v := ?vt17) rfl rfl (by kernel_rfl) (by kernel_rfl) (by kernel_rfl) (fun _ _ _ h => h) (Or.inl ⟨by rfl, ?ht17⟩) hS12 ?rt17
              case ht17 => (intro w hSw; (try dsimp only at hSw); go_simp; (try with_reducible rfl))
              case rt17 =>
              try simp only [Act.put, List.setIfInBounds_toArray, List.set_cons_zero, List.set_cons_succ]
              refine alloc2H 12 13 (by kernel_rfl) rfl 14 rfl rfl rfl rfl 15 rfl rfl rfl ?k18 ?k19
              case k18 =>
                intro ga w20 nga gga oo
                have oc22 : Only (fun _ => False) w9.drew w20 := oc13.q0 oo
                have hS21 := (show _ ∧ _ ∧ _ from ⟨NdAt.keep hS12.1 oo (fun e => e), NdAt.keep hS12.2.1 oo (fun e => e), NdAt.keep hS12.2.2 oo (fun e => e)⟩)
                have zw20 := oo.size
                refine ⟨hS21, ?_⟩
                clear oo
                try simp only [Act.put, List.setIfInBounds_toArray, List.set_cons_zero, List.set_cons_succ]
                refine allocH 13 (by kernel_rfl) rfl 15 rfl rfl rfl ?k23
                case k23 =>
                  intro gb w24 ngb ggb oo
                  have oc26 : Only (fun _ => False) w9.drew w24 := oc22.q0 oo
                  have lnk27 := Has.lt nga
                  have nk27 := nga.keep oo (fun h => h)
                  have hS25 := (show _ ∧ _ ∧ _ from ⟨NdAt.keep hS21.1 oo (fun e => e), NdAt.keep hS21.2.1 oo (fun e => e), NdAt.keep hS21.2.2 oo (fun e => e)⟩)
                  have zw24 := oo.size
                  refine ⟨hS25, ?_⟩
                  clear oo
                  try simp only [Act.put, List.setIfInBounds_toArray, List.set_cons_zero, List.set_cons_succ]
                  have wsz := oc26.size
                  have hltga := Has.lt nk27
                  have hltgb := Has.lt ngb
                  have hgab : ga ≠ gb := by omega
                  refine storeH_nd 14 (by kernel_rfl) rfl rfl rfl _ _ rfl ga ya nd0 rfl rfl nk27 ?_
                  intro w28 na oa
                  have hSa := (show _ ∧ _ ∧ _ from ⟨NdAt.keep hS25.1 oa (fun e => by omega), NdAt.keep hS25.2.1 oa (fun e => by omega), NdAt.keep hS25.2.2 oa (fun e => by omega)⟩)
                  refine ⟨hSa, ?_⟩
                  try simp only [Act.put, List.setIfInBounds_toArray, List.set_cons_zero, List.set_cons_succ]
                  refine storeH_nd 15 (by kernel_rfl) rfl rfl rfl _ _ rfl gb yb nd0 rfl rfl (ngb.keep oa (fun e => by omega)) ?_
                  intro w29 nb ob
                  have hSb := (show _ ∧ _ ∧ _ from ⟨NdAt.keep hSa.1 ob (fun e => by omega), NdAt.keep hSa.2.1 ob (fun e => by omega), NdAt.keep hSa.2.2 ob (fun e => by omega)⟩)
                  refine ⟨hSb, ?_⟩
                  try simp only [Act.put, List.setIfInBounds_toArray, List.set_cons_zero, List.set_cons_succ]
                  refine takeH 16 16 (v := ?vt30) rfl rfl (by kernel_rfl) (by kernel_rfl) (by kernel_rfl) (fun _ _ _ h => h) (Or.inl ⟨by rfl, ?ht30⟩) hSb ?rt30
                  case ht30 => (intro w hSw; (try dsimp only at hSw); go_simp; (try with_reducible rfl))
                  case rt30 =>
                  try simp only [Act.put, List.setIfInBounds_toArray, List.set_cons_zero, List.set_cons_succ]
                  refine wpAnyH_done (by kernel_rfl) ?_ _
                  have FF := hide (And.intro (na.keep ob (fun e => by omega)) (And.intro nb (And.intro hyy (And.intro oc26 (And.intro oa (And.intro ob hSb))))))
                  go_wp2_with fail
                  go_meet
                  case rel =>
                    obtain ⟨na, nb, hyy, oc, oa, ob, hS⟩ := unhide FF
                    have B0 := (unhide I9)
                    have T1 : Only q.S w _ := ((B0.2.2.2.2.2.1.drew.q0 oc).qn oa (by omega)).qn ob (by omega)
                    have A1 := (((B0.2.2.2.2.2.2.quiet (Only.refl _ _).drew).quiet oc).loc AF (by omega) oa).loc AF (by omega) ob
                    have P1 := (((B0.2.1.drew.keep oc (fun h => h)).keep oa (fun e => by omega)).keep ob (fun e => by omega))
                    exact ⟨ga, gb, ya, yb, rfl, rfl, rfl, na, nb, hyy.1, hyy.2, by omega, by omega, T1, A1, hS.1, P1⟩
              case k19 =>
                intro gb w31 ngb ggb oo
                have oc33 : Only (fun _ => False) w9.drew w31 := oc13.q0 oo
                have hS32 := (show _ ∧ _ ∧ _ from ⟨NdAt.keep hS12.1 oo (fun e => e), NdAt.keep hS12.2.1 oo (fun e => e), NdAt.keep hS12.2.2 oo (fun e => e)⟩)
                have zw31 := oo.size
                refine ⟨hS32, ?_⟩
                clear oo
                try simp only [Act.put, List.setIfInBounds_toArray, List.set_cons_zero, List.set_cons_succ]
                refine allocH 12 (by kernel_rfl) rfl 14 rfl rfl rfl ?k34
                case k34 =>
                  intro ga w35 nga gga oo
                  have oc37 : Only (fun _ => False) w9.drew w35 := oc33.q0 oo
                  have lnk38 := Has.lt ngb
                  have nk38 := ngb.keep oo (fun h => h)
                  have hS36 := (show _ ∧ _ ∧ _ from ⟨NdAt.keep hS32.1 oo (fun e => e), NdAt.keep hS32.2.1 oo (fun e => e), NdAt.keep hS32.2.2 oo (fun e => e)⟩)
                  have zw35 := oo.size
                  refine ⟨hS36, ?_⟩
                  clear oo
                  try simp only [Act.put, List.setIfInBounds_toArray, List.set_cons_zero, List.set_cons_succ]
                  have wsz := oc37.size
                  have hltga := Has.lt nga
                  have hltgb := Has.lt nk38
                  have hgab : ga ≠ gb := by omega
                  refine storeH_nd 14 (by kernel_rfl) rfl rfl rfl _ _ rfl ga ya nd0 rfl rfl nga ?_
                  intro w39 na oa
                  have hSa := (show _ ∧ _ ∧ _ from ⟨NdAt.keep hS36.1 oa (fun e => by omega), NdAt.keep hS36.2.1 oa (fun e => by omega), NdAt.keep hS36.2.2 oa (fun e => by omega)⟩)
                  refine ⟨hSa, ?_⟩
                  try simp only [Act.put, List.setIfInBounds_toArray, List.set_cons_zero, List.set_cons_succ]
                  refine storeH_nd 15 (by kernel_rfl) rfl rfl rfl _ _ rfl gb yb nd0 rfl rfl (nk38.keep oa (fun e => by omega)) ?_
                  intro w40 nb ob
                  have hSb := (show _ ∧ _ ∧ _ from ⟨NdAt.keep hSa.1 ob (fun e => by omega), NdAt.keep hSa.2.1 ob (fun e => by omega), NdAt.keep hSa.2.2 ob (fun e => by omega)⟩)
                  refine ⟨hSb, ?_⟩
                  try simp only [Act.put, List.setIfInBounds_toArray, List.set_cons_zero, List.set_cons_succ]
                  refine takeH 16 16 (v := ?vt41) rfl rfl (by kernel_rfl) (by kernel_rfl) (by kernel_rfl) (fun _ _ _ h => h) (Or.inl ⟨by rfl, ?ht41⟩) hSb ?rt41
                  case ht41 => (intro w hSw; (try dsimp only at hSw); go_simp; (try with_reducible rfl))
                  case rt41 =>
                  try simp only [Act.put, List.setIfInBounds_toArray, List.set_cons_zero, List.set_cons_succ]
                  refine wpAnyH_done (by kernel_rfl) ?_ _
                  have FF := hide (And.intro (na.keep ob (fun e => by omega)) (And.intro nb (And.intro hyy (And.intro oc37 (And.intro oa (And.intro ob hSb))))))
                  go_wp2_with fail
                  go_meet
                  case rel =>
                    obtain ⟨na, nb, hyy, oc, oa, ob, hS⟩ := unhide FF
                    have B0 := (unhide I9)
                    have T1 : Only q.S w _ := ((B0.2.2.2.2.2.1.drew.q0 oc).qn oa (by omega)).qn ob (by omega)
                    have A1 := (((B0.2.2.2.2.2.2.quiet (Only.refl _ _).drew).quiet oc).loc AF (by omega) oa).loc AF (by omega) ob
                    have P1 := (((B0.2.1.drew.keep oc (fun h => h)).keep oa (fun e => by omega)).keep ob (fun e => by omega))
                    exact ⟨ga, gb, ya, yb, rfl, rfl, rfl, na, nb, hyy.1, hyy.2, by omega, by omega, T1, A1, hS.1, P1⟩
            case k9 =>
              intro ga w42 nga gga oo
              have oc44 : Only (fun _ => False) w9.drew w42 := oo
              have hS43 := (show _ ∧ _ ∧ _ from ⟨NdAt.keep hH0.1 oo (fun e => e), NdAt.keep hH0.2.1 oo (fun e => e), NdAt.keep hH0.2.2 oo (fun e => e)⟩)
              have zw42 := oo.size
              refine ⟨hS43, ?_⟩
              clear oo
              try simp only [Act.put, List.setIfInBounds_toArray, List.set_cons_zero, List.set_cons_succ]
              refine callAllocH 7 13 (by kernel_rfl) rfl 71 rfl rfl 352 Tryz.func352 (by kernel_rfl) (by kernel_rfl) #[.tmp 64, .tmp 65, .tmp 70] #[218, 218, 9] rfl #[ndA xl, ndA xm, .string s1] (by simp [Act.eval]) (R := fun v w' => ∃ ya yb, v = .tuple #[ndA ya, ndA yb, .string e0.1] ∧ (Rep h ya La ∧ Rep h yb (e0 :: itT m)) ∧ Only (fun _ => False) w42 w') ((unhide CF w42).mono (by rintro en w' ⟨ya, yb, rfl, h1, h2⟩; exact ⟨_, rfl, ya, yb, rfl, h1, h2⟩)) rfl 15 rfl rfl rfl ?k45 ?k46
              case k45 =>
                rintro _ w47 ⟨ya, yb, rfl, hyy, oo⟩
                have oc49 : Only (fun _ => False) w9.drew w47 := oc44.q0 oo
                have lnk50 := Has.lt nga
                have nk50 := nga.keep oo (fun h => h)
                have hS48 := (show _ ∧ _ ∧ _ from ⟨NdAt.keep hS43.1 oo (fun e => e), NdAt.keep hS43.2.1 oo (fun e => e), NdAt.keep hS43.2.2 oo (fun e => e)⟩)
                have zw47 := oo.size
                refine ⟨hS48, ?_⟩
                clear oo
                try simp only [Act.put, List.setIfInBounds_toArray, List.set_cons_zero, List.set_cons_succ]
                refine takeH 8 63 (v := ?vt51) rfl rfl (by kernel_rfl) (by kernel_rfl) (by kernel_rfl) (fun _ _ _ h => h) (Or.inl ⟨by rfl, ?ht51⟩) hS48 ?rt51
                case ht51 => (intro w hSw; (try dsimp only at hSw); go_simp; (try with_reducible rfl))
                case rt51 =>
                try simp only [Act.put, List.setIfInBounds_toArray, List.set_cons_zero, List.set_cons_succ]
                refine takeH 9 72 (v := ?vt52) rfl rfl (by kernel_rfl) (by kernel_rfl) (by kernel_rfl) (fun _ _ _ h => h) (Or.inl ⟨by rfl, ?ht52⟩) hS48 ?rt52
                case ht52 => (intro w hSw; (try dsimp only at hSw); go_simp; (try with_reducible rfl))
                case rt52 =>
                try simp only [Act.put, List.setIfInBounds_toArray, List.set_cons_zero, List.set_cons_succ]
                refine takeH 10 73 (v := ?vt53) rfl rfl (by kernel_rfl) (by kernel_rfl) (by kernel_rfl) (fun _ _ _ h => h) (Or.inl ⟨by rfl, ?ht53⟩) hS48 ?rt53
                case ht53 => (intro w hSw; (try dsimp only at hSw); go_simp; (try with_reducible rfl))
                case rt53 =>
                try simp only [Act.put, List.setIfInBounds_toArray, List.set_cons_zero, List.set_cons_succ]
                refine takeH 11 74 (v := ?vt54) rfl rfl (by kernel_rfl) (by kernel_rfl) (by kernel_rfl) (fun _ _ _ h => h) (Or.inl ⟨by rfl, ?ht54⟩) hS48 ?rt54
                case ht54 => (intro w hSw; (try dsimp only at hSw); go_simp; (try with_reducible rfl))
                case rt54 =>
                try simp only [Act.put, List.setIfInBounds_toArray, List.set_cons_zero, List.set_cons_succ]
                refine allocH 13 (by kernel_rfl) rfl 15 rfl rfl rfl ?k55
                case k55 =>
                  intro gb w56 ngb ggb oo
                  have oc58 : Only (fun _ => False) w9.drew w56 := oc49.q0 oo
                  have lnk59 := Has.lt nk50
                  have nk59 := nk50.keep oo (fun h => h)
                  have hS57 := (show _ ∧ _ ∧ _ from ⟨NdAt.keep hS48.1 oo (fun e => e), NdAt.keep hS48.2.1 oo (fun e => e), NdAt.keep hS48.2.2 oo (fun e => e)⟩)
                  have zw56 := oo.size
                  refine ⟨hS57, ?_⟩
                  clear oo
                  try simp only [Act.put, List.setIfInBounds_toArray, List.set_cons_zero, List.set_cons_succ]
                  have wsz := oc58.size
                  have hltga := Has.lt nk59
                  have hltgb := Has.lt ngb
                  have hgab : ga ≠ gb := by omega
                  refine storeH_nd 14 (by kernel_rfl) rfl rfl rfl _ _ rfl ga ya nd0 rfl rfl nk59 ?_
                  intro w60 na oa
                  have hSa := (show _ ∧ _ ∧ _ from ⟨NdAt.keep hS57.1 oa (fun e => by omega), NdAt.keep hS57.2.1 oa (fun e => by omega), NdAt.keep hS57.2.2 oa (fun e => by omega)⟩)
                  refine ⟨hSa, ?_⟩
                  try simp only [Act.put, List.setIfInBounds_toArray, List.set_cons_zero, List.set_cons_succ]
                  refine storeH_nd 15 (by kernel_rfl) rfl rfl rfl _ _ rfl gb yb nd0 rfl rfl (ngb.keep oa (fun e => by omega)) ?_
                  intro w61 nb ob
                  have hSb := (show _ ∧ _ ∧ _ from ⟨NdAt.keep hSa.1 ob (fun e => by omega), NdAt.keep hSa.2.1 ob (fun e => by omega), NdAt.keep hSa.2.2 ob (fun e => by omega)⟩)
                  refine ⟨hSb, ?_⟩
                  try simp only [Act.put, List.setIfInBounds_toArray, List.set_cons_zero, List.set_cons_succ]
                  refine takeH 16 16 (v := ?vt62) rfl rfl (by kernel_rfl) (by kernel_rfl) (by kernel_rfl) (fun _ _ _ h => h) (Or.inl ⟨by rfl, ?ht62⟩) hSb ?rt62
                  case ht62 => (intro w hSw; (try dsimp only at hSw); go_simp; (try with_reducible rfl))
                  case rt62 =>
                  try simp only [Act.put, List.setIfInBounds_toArray, List.set_cons_zero, List.set_cons_succ]
                  refine wpAnyH_done (by kernel_rfl) ?_ _
                  have FF := hide (And.intro (na.keep ob (fun e => by omega)) (And.intro nb (And.intro hyy (And.intro oc58 (And.intro oa (And.intro ob hSb))))))
                  go_wp2_with fail
                  go_meet
                  case rel =>
                    obtain ⟨na, nb, hyy, oc, oa, ob, hS⟩ := unhide FF
                    have B0 := (unhide I9)
                    have T1 : Only q.S w _ := ((B0.2.2.2.2.2.1.drew.q0 oc).qn oa (by omega)).qn ob (by omega)
                    have A1 := (((B0.2.2.2.2.2.2.quiet (Only.refl _ _).drew).quiet oc).loc AF (by omega) oa).loc AF (by omega) ob
                    have P1 := (((B0.2.1.drew.keep oc (fun h => h)).keep oa (fun e => by omega)).keep ob (fun e => by omega))
                    exact ⟨ga, gb, ya, yb, rfl, rfl, rfl, na, nb, hyy.1, hyy.2, by omega, by omega, T1, A1, hS.1, P1⟩
              case k46 =>
                intro gb w63 ngb ggb oo
                have oc65 : Only (fun _ => False) w9.drew w63 := oc44.q0 oo
                have lnk66 := Has.lt nga
                have nk66 := nga.keep oo (fun h => h)
                have hS64 := (show _ ∧ _ ∧ _ from ⟨NdAt.keep hS43.1 oo (fun e => e), NdAt.keep hS43.2.1 oo (fun e => e), NdAt.keep hS43.2.2 oo (fun e => e)⟩)
                have zw63 := oo.size
                refine ⟨hS64, ?_⟩
                clear oo
                try simp only [Act.put, List.setIfInBounds_toArray, List.set_cons_zero, List.set_cons_succ]
                refine callH 7 (by kernel_rfl) rfl 71 rfl rfl 352 Tryz.func352 (by kernel_rfl) (by kernel_rfl) #[.tmp 64, .tmp 65, .tmp 70] #[218, 218, 9] rfl #[ndA xl, ndA xm, .string s1] (by simp [Act.eval]) (R := fun v w' => ∃ ya yb, v = .tuple #[ndA ya, ndA yb, .string e0.1] ∧ (Rep h ya La ∧ Rep h yb (e0 :: itT m)) ∧ Only (fun _ => False) w63 w') ((unhide CF w63).mono (by rintro en w' ⟨ya, yb, rfl, h1, h2⟩; exact ⟨_, rfl, ya, yb, rfl, h1, h2⟩)) ?k67
                case k67 =>
                  rintro _ w68 ⟨ya, yb, rfl, hyy, oo⟩
                  have oc70 : Only (fun _ => False) w9.drew w68 := oc65.q0 oo
                  have lnk71 := Has.lt nk66
                  have nk71 := nk66.keep oo (fun h => h)
                  have lnk72 := Has.lt ngb
                  have nk72 := ngb.keep oo (fun h => h)
                  have hS69 := (show _ ∧ _ ∧ _ from ⟨NdAt.keep hS64.1 oo (fun e => e), NdAt.keep hS64.2.1 oo (fun e => e), NdAt.keep hS64.2.2 oo (fun e => e)⟩)
                  have zw68 := oo.size
                  refine ⟨hS69, ?_⟩
                  clear oo
                  try simp only [Act.put, List.setIfInBounds_toArray, List.set_cons_zero, List.set_cons_succ]
                  refine takeH 8 63 (v := ?vt73) rfl rfl (by kernel_rfl) (by kernel_rfl) (by kernel_rfl) (fun _ _ _ h => h) (Or.inl ⟨by rfl, ?ht73⟩) hS69 ?rt73
                  case ht73 => (intro w hSw; (try dsimp only at hSw); go_simp; (try with_reducible rfl))
                  case rt73 =>
                  try simp only [Act.put, List.setIfInBounds_toArray, List.set_cons_zero, List.set_cons_succ]
                  refine takeH 9 72 (v := ?vt74) rfl rfl (by kernel_rfl) (by kernel_rfl) (by kernel_rfl) (fun _ _ _ h => h) (Or.inl ⟨by rfl, ?ht74⟩) hS69 ?rt74
                  case ht74 => (intro w hSw; (try dsimp only at hSw); go_simp; (try with_reducible rfl))
                  case rt74 =>
                  try simp only [Act.put, List.setIfInBounds_toArray, List.set_cons_zero, List.set_cons_succ]
                  refine takeH 10 73 (v := ?vt75) rfl rfl (by kernel_rfl) (by kernel_rfl) (by kernel_rfl) (fun _ _ _ h => h) (Or.inl ⟨by rfl, ?ht75⟩) hS69 ?rt75
                  case ht75 => (intro w hSw; (try dsimp only at hSw); go_simp; (try with_reducible rfl))
                  case rt75 =>
                  try simp only [Act.put, List.setIfInBounds_toArray, List.set_cons_zero, List.set_cons_succ]
                  refine takeH 11 74 (v := ?vt76) rfl rfl (by kernel_rfl) (by kernel_rfl) (by kernel_rfl) (fun _ _ _ h => h) (Or.inl ⟨by rfl, ?ht76⟩) hS69 ?rt76
                  case ht76 => (intro w hSw; (try dsimp only at hSw); go_simp; (try with_reducible rfl))
                  case rt76 =>
                  try simp only [Act.put, List.setIfInBounds_toArray, List.set_cons_zero, List.set_cons_succ]
                  have wsz := oc70.size
                  have hltga := Has.lt nk71
                  have hltgb := Has.lt nk72
                  have hgab : ga ≠ gb := by omega
                  refine storeH_nd 14 (by kernel_rfl) rfl rfl rfl _ _ rfl ga ya nd0 rfl rfl nk71 ?_
                  intro w77 na oa
                  have hSa := (show _ ∧ _ ∧ _ from ⟨NdAt.keep hS69.1 oa (fun e => by omega), NdAt.keep hS69.2.1 oa (fun e => by omega), NdAt.keep hS69.2.2 oa (fun e => by omega)⟩)
                  refine ⟨hSa, ?_⟩
                  try simp only [Act.put, List.setIfInBounds_toArray, List.set_cons_zero, List.set_cons_succ]
                  refine storeH_nd 15 (by kernel_rfl) rfl rfl rfl _ _ rfl gb yb nd0 rfl rfl (nk72.keep oa (fun e => by omega)) ?_
                  intro w78 nb ob
                  have hSb := (show _ ∧ _ ∧ _ from ⟨NdAt.keep hSa.1 ob (fun e => by omega), NdAt.keep hSa.2.1 ob (fun e => by omega), NdAt.keep hSa.2.2 ob (fun e => by omega)⟩)
                  refine ⟨hSb, ?_⟩
                  try simp only [Act.put, List.setIfInBounds_toArray, List.set_cons_zero, List.set_cons_succ]
                  refine takeH 16 16 (v := ?vt79) rfl rfl (by kernel_rfl) (by kernel_rfl) (by kernel_rfl) (fun _ _ _ h => h) (Or.inl ⟨by rfl, ?ht79⟩) hSb ?rt79
                  case ht79 => (intro w hSw; (try dsimp only at hSw); go_simp; (try with_reducible rfl))
                  case rt79 =>
                  try simp only [Act.put, List.setIfInBounds_toArray, List.set_cons_zero, List.set_cons_succ]
                  refine wpAnyH_done (by kernel_rfl) ?_ _
                  have FF := hide (And.intro (na.keep ob (fun e => by omega)) (And.intro nb (And.intro hyy (And.intro oc70 (And.intro oa (And.intro ob hSb))))))
                  go_wp2_with fail
                  go_meet
                  case rel =>
                    obtain ⟨na, nb, hyy, oc, oa, ob, hS⟩ := unhide FF
                    have B0 := (unhide I9)
                    have T1 : Only q.S w _ := ((B0.2.2.2.2.2.1.drew.q0 oc).qn oa (by omega)).qn ob (by omega)
                    have A1 := (((B0.2.2.2.2.2.2.quiet (Only.refl _ _).drew).quiet oc).loc AF (by omega) oa).loc AF (by omega) ob
                    have P1 := (((B0.2.1.drew.keep oc (fun h => h)).keep oa (fun e => by omega)).keep ob (fun e => by omega))
                    exact ⟨ga, gb, ya, yb, rfl, rfl, rfl, na, nb, hyy.1, hyy.2, by omega, by omega, T1, A1, hS.1, P1⟩
            case k10 =>
              intro gb w80 ngb ggb oo
              have oc82 : Only (fun _ => False) w9.drew w80 := oo
              have hS81 := (show _ ∧ _ ∧ _ from ⟨NdAt.keep hH0.1 oo (fun e => e), NdAt.keep hH0.2.1 oo (fun e => e), NdAt.keep hH0.2.2 oo (fun e => e)⟩)
              have zw80 := oo.size
              refine ⟨hS81, ?_⟩
              clear oo
              try simp only [Act.put, List.setIfInBounds_toArray, List.set_cons_zero, List.set_cons_succ]
              refine callAllocH 7 12 (by kernel_rfl) rfl 71 rfl rfl 352 Tryz.func352 (by kernel_rfl) (by kernel_rfl) #[.tmp 64, .tmp 65, .tmp 70] #[218, 218, 9] rfl #[ndA xl, ndA xm, .string s1] (by simp [Act.eval]) (R := fun v w' => ∃ ya yb, v = .tuple #[ndA ya, ndA yb, .string e0.1] ∧ (Rep h ya La ∧ Rep h yb (e0 :: itT m)) ∧ Only (fun _ => False) w80 w') ((unhide CF w80).mono (by rintro en w' ⟨ya, yb, rfl, h1, h2⟩; exact ⟨_, rfl, ya, yb, rfl, h1, h2⟩)) rfl 14 rfl rfl rfl ?k83 ?k84
              case k83 =>
                rintro _ w85 ⟨ya, yb, rfl, hyy, oo⟩
                have oc87 : Only (fun _ => False) w9.drew w85 := oc82.q0 oo
                have lnk88 := Has.lt ngb
                have nk88 := ngb.keep oo (fun h => h)
                have hS86 := (show _ ∧ _ ∧ _ from ⟨NdAt.keep hS81.1 oo (fun e => e), NdAt.keep hS81.2.1 oo (fun e => e), NdAt.keep hS81.2.2 oo (fun e => e)⟩)
                have zw85 := oo.size
                refine ⟨hS86, ?_⟩
                clear oo
                try simp only [Act.put, List.setIfInBounds_toArray, List.set_cons_zero, List.set_cons_succ]
                refine takeH 8 63 (v := ?vt89) rfl rfl (by kernel_rfl) (by kernel_rfl) (by kernel_rfl) (fun _ _ _ h => h) (Or.inl ⟨by rfl, ?ht89⟩) hS86 ?rt89
                case ht89 => (intro w hSw; (try dsimp only at hSw); go_simp; (try with_reducible rfl))
                case rt89 =>
                try simp only [Act.put, List.setIfInBounds_toArray, List.set_cons_zero, List.set_cons_succ]
                refine takeH 9 72 (v := ?vt90) rfl rfl (by kernel_rfl) (by kernel_rfl) (by kernel_rfl) (fun _ _ _ h => h) (Or.inl ⟨by rfl, ?ht90⟩) hS86 ?rt90
                case ht90 => (intro w hSw; (try dsimp only at hSw); go_simp; (try with_reducible rfl))
                case rt90 =>
                try simp only [Act.put, List.setIfInBounds_toArray, List.set_cons_zero, List.set_cons_succ]
                refine takeH 10 73 (v := ?vt91) rfl rfl (by kernel_rfl) (by kernel_rfl) (by kernel_rfl) (fun _ _ _ h => h) (Or.inl ⟨by rfl, ?ht91⟩) hS86 ?rt91
                case ht91 => (intro w hSw; (try dsimp only at hSw); go_simp; (try with_reducible rfl))
                case rt91 =>
                try simp only [Act.put, List.setIfInBounds_toArray, List.set_cons_zero, List.set_cons_succ]
                refine takeH 11 74 (v := ?vt92) rfl rfl (by kernel_rfl) (by kernel_rfl) (by kernel_rfl) (fun _ _ _ h => h) (Or.inl ⟨by rfl, ?ht92⟩) hS86 ?rt92
                case ht92 => (intro w hSw; (try dsimp only at hSw); go_simp; (try with_reducible rfl))
                case rt92 =>
                try simp only [Act.put, List.setIfInBounds_toArray, List.set_cons_zero, List.set_cons_succ]
                refine allocH 12 (by kernel_rfl) rfl 14 rfl rfl rfl ?k93
                case k93 =>
                  intro ga w94 nga gga oo
                  have oc96 : Only (fun _ => False) w9.drew w94 := oc87.q0 oo
                  have lnk97 := Has.lt nk88
                  have nk97 := nk88.keep oo (fun h => h)
                  have hS95 := (show _ ∧ _ ∧ _ from ⟨NdAt.keep hS86.1 oo (fun e => e), NdAt.keep hS86.2.1 oo (fun e => e), NdAt.keep hS86.2.2 oo (fun e => e)⟩)
                  have zw94 := oo.size
                  refine ⟨hS95, ?_⟩
                  clear oo
                  try simp only [Act.put, List.setIfInBounds_toArray, List.set_cons_zero, List.set_cons_succ]
                  have wsz := oc96.size
                  have hltga := Has.lt nga
                  have hltgb := Has.lt nk97
                  have hgab : ga ≠ gb := by omega
                  refine storeH_nd 14 (by kernel_rfl) rfl rfl rfl _ _ rfl ga ya nd0 rfl rfl nga ?_
                  intro w98 na oa
                  have hSa := (show _ ∧ _ ∧ _ from ⟨NdAt.keep hS95.1 oa (fun e => by omega), NdAt.keep hS95.2.1 oa (fun e => by omega), NdAt.keep hS95.2.2 oa (fun e => by omega)⟩)
                  refine ⟨hSa, ?_⟩
                  try simp only [Act.put, List.setIfInBounds_toArray, List.set_cons_zero, List.set_cons_succ]
                  refine storeH_nd 15 (by kernel_rfl) rfl rfl rfl _ _ rfl gb yb nd0 rfl rfl (nk97.keep oa (fun e => by omega)) ?_
                  intro w99 nb ob
                  have hSb := (show _ ∧ _ ∧ _ from ⟨NdAt.keep hSa.1 ob (fun e => by omega), NdAt.keep hSa.2.1 ob (fun e => by omega), NdAt.keep hSa.2.2 ob (fun e => by omega)⟩)
                  refine ⟨hSb, ?_⟩
                  try simp only [Act.put, List.setIfInBounds_toArray, List.set_cons_zero, List.set_cons_succ]
                  refine takeH 16 16 (v := ?vt100) rfl rfl (by kernel_rfl) (by kernel_rfl) (by kernel_rfl) (fun _ _ _ h => h) (Or.inl ⟨by rfl, ?ht100⟩) hSb ?rt100
                  case ht100 => (intro w hSw; (try dsimp only at hSw); go_simp; (try with_reducible rfl))
                  case rt100 =>
                  try simp only [Act.put, List.setIfInBounds_toArray, List.set_cons_zero, List.set_cons_succ]
                  refine wpAnyH_done (by kernel_rfl) ?_ _
                  have FF := hide (And.intro (na.keep ob (fun e => by omega)) (And.intro nb (And.intro hyy (And.intro oc96 (And.intro oa (And.intro ob hSb))))))
                  go_wp2_with fail
                  go_meet
                  case rel =>
                    obtain ⟨na, nb, hyy, oc, oa, ob, hS⟩ := unhide FF
                    have B0 := (unhide I9)
                    have T1 : Only q.S w _ := ((B0.2.2.2.2.2.1.drew.q0 oc).qn oa (by omega)).qn ob (by omega)
                    have A1 := (((B0.2.2.2.2.2.2.quiet (Only.refl _ _).drew).quiet oc).loc AF (by omega) oa).loc AF (by omega) ob
                    have P1 := (((B0.2.1.drew.keep oc (fun h => h)).keep oa (fun e => by omega)).keep ob (fun e => by omega))
                    exact ⟨ga, gb, ya, yb, rfl, rfl, rfl, na, nb, hyy.1, hyy.2, by omega, by omega, T1, A1, hS.1, P1⟩
              case k84 =>
                intro ga w101 nga gga oo
                have oc103 : Only (fun _ => False) w9.drew w101 := oc82.q0 oo
                have lnk104 := Has.lt ngb
                have nk104 := ngb.keep oo (fun h => h)
                have hS102 := (show _ ∧ _ ∧ _ from ⟨NdAt.keep hS81.1 oo (fun e => e), NdAt.keep hS81.2.1 oo (fun e => e), NdAt.keep hS81.2.2 oo (fun e => e)⟩)
                have zw101 := oo.size
                refine ⟨hS102, ?_⟩
                clear oo
                try simp only [Act.put, List.setIfInBounds_toArray, List.set_cons_zero, List.set_cons_succ]
                refine callH 7 (by kernel_rfl) rfl 71 rfl rfl 352 Tryz.func352 (by kernel_rfl) (by kernel_rfl) #[.tmp 64, .tmp 65, .tmp 70] #[218, 218, 9] rfl #[ndA xl, ndA xm, .string s1] (by simp [Act.eval]) (R := fun v w' => ∃ ya yb, v = .tuple #[ndA ya, ndA yb, .string e0.1] ∧ (Rep h ya La ∧ Rep h yb (e0 :: itT m)) ∧ Only (fun _ => False) w101 w') ((unhide CF w101).mono (by rintro en w' ⟨ya, yb, rfl, h1, h2⟩; exact ⟨_, rfl, ya, yb, rfl, h1, h2⟩)) ?k105
                case k105 =>
                  rintro _ w106 ⟨ya, yb, rfl, hyy, oo⟩
                  have oc108 : Only (fun _ => False) w9.drew w106 := oc103.q0 oo
                  have lnk109 := Has.lt nk104
                  have nk109 := nk104.keep oo (fun h => h)
                  have lnk110 := Has.lt nga
                  have nk110 := nga.keep oo (fun h => h)
                  have hS107 := (show _ ∧ _ ∧ _ from ⟨NdAt.keep hS102.1 oo (fun e => e), NdAt.keep hS102.2.1 oo (fun e => e), NdAt.keep hS102.2.2 oo (fun e => e)⟩)
                  have zw106 := oo.size
                  refine ⟨hS107, ?_⟩
                  clear oo
                  try simp only [Act.put, List.setIfInBounds_toArray, List.set_cons_zero, List.set_cons_succ]
                  refine takeH 8 63 (v := ?vt111) rfl rfl (by kernel_rfl) (by kernel_rfl) (by kernel_rfl) (fun _ _ _ h => h) (Or.inl ⟨by rfl, ?ht111⟩) hS107 ?rt111
                  case ht111 => (intro w hSw; (try dsimp only at hSw); go_simp; (try with_reducible rfl))
                  case rt111 =>
                  try simp only [Act.put, List.setIfInBounds_toArray, List.set_cons_zero, List.set_cons_succ]
                  refine takeH 9 72 (v := ?vt112) rfl rfl (by kernel_rfl) (by kernel_rfl) (by kernel_rfl) (fun _ _ _ h => h) (Or.inl ⟨by rfl, ?ht112⟩) hS107 ?rt112
                  case ht112 => (intro w hSw; (try dsimp only at hSw); go_simp; (try with_reducible rfl))
                  case rt112 =>
                  try simp only [Act.put, List.setIfInBounds_toArray, List.set_cons_zero, List.set_cons_succ]
                  refine takeH 10 73 (v := ?vt113) rfl rfl (by kernel_rfl) (by kernel_rfl) (by kernel_rfl) (fun _ _ _ h => h) (Or.inl ⟨by rfl, ?ht113⟩) hS107 ?rt113
                  case ht113 => (intro w hSw; (try dsimp only at hSw); go_simp; (try with_reducible rfl))
                  case rt113 =>
                  try simp only [Act.put, List.setIfInBounds_toArray, List.set_cons_zero, List.set_cons_succ]
                  refine takeH 11 74 (v := ?vt114) rfl rfl (by kernel_rfl) (by kernel_rfl) (by kernel_rfl) (fun _ _ _ h => h) (Or.inl ⟨by rfl, ?ht114⟩) hS107 ?rt114
                  case ht114 => (intro w hSw; (try dsimp only at hSw); go_simp; (try with_reducible rfl))
                  case rt114 =>
                  try simp only [Act.put, List.setIfInBounds_toArray, List.set_cons_zero, List.set_cons_succ]
                  have wsz := oc108.size
                  have hltga := Has.lt nk110
                  have hltgb := Has.lt nk109
                  have hgab : ga ≠ gb := by omega
                  refine storeH_nd 14 (by kernel_rfl) rfl rfl rfl _ _ rfl ga ya nd0 rfl rfl nk110 ?_
                  intro w115 na oa
                  have hSa := (show _ ∧ _ ∧ _ from ⟨NdAt.keep hS107.1 oa (fun e => by omega), NdAt.keep hS107.2.1 oa (fun e => by omega), NdAt.keep hS107.2.2 oa (fun e => by omega)⟩)
                  refine ⟨hSa, ?_⟩
                  try simp only [Act.put, List.setIfInBounds_toArray, List.set_cons_zero, List.set_cons_succ]
                  refine storeH_nd 15 (by kernel_rfl) rfl rfl rfl _ _ rfl gb yb nd0 rfl rfl (nk109.keep oa (fun e => by omega)) ?_
                  intro w116 nb ob
                  have hSb := (show _ ∧ _ ∧ _ from ⟨NdAt.keep hSa.1 ob (fun e => by omega), NdAt.keep hSa.2.1 ob (fun e => by omega), NdAt.keep hSa.2.2 ob (fun e => by omega)⟩)
                  refine ⟨hSb, ?_⟩
                  try simp only [Act.put, List.setIfInBounds_toArray, List.set_cons_zero, List.set_cons_succ]
                  refine takeH 16 16 (v := ?vt117) rfl rfl (by kernel_rfl) (by kernel_rfl) (by kernel_rfl) (fun _ _ _ h => h) (Or.inl ⟨by rfl, ?ht117⟩) hSb ?rt117
                  case ht117 => (intro w hSw; (try dsimp only at hSw); go_simp; (try with_reducible rfl))
                  case rt117 =>
                  try simp only [Act.put, List.setIfInBounds_toArray, List.set_cons_zero, List.set_cons_succ]
                  refine wpAnyH_done (by kernel_rfl) ?_ _
                  have FF := hide (And.intro (na.keep ob (fun e => by omega)) (And.intro nb (And.intro hyy (And.intro oc108 (And.intro oa (And.intro ob hSb))))))
                  go_wp2_with fail
                  go_meet
                  case rel =>
                    obtain ⟨na, nb, hyy, oc, oa, ob, hS⟩ := unhide FF
                    have B0 := (unhide I9)
                    have T1 : Only q.S w _ := ((B0.2.2.2.2.2.1.drew.q0 oc).qn oa (by omega)).qn ob (by omega)
                    have A1 := (((B0.2.2.2.2.2.2.quiet (Only.refl _ _).drew).quiet oc).loc AF (by omega) oa).loc AF (by omega) ob
                    have P1 := (((B0.2.1.drew.keep oc (fun h => h)).keep oa (fun e => by omega)).keep ob (fun e => by omega))
                    exact ⟨ga, gb, ya, yb, rfl, rfl, rfl, na, nb, hyy.1, hyy.2, by omega, by omega, T1, A1, hS.1, P1⟩
        case rest =>
          obtain ⟨ga, gb, ya, yb, rfl, rfl, rfl, J1⟩ := hcut
          have hCa := unhide HCL
          have pxs := unhide HC'
          as_aux_lemma =>
            have ga0 : w.heap.size ≤ ga := by have := J1.2.2.2.2.1; omega
            have gb0 : w.heap.size ≤ gb := by have := J1.2.2.2.2.2.1; omega
            have nSga := AF.nS ga0
            have nSgb := AF.nS gb0
            have hga : br < ga := J1.2.2.2.2.1
            have hgb : br < gb := J1.2.2.2.2.2.1
            have ck := J1.2.2.2.2.2.2.2.2.1.key c' (by omega)
            have oS := J1.2.2.2.2.2.2.2.2.1.o1 (2 + c') (.string e0.1)
            have J2 := hide (And.intro (J1.2.2.2.2.2.2.2.2.1.setKey c' (by omega) e0.1) (And.intro (J1.1.keep oS (fun e => by omega)) (And.intro (J1.2.1.keep oS (fun e => by omega)) (And.intro (J1.2.2.2.2.2.2.2.2.2.keep oS (fun e => by omega)) (And.intro (J1.2.2.2.2.2.2.1.qn oS gG) (J1.2.2.2.2.2.2.2.1.loc AF gG oS))))))
            have RAB := hide (And.intro J1.2.2.1 J1.2.2.2.1)
            clear oS J1
            go_upto_region 15 with fail
            generalize wc.setCell ⟨g, 2 + c', none⟩ (.string e0.1) = w14 at *
            clear ck
            have CS := hide (store2_any ((unhide J2).2.2.2.2.2.quiet (Only.refl _ w14).drew) ((unhide HP).st (s0, Lk) (by simp)).1 ((unhide HP).st (s1, m) (by simp)).1 (unhide RAB).1 (unhide RAB).2 ((unhide HP).fits (fun f hf => .inl (by rw [unhide HLE]; simp [hf])) (by omega) (by have := mx_lo h; (try simp); omega)) ((unhide HP).fits (fun f hf => by rcases List.mem_cons.mp hf with h1 | h1; exact .inl (by rw [unhide HLE, h1]; simp); exact .inr h1) (by simp) (by simp; have := mx_lo h; omega)))
            refine wp_region_held_drew (S := (fun w' => NdAt w' g { x with K := upF x.K c' e0.1 } ∧ NdAt w' ga ya ∧ NdAt w' gb yb)) (by kernel_rfl) ⟨(unhide J2).1.drew, (unhide J2).2.1.drew, (unhide J2).2.2.1.drew⟩ (fun hH0 => ?_)
            refine takeH 0 80 rfl rfl (by kernel_rfl) (by kernel_rfl) (by kernel_rfl) (fun _ _ _ h => h) (yieldsIf_load_nd (by rfl) _ rfl g rfl { x with K := upF x.K c' e0.1 } (fun _ h => h.1)) hH0 ?rt118
            case rt118 =>
            try simp only [Act.put, List.setIfInBounds_toArray, List.set_cons_zero, List.set_cons_succ]
            refine takeH 1 81 (v := ?vt119) rfl rfl (by kernel_rfl) (by kernel_rfl) (by kernel_rfl) (fun _ _ _ h => h) (Or.inl ⟨by rfl, ?ht119⟩) hH0 ?rt119
            case ht119 => (intro w hSw; (try dsimp only at hSw); go_simp; (try with_reducible rfl))
            case rt119 =>
            try simp only [Act.put, List.setIfInBounds_toArray, List.set_cons_zero, List.set_cons_succ]
            refine takeH 2 82 (v := ?vt120) rfl rfl (by kernel_rfl) (by kernel_rfl) (by kernel_rfl) (fun _ _ _ h => h) (Or.inl ⟨by rfl, ?ht120⟩) hH0 ?rt120
            case ht120 => (intro w hSw; (try dsimp only at hSw); go_simp; (try with_reducible rfl))
            case rt120 =>
            try simp only [Act.put, List.setIfInBounds_toArray, List.set_cons_zero, List.set_cons_succ]
            refine takeH 3 83 (v := ?vt121) rfl rfl (by kernel_rfl) (by kernel_rfl) (by kernel_rfl) (fun _ _ _ h => h) (Or.inl ⟨by rfl, ?ht121⟩) hH0 ?rt121
            case ht121 => (intro w hSw; (try dsimp only at hSw); go_simp; (try with_reducible rfl))
            case rt121 =>
            try simp only [Act.put, List.setIfInBounds_toArray, List.set_cons_zero, List.set_cons_succ]
            refine takeH 4 84 (v := ?vt122) rfl rfl (by kernel_rfl) (by kernel_rfl) (by kernel_rfl) (fun _ _ _ h => h) (Or.inl ⟨by rfl, ?ht122⟩) hH0 ?rt122
            case ht122 => (intro w hSw; (try dsimp only at hSw); go_simp; (try with_reducible rfl))
            case rt122 =>
            try simp only [Act.put, List.setIfInBounds_toArray, List.set_cons_zero, List.set_cons_succ]
            refine takeH 5 85 (v := ?vt123) rfl rfl (by kernel_rfl) (by kernel_rfl) (by kernel_rfl) (fun _ _ _ h => h) (Or.inl ⟨by rfl, ?ht123⟩) hH0 ?rt123
            case ht123 => (intro w hSw; (try dsimp only at hSw); go_simp; (try with_reducible rfl))
            case rt123 =>
            try simp only [Act.put, List.setIfInBounds_toArray, List.set_cons_zero, List.set_cons_succ]
            refine takeH 6 86 (v := ?vt124) rfl rfl (by kernel_rfl) (by kernel_rfl) (by kernel_rfl) (fun _ _ _ h => h) (Or.inl ⟨by rfl, ?ht124⟩) hH0 ?rt124
            case ht124 => (intro w hSw; have q1 : w.cell? ⟨g, 10 + (c'), none⟩ = some (.int .i64 (pgT Lk : Int)) := (by rw [← hCa]; exact (NdAt.kid hSw.1 (c') (by omega)).1); clear hSw; go_simp; (try with_reducible rfl))
            case rt124 =>
            try simp only [Act.put, List.setIfInBounds_toArray, List.set_cons_zero, List.set_cons_succ]
            refine takeH 7 87 rfl rfl (by kernel_rfl) (by kernel_rfl) (by kernel_rfl) (fun _ _ _ h => h) (yieldsIf_load_nd (by rfl) _ rfl ga rfl ya (fun _ h => h.2.1)) hH0 ?rt125
            case rt125 =>
            try simp only [Act.put, List.setIfInBounds_toArray, List.set_cons_zero, List.set_cons_succ]
            refine takeH 8 88 (v := ?vt126) rfl rfl (by kernel_rfl) (by kernel_rfl) (by kernel_rfl) (fun _ _ _ h => h) (Or.inl ⟨by rfl, ?ht126⟩) hH0 ?rt126
            case ht126 => (intro w hSw; (try dsimp only at hSw); go_simp; (try with_reducible rfl))
            case rt126 =>
            try simp only [Act.put, List.setIfInBounds_toArray, List.set_cons_zero, List.set_cons_succ]
            refine takeH 9 89 (v := ?vt127) rfl rfl (by kernel_rfl) (by kernel_rfl) (by kernel_rfl) (fun _ _ _ h => h) (Or.inl ⟨by rfl, ?ht127⟩) hH0 ?rt127
            case ht127 => (intro w hSw; (try dsimp only at hSw); go_simp; (try with_reducible rfl))
            case rt127 =>
            try simp only [Act.put, List.setIfInBounds_toArray, List.set_cons_zero, List.set_cons_succ]
            refine takeH 10 90 (v := ?vt128) rfl rfl (by kernel_rfl) (by kernel_rfl) (by kernel_rfl) (fun _ _ _ h => h) (Or.inl ⟨by rfl, ?ht128⟩) hH0 ?rt128
            case ht128 => (intro w hSw; (try dsimp only at hSw); go_simp; (try with_reducible rfl))
            case rt128 =>
            try simp only [Act.put, List.setIfInBounds_toArray, List.set_cons_zero, List.set_cons_succ]
            refine takeH 11 91 (v := ?vt129) rfl rfl (by kernel_rfl) (by kernel_rfl) (by kernel_rfl) (fun _ _ _ h => h) (Or.inl ⟨by rfl, ?ht129⟩) hH0 ?rt129
            case ht129 => (intro w hSw; have q1 : w.cell? ⟨g, 10 + (c), none⟩ = some (.int .i64 (pgT m : Int)) := (by rw [← hC]; exact (NdAt.kid hSw.1 (c) (by omega)).1); clear hSw; go_simp; (try with_reducible rfl))
            case rt129 =>
            try simp only [Act.put, List.setIfInBounds_toArray, List.set_cons_zero, List.set_cons_succ]
            refine takeH 12 92 rfl rfl (by kernel_rfl) (by kernel_rfl) (by kernel_rfl) (fun _ _ _ h => h) (yieldsIf_load_nd (by rfl) _ rfl gb rfl yb (fun _ h => h.2.2)) hH0 ?rt130
            case rt130 =>
            try simp only [Act.put, List.setIfInBounds_toArray, List.set_cons_zero, List.set_cons_succ]
            refine callH 13 (by kernel_rfl) rfl 93 rfl rfl 353 Tryz.func353 (by kernel_rfl) (by kernel_rfl) #[.tmp 81, .tmp 86, .tmp 87, .tmp 91, .tmp 92] #[65, 3, 218, 3, 218] rfl #[.pointer (some ⟨q.f, 0, none⟩), .int .i64 (pgT Lk), ndA ya, .int .i64 (pgT m), ndA yb] (by simp [Act.eval]) (R := fun v w' => v = .int .i64 0 ∧ (∃ view', FA q w' true view' ∧ NV view' = setN (setN (NV view) (pgT Lk) (some (page (ndOf h La)))) (pgT m) (some (page (ndOf h (e0 :: itT m))))) ∧ Only q.S w14.drew w') ((unhide CS).mono (by rintro en w' ⟨rfl, h1, h2⟩; exact ⟨_, rfl, rfl, h1, h2⟩)) ?kcs
            case kcs =>
            rintro _ w15 ⟨rfl, hV, o15⟩
            have S15 := (show _ ∧ _ ∧ _ from ⟨NdAt.keep hH0.1 o15 nSg, NdAt.keep hH0.2.1 o15 nSga, NdAt.keep hH0.2.2 o15 nSgb⟩)
            have P15 := (unhide J2).2.2.2.1.drew.keep o15 nSp
            have O15 := hide ((unhide J2).2.2.2.2.1.drew.qt o15)
            have HV := hide hV
            refine ⟨S15, ?_⟩
            clear hV o15
            try simp only [Act.put, List.setIfInBounds_toArray, List.set_cons_zero, List.set_cons_succ]
            refine storeH_nd 14 (by kernel_rfl) rfl rfl rfl _ _ rfl p { x with K := upF x.K c' e0.1 } nd0 rfl rfl P15 ?_
            intro w16 n16 o16
            have S16 := (show _ ∧ _ ∧ _ from ⟨NdAt.keep S15.1 o16 (fun e => by omega), NdAt.keep S15.2.1 o16 (fun e => by omega), NdAt.keep S15.2.2 o16 (fun e => by omega)⟩)
            refine ⟨S16, ?_⟩
            try simp only [Act.put, List.setIfInBounds_toArray, List.set_cons_zero, List.set_cons_succ]
            refine takeH 15 7 (v := ?vt131) rfl rfl (by kernel_rfl) (by kernel_rfl) (by kernel_rfl) (fun _ _ _ h => h) (Or.inl ⟨by rfl, ?ht131⟩) S16 ?rt131
            case ht131 => (intro w hSw; (try dsimp only at hSw); go_simp; (try with_reducible rfl))
            case rt131 =>
            try simp only [Act.put, List.setIfInBounds_toArray, List.set_cons_zero, List.set_cons_succ]
            refine wpAnyH_done (by kernel_rfl) ?_ _
            have FF := hide (And.intro n16 o16)
            clear n16 o16 S15 S16 P15 hH0 CS
            go_wp2_with fail
            refine bodyPost_ret (res2_nd Tryz.results342 _ rfl (unhide FF).1) rfl ?_
            obtain ⟨view', A15, eN⟩ := unhide HV
            have M := (unhide HP).borrow (A := La) (B := itT m) (e := e0) (by rw [unhide HLE]; simp) ⟨by omega, by omega⟩ ⟨by simp; omega, by simp; have := mx_lo h; omega⟩
            rw [← eN] at M
            have as_ := (unhide HAS)
            unfold MendPost
            rw [as_]
            exact ⟨_, view', _, [], rfl, rep_sep (L' := mkT (pgT Lk) La) (R' := mkT (pgT m) (e0 :: itT m)) (unhide RXL) rfl rfl pxs, M, A15.loc AF gp0 (unhide FF).2, (unhide O15).qn (unhide FF).2 gp0⟩
  case rest =>
  obtain ⟨rfl, xl, I9⟩ := hcut
  clear I7
  have I9 := hide I9
  have cxn := (unhide I9).1.num.1
  go_upto_if 98 with fail
  clear cxn
  go_cut [9] (fun s9 wx => ∃ xr : Node, NdAt wx g x ∧ NdAt wx p nd0 ∧ NdAt wx bm xm ∧ NdAt wx bl xl ∧ NdAt wx br xr ∧ Only q.S w wx ∧ FA q wx true view ∧ (∀ s2 R ys', ys = (s2, R) :: ys' → Rep h xr (itT R) ∧ (itT R).length = 2))
  case first =>
    rcases (show ys = [] ∨ ∃ e2 ys', ys = e2 :: ys' by cases ys; exact .inl rfl; exact .inr ⟨_, _, rfl⟩) with hys | ⟨e2, ys', hys⟩
    · have hy0 : ys.length = 0 := by rw [hys]; rfl
      have a1 : decide ((c : Int) + 1 < (x.n : Int)) = false := decide_eq_false (by have := unhide NN; omega)
      have a1q : (x.n : Int) ≤ (c : Int) + 1 := by have := unhide NN; omega
      have a1p : ¬ ((c : Int) + 1 < (x.n : Int)) := by omega
      have NX := hide hys
      clear hys hy0
      go_wp2_with fail
      go_meet
      case rel => exact ⟨nd0, (unhide I9).1, (unhide I9).2.1, (unhide I9).2.2.1, (unhide I9).2.2.2.1, (unhide I9).2.2.2.2.1, (unhide I9).2.2.2.2.2.1, (unhide I9).2.2.2.2.2.2.1, fun s2 R ys' hh => by rw [unhide NX] at hh; cases hh⟩
    · obtain ⟨s2, Rk⟩ := e2
      have hyl : ys.length = ys'.length + 1 := by rw [hys]; simp
      have T' := T
      rw [hys] at T'
      have P := T'.right
      have RXr := unhide RX
      rw [hys] at RXr
      have RXr2 : Rep (h + 1) x ((xs ++ [(s1, m)]) ++ (s2, Rk) :: ys') := by simpa using RXr
      have hC2 := kid_at RXr2
      have hcl : (xs ++ [(s1, m)]).length = c + 1 := by simp; exact unhide HC
      rw [hcl] at hC2
      have stR : Sto (NV view) (h + 1) Rk := P.st (s2, Rk) (by simp)
      have zR : Sz (h + 1) 2 Rk := (T'.sz (s2, Rk) (by simp)).2
      have ftR : Fits h (itT Rk) := Fits.of (N := NV view) NV_lt zR.2.1 (.inr (by have := zR.1; omega)) zR.2.2 stR.2
      have nn := unhide NN
      have a1 : decide ((c : Int) + 1 < (x.n : Int)) = true := decide_eq_true (by omega)
      have a1p : (c : Int) + 1 < (x.n : Int) := by omega
      have xi' : (c : Int) + 1 < 5 := by omega
      have xi2 : c + 1 < 5 := by omega
      clear nn
      have CR := hide (load_any (unhide I9).2.2.2.2.2.2.1 stR.1 ftR)
      have c0 := ((unhide I9).1.kid (c + 1) xi2).1
      rw [hC2] at c0
      have R2 := zR.1
      have HYS := hide hys
      have HP := hide P
      have RXR := hide RXr
      have HCR := hide hC2
      have hylH := hide hyl
      have mRk := zR.2.1
      clear hys T' P RXr RXr2 hC2 stR zR ftR hcl
      go_wp2_with fail
      refine (unhide CR).mono ?_
      rintro e w8 ⟨xr, rfl, rr, A8, o8⟩
      have I8 := hide (And.intro ((unhide I9).1.keep o8 nSg) (And.intro ((unhide I9).2.1.keep o8 nSp) (And.intro ((unhide I9).2.2.1.keep o8 nSm) (And.intro ((unhide I9).2.2.2.1.keep o8 nSl) (And.intro ((unhide I9).2.2.2.2.1.keep o8 nSr) (And.intro ((unhide I9).2.2.2.2.2.1.qt o8) A8))))))
      have RR := hide rr
      have hrn := rr.n
      have hkk : xr.k = xm.k := by
        have r1 := unhide RR
        have r2 := unhide RM
        cases h with
        | zero => rw [r1.kd0, r2.kd0]
        | succ h => rw [r1.kd1, r2.kd1]
      clear c0 CR o8 A8 rr
      go_upto_region 18 with (first | (refine wpList_store_nd rfl _ _ rfl br xr rfl rfl (unhide I8).2.2.2.2.1 ?_; intro w9 n9 o9))
      have I10 := hide (And.intro ((unhide I8).1.keep o9 (fun e => by omega)) (And.intro ((unhide I8).2.1.keep o9 (fun e => by omega)) (And.intro ((unhide I8).2.2.1.keep o9 (fun e => by omega)) (And.intro ((unhide I8).2.2.2.1.keep o9 (fun e => by omega)) (And.intro n9 (And.intro ((unhide I8).2.2.2.2.2.1.qn o9 gr0) ((unhide I8).2.2.2.2.2.2.loc AF gr0 o9)))))))
      have cm := (unhide I10).2.2.1.kind.1
      have cl := (unhide I10).2.2.2.2.1.kind.1
      have cln := (unhide I10).2.2.2.2.1.num.1
      clear n9 o9 I8
      by_cases h3 : (itT Rk).length = 2
      · have a2 : decide ((xr.n : Int) > 2) = false := decide_eq_false (by omega)
        have a2' : decide (2 < (xr.n : Int)) = false := decide_eq_false (by omega)
        go_wp2_with fail
        go_meet
        case rel =>
          refine ⟨xr, (unhide I10).1, (unhide I10).2.1, (unhide I10).2.2.1, (unhide I10).2.2.2.1, (unhide I10).2.2.2.2.1, (unhide I10).2.2.2.2.2.1, (unhide I10).2.2.2.2.2.2, fun s22 R2' ys2 hh => ?_⟩
          rw [unhide HYS] at hh
          have hh := (List.cons.inj hh).1
          have h2 := (Prod.mk.inj hh).2
          rw [← h2]
          exact ⟨unhide RR, h3⟩
      · have a2 : decide ((xr.n : Int) > 2) = true := decide_eq_true (by omega)
        have a2' : decide (2 < (xr.n : Int)) = true := decide_eq_true (by omega)
        go_upto_region 21 with fail
        clear cm cl cln
        obtain ⟨e0, e1, Rr, hRe⟩ : ∃ e0 e1 Rr, itT Rk = e0 :: e1 :: Rr := by
          cases hr : itT Rk with
          | nil => rw [hr] at R2; simp at R2
          | cons e0 r =>
            cases r with
            | nil => rw [hr] at R2; simp at R2
            | cons e1 Rr => exact ⟨e0, e1, Rr, rfl⟩
        have hRl : (itT Rk).length = Rr.length + 2 := by rw [hRe]; simp
        have mxh := mx_hi h
        have rr' := unhide RR
        rw [hRe] at rr'
        have CF := hide (fun w => fromRight_rep (sep := s2) (unhide RM) rr' hth (by omega) (by rcases (unhide HP).heads with h0 | h0; exact .inl h0; exact .inr (h0 e0 (by rw [hRe]; simp))) w)
        have hKc : x.K c = s2 := RepI.s (unhide RXR) c (s2, pgT Rk) (by have := unhide HC; rw [pk_app, pk_cons, pk_cons, ← this, ← pk_len xs]; simp)
        have hcy := unhide hylH
        have nn := unhide NN
        have c4 : (c : Int) < 4 := by omega
        have c40 : c < 4 := by omega
        have c00 : (0 : Int) ≤ (c : Int) := by omega
        have cw : IntKind.i64.wrap (c : Int) = (c : Int) := by rw [IntWalk.i64_in]; omega
        have c10 : (0 : Int) ≤ (c : Int) + 1 := by omega
        have c15 : c + 1 < 5 := by omega
        clear nn hcy
        have cw1 : IntKind.i64.wrap ((c : Int) + 1) = (c : Int) + 1 := by rw [IntWalk.i64_in]; omega
        have HRE := hide hRe
        clear rr'
        go_cut [17, 18, 19] (fun s14 s15 s16 wx => ∃ (ga gb : Nat) (ya yb : Node), s14 = .pointer (some ⟨ga, 0, none⟩) ∧ s15 = .pointer (some ⟨gb, 0, none⟩) ∧ s16 = .string e1.1 ∧ NdAt wx ga ya ∧ NdAt wx gb yb ∧ Rep h ya (itT m ++ [e0]) ∧ Rep h yb (e1 :: Rr) ∧ br < ga ∧ br < gb ∧ Only q.S w wx ∧ FA q wx true view ∧ NdAt wx g x ∧ NdAt wx p nd0)
        case first =>
          have hbr := Has.lt (unhide I10).2.2.2.2.1
          have szd : w9.drew.heap.size = w9.heap.size := rfl
          as_aux_lemma =>
            refine wp_region_held_drew (S := (fun w' => NdAt w' g x ∧ NdAt w' bm xm ∧ NdAt w' br xr)) (by kernel_rfl) ⟨(unhide I10).1.drew, (unhide I10).2.2.1.drew, (unhide I10).2.2.2.2.1.drew⟩ (fun hH0 => ?_)
            refine takeH 0 124 rfl rfl (by kernel_rfl) (by kernel_rfl) (by kernel_rfl) (fun _ _ _ h => h) (yieldsIf_load_nd (by rfl) _ rfl bm rfl xm (fun _ h => h.2.1)) hH0 ?rt132
            case rt132 =>
            try simp only [Act.put, List.setIfInBounds_toArray, List.set_cons_zero, List.set_cons_succ]
            refine takeH 1 125 rfl rfl (by kernel_rfl) (by kernel_rfl) (by kernel_rfl) (fun _ _ _ h => h) (yieldsIf_load_nd (by rfl) _ rfl br rfl xr (fun _ h => h.2.2)) hH0 ?rt133
            case rt133 =>
            try simp only [Act.put, List.setIfInBounds_toArray, List.set_cons_zero, List.set_cons_succ]
            refine takeH 2 126 (v := ?vt134) rfl rfl (by kernel_rfl) (by kernel_rfl) (by kernel_rfl) (fun _ _ _ h => h) (Or.inl ⟨by rfl, ?ht134⟩) hH0 ?rt134
            case ht134 => (intro w hSw; (try dsimp only at hSw); go_simp; (try with_reducible rfl))
            case rt134 =>
            try simp only [Act.put, List.setIfInBounds_toArray, List.set_cons_zero, List.set_cons_succ]
            refine takeH 3 127 (v := ?vt135) rfl rfl (by kernel_rfl) (by kernel_rfl) (by kernel_rfl) (fun _ _ _ h => h) (Or.inl ⟨by rfl, ?ht135⟩) hH0 ?rt135
            case ht135 => (intro w hSw; (try dsimp only at hSw); go_simp; (try with_reducible rfl))
            case rt135 =>
            try simp only [Act.put, List.setIfInBounds_toArray, List.set_cons_zero, List.set_cons_succ]
            refine takeH 4 128 (v := ?vt136) rfl rfl (by kernel_rfl) (by kernel_rfl) (by kernel_rfl) (fun _ _ _ h => h) (Or.inl ⟨by rfl, ?ht136⟩) hH0 ?rt136
            case ht136 => (intro w hSw; (try dsimp only at hSw); go_simp; (try with_reducible rfl))
            case rt136 =>
            try simp only [Act.put, List.setIfInBounds_toArray, List.set_cons_zero, List.set_cons_succ]
            refine takeH 5 129 (v := ?vt137) rfl rfl (by kernel_rfl) (by kernel_rfl) (by kernel_rfl) (fun _ _ _ h => h) (Or.inl ⟨by rfl, ?ht137⟩) hH0 ?rt137
            case ht137 => (intro w hSw; have q1 := (NdAt.key hSw.1 c (by omega)).1; rw [hKc] at q1; clear hSw; go_simp; (try with_reducible rfl))
            case rt137 =>
            try simp only [Act.put, List.setIfInBounds_toArray, List.set_cons_zero, List.set_cons_succ]
            refine callAlloc2H 6 11 12 (by kernel_rfl) rfl 130 rfl rfl 354 Tryz.func354 (by kernel_rfl) (by kernel_rfl) #[.tmp 124, .tmp 125, .tmp 129] #[218, 218, 9] rfl #[ndA xm, ndA xr, .string s2] (by simp [Act.eval]) (R := fun v w' => ∃ ya yb, v = .tuple #[ndA ya, ndA yb, .string e1.1] ∧ (Rep h ya (itT m ++ [e0]) ∧ Rep h yb (e1 :: Rr)) ∧ Only (fun _ => False) w9.drew w') ((unhide CF w9.drew).mono (by rintro en w' ⟨ya, yb, rfl, h1, h2⟩; exact ⟨_, rfl, ya, yb, rfl, h1, h2⟩)) rfl 17 rfl rfl rfl rfl 18 rfl rfl rfl ?k138 ?k139 ?k140
            case k138 =>
              rintro _ w141 ⟨ya, yb, rfl, hyy, oo⟩
              have oc143 : Only (fun _ => False) w9.drew w141 := oo
              have hS142 := (show _ ∧ _ ∧ _ from ⟨NdAt.keep hH0.1 oo (fun e => e), NdAt.keep hH0.2.1 oo (fun e => e), NdAt.keep hH0.2.2 oo (fun e => e)⟩)
              have zw141 := oo.size
              refine ⟨hS142, ?_⟩
              clear oo
              try simp only [Act.put, List.setIfInBounds_toArray, List.set_cons_zero, List.set_cons_succ]
              refine takeH 7 123 (v := ?vt144) rfl rfl (by kernel_rfl) (by kernel_rfl) (by kernel_rfl) (fun _ _ _ h => h) (Or.inl ⟨by rfl, ?ht144⟩) hS142 ?rt144
              case ht144 => (intro w hSw; (try dsimp only at hSw); go_simp; (try with_reducible rfl))
              case rt144 =>
              try simp only [Act.put, List.setIfInBounds_toArray, List.set_cons_zero, List.set_cons_succ]
              refine takeH 8 131 (v := ?vt145) rfl rfl (by kernel_rfl) (by kernel_rfl) (by kernel_rfl) (fun _ _ _ h => h) (Or.inl ⟨by rfl, ?ht145⟩) hS142 ?rt145
              case ht145 => (intro w hSw; (try dsimp only at hSw); go_simp; (try with_reducible rfl))
              case rt145 =>
              try simp only [Act.put, List.setIfInBounds_toArray, List.set_cons_zero, List.set_cons_succ]
              refine takeH 9 132 (v := ?vt146) rfl rfl (by kernel_rfl) (by kernel_rfl) (by kernel_rfl) (fun _ _ _ h => h) (Or.inl ⟨by rfl, ?ht146⟩) hS142 ?rt146
              case ht146 => (intro w hSw; (try dsimp only at hSw); go_simp; (try with_reducible rfl))
              case rt146 =>
              try simp only [Act.put, List.setIfInBounds_toArray, List.set_cons_zero, List.set_cons_succ]
              refine takeH 10 133 (v := ?vt147) rfl rfl (by kernel_rfl) (by kernel_rfl) (by kernel_rfl) (fun _ _ _ h => h) (Or.inl ⟨by rfl, ?ht147⟩) hS142 ?rt147
              case ht147 => (intro w hSw; (try dsimp only at hSw); go_simp; (try with_reducible rfl))
              case rt147 =>
              try simp only [Act.put, List.setIfInBounds_toArray, List.set_cons_zero, List.set_cons_succ]
              refine alloc2H 11 12 (by kernel_rfl) rfl 17 rfl rfl rfl rfl 18 rfl rfl rfl ?k148 ?k149
              case k148 =>
                intro ga w150 nga gga oo
                have oc152 : Only (fun _ => False) w9.drew w150 := oc143.q0 oo
                have hS151 := (show _ ∧ _ ∧ _ from ⟨NdAt.keep hS142.1 oo (fun e => e), NdAt.keep hS142.2.1 oo (fun e => e), NdAt.keep hS142.2.2 oo (fun e => e)⟩)
                have zw150 := oo.size
                refine ⟨hS151, ?_⟩
                clear oo
                try simp only [Act.put, List.setIfInBounds_toArray, List.set_cons_zero, List.set_cons_succ]
                refine allocH 12 (by kernel_rfl) rfl 18 rfl rfl rfl ?k153
                case k153 =>
                  intro gb w154 ngb ggb oo
                  have oc156 : Only (fun _ => False) w9.drew w154 := oc152.q0 oo
                  have lnk157 := Has.lt nga
                  have nk157 := nga.keep oo (fun h => h)
                  have hS155 := (show _ ∧ _ ∧ _ from ⟨NdAt.keep hS151.1 oo (fun e => e), NdAt.keep hS151.2.1 oo (fun e => e), NdAt.keep hS151.2.2 oo (fun e => e)⟩)
                  have zw154 := oo.size
                  refine ⟨hS155, ?_⟩
                  clear oo
                  try simp only [Act.put, List.setIfInBounds_toArray, List.set_cons_zero, List.set_cons_succ]
                  have wsz := oc156.size
                  have hltga := Has.lt nk157
                  have hltgb := Has.lt ngb
                  have hgab : ga ≠ gb := by omega
                  refine storeH_nd 13 (by kernel_rfl) rfl rfl rfl _ _ rfl ga ya nd0 rfl rfl nk157 ?_
                  intro w158 na oa
                  have hSa := (show _ ∧ _ ∧ _ from ⟨NdAt.keep hS155.1 oa (fun e => by omega), NdAt.keep hS155.2.1 oa (fun e => by omega), NdAt.keep hS155.2.2 oa (fun e => by omega)⟩)
                  refine ⟨hSa, ?_⟩
                  try simp only [Act.put, List.setIfInBounds_toArray, List.set_cons_zero, List.set_cons_succ]
                  refine storeH_nd 14 (by kernel_rfl) rfl rfl rfl _ _ rfl gb yb nd0 rfl rfl (ngb.keep oa (fun e => by omega)) ?_
                  intro w159 nb ob
                  have hSb := (show _ ∧ _ ∧ _ from ⟨NdAt.keep hSa.1 ob (fun e => by omega), NdAt.keep hSa.2.1 ob (fun e => by omega), NdAt.keep hSa.2.2 ob (fun e => by omega)⟩)
                  refine ⟨hSb, ?_⟩
                  try simp only [Act.put, List.setIfInBounds_toArray, List.set_cons_zero, List.set_cons_succ]
                  refine takeH 15 19 (v := ?vt160) rfl rfl (by kernel_rfl) (by kernel_rfl) (by kernel_rfl) (fun _ _ _ h => h) (Or.inl ⟨by rfl, ?ht160⟩) hSb ?rt160
                  case ht160 => (intro w hSw; (try dsimp only at hSw); go_simp; (try with_reducible rfl))
                  case rt160 =>
                  try simp only [Act.put, List.setIfInBounds_toArray, List.set_cons_zero, List.set_cons_succ]
                  refine wpAnyH_done (by kernel_rfl) ?_ _
                  have FF := hide (And.intro (na.keep ob (fun e => by omega)) (And.intro nb (And.intro hyy (And.intro oc156 (And.intro oa (And.intro ob hSb))))))
                  go_wp2_with fail
                  go_meet
                  case rel =>
                    obtain ⟨na, nb, hyy, oc, oa, ob, hS⟩ := unhide FF
                    have B0 := (unhide I10)
                    have T1 : Only q.S w _ := ((B0.2.2.2.2.2.1.drew.q0 oc).qn oa (by omega)).qn ob (by omega)
                    have A1 := (((B0.2.2.2.2.2.2.quiet (Only.refl _ _).drew).quiet oc).loc AF (by omega) oa).loc AF (by omega) ob
                    have P1 := (((B0.2.1.drew.keep oc (fun h => h)).keep oa (fun e => by omega)).keep ob (fun e => by omega))
                    exact ⟨ga, gb, ya, yb, rfl, rfl, rfl, na, nb, hyy.1, hyy.2, by omega, by omega, T1, A1, hS.1, P1⟩
              case k149 =>
                intro gb w161 ngb ggb oo
                have oc163 : Only (fun _ => False) w9.drew w161 := oc143.q0 oo
                have hS162 := (show _ ∧ _ ∧ _ from ⟨NdAt.keep hS142.1 oo (fun e => e), NdAt.keep hS142.2.1 oo (fun e => e), NdAt.keep hS142.2.2 oo (fun e => e)⟩)
                have zw161 := oo.size
                refine ⟨hS162, ?_⟩
                clear oo
                try simp only [Act.put, List.setIfInBounds_toArray, List.set_cons_zero, List.set_cons_succ]
                refine allocH 11 (by kernel_rfl) rfl 17 rfl rfl rfl ?k164
                case k164 =>
                  intro ga w165 nga gga oo
                  have oc167 : Only (fun _ => False) w9.drew w165 := oc163.q0 oo
                  have lnk168 := Has.lt ngb
                  have nk168 := ngb.keep oo (fun h => h)
                  have hS166 := (show _ ∧ _ ∧ _ from ⟨NdAt.keep hS162.1 oo (fun e => e), NdAt.keep hS162.2.1 oo (fun e => e), NdAt.keep hS162.2.2 oo (fun e => e)⟩)
                  have zw165 := oo.size
                  refine ⟨hS166, ?_⟩
                  clear oo
                  try simp only [Act.put, List.setIfInBounds_toArray, List.set_cons_zero, List.set_cons_succ]
                  have wsz := oc167.size
                  have hltga := Has.lt nga
                  have hltgb := Has.lt nk168
                  have hgab : ga ≠ gb := by omega
                  refine storeH_nd 13 (by kernel_rfl) rfl rfl rfl _ _ rfl ga ya nd0 rfl rfl nga ?_
                  intro w169 na oa
                  have hSa := (show _ ∧ _ ∧ _ from ⟨NdAt.keep hS166.1 oa (fun e => by omega), NdAt.keep hS166.2.1 oa (fun e => by omega), NdAt.keep hS166.2.2 oa (fun e => by omega)⟩)
                  refine ⟨hSa, ?_⟩
                  try simp only [Act.put, List.setIfInBounds_toArray, List.set_cons_zero, List.set_cons_succ]
                  refine storeH_nd 14 (by kernel_rfl) rfl rfl rfl _ _ rfl gb yb nd0 rfl rfl (nk168.keep oa (fun e => by omega)) ?_
                  intro w170 nb ob
                  have hSb := (show _ ∧ _ ∧ _ from ⟨NdAt.keep hSa.1 ob (fun e => by omega), NdAt.keep hSa.2.1 ob (fun e => by omega), NdAt.keep hSa.2.2 ob (fun e => by omega)⟩)
                  refine ⟨hSb, ?_⟩
                  try simp only [Act.put, List.setIfInBounds_toArray, List.set_cons_zero, List.set_cons_succ]
                  refine takeH 15 19 (v := ?vt171) rfl rfl (by kernel_rfl) (by kernel_rfl) (by kernel_rfl) (fun _ _ _ h => h) (Or.inl ⟨by rfl, ?ht171⟩) hSb ?rt171
                  case ht171 => (intro w hSw; (try dsimp only at hSw); go_simp; (try with_reducible rfl))
                  case rt171 =>
                  try simp only [Act.put, List.setIfInBounds_toArray, List.set_cons_zero, List.set_cons_succ]
                  refine wpAnyH_done (by kernel_rfl) ?_ _
                  have FF := hide (And.intro (na.keep ob (fun e => by omega)) (And.intro nb (And.intro hyy (And.intro oc167 (And.intro oa (And.intro ob hSb))))))
                  go_wp2_with fail
                  go_meet
                  case rel =>
                    obtain ⟨na, nb, hyy, oc, oa, ob, hS⟩ := unhide FF
                    have B0 := (unhide I10)
                    have T1 : Only q.S w _ := ((B0.2.2.2.2.2.1.drew.q0 oc).qn oa (by omega)).qn ob (by omega)
                    have A1 := (((B0.2.2.2.2.2.2.quiet (Only.refl _ _).drew).quiet oc).loc AF (by omega) oa).loc AF (by omega) ob
                    have P1 := (((B0.2.1.drew.keep oc (fun h => h)).keep oa (fun e => by omega)).keep ob (fun e => by omega))
                    exact ⟨ga, gb, ya, yb, rfl, rfl, rfl, na, nb, hyy.1, hyy.2, by omega, by omega, T1, A1, hS.1, P1⟩
            case k139 =>
              intro ga w172 nga gga oo
              have oc174 : Only (fun _ => False) w9.drew w172 := oo
              have hS173 := (show _ ∧ _ ∧ _ from ⟨NdAt.keep hH0.1 oo (fun e => e), NdAt.keep hH0.2.1 oo (fun e => e), NdAt.keep hH0.2.2 oo (fun e => e)⟩)
              have zw172 := oo.size
              refine ⟨hS173, ?_⟩
              clear oo
              try simp only [Act.put, List.setIfInBounds_toArray, List.set_cons_zero, List.set_cons_succ]
              refine callAllocH 6 12 (by kernel_rfl) rfl 130 rfl rfl 354 Tryz.func354 (by kernel_rfl) (by kernel_rfl) #[.tmp 124, .tmp 125, .tmp 129] #[218, 218, 9] rfl #[ndA xm, ndA xr, .string s2] (by simp [Act.eval]) (R := fun v w' => ∃ ya yb, v = .tuple #[ndA ya, ndA yb, .string e1.1] ∧ (Rep h ya (itT m ++ [e0]) ∧ Rep h yb (e1 :: Rr)) ∧ Only (fun _ => False) w172 w') ((unhide CF w172).mono (by rintro en w' ⟨ya, yb, rfl, h1, h2⟩; exact ⟨_, rfl, ya, yb, rfl, h1, h2⟩)) rfl 18 rfl rfl rfl ?k175 ?k176
              case k175 =>
                rintro _ w177 ⟨ya, yb, rfl, hyy, oo⟩
                have oc179 : Only (fun _ => False) w9.drew w177 := oc174.q0 oo
                have lnk180 := Has.lt nga
                have nk180 := nga.keep oo (fun h => h)
                have hS178 := (show _ ∧ _ ∧ _ from ⟨NdAt.keep hS173.1 oo (fun e => e), NdAt.keep hS173.2.1 oo (fun e => e), NdAt.keep hS173.2.2 oo (fun e => e)⟩)
                have zw177 := oo.size
                refine ⟨hS178, ?_⟩
                clear oo
                try simp only [Act.put, List.setIfInBounds_toArray, List.set_cons_zero, List.set_cons_succ]
                refine takeH 7 123 (v := ?vt181) rfl rfl (by kernel_rfl) (by kernel_rfl) (by kernel_rfl) (fun _ _ _ h => h) (Or.inl ⟨by rfl, ?ht181⟩) hS178 ?rt181
                case ht181 => (intro w hSw; (try dsimp only at hSw); go_simp; (try with_reducible rfl))
                case rt181 =>
                try simp only [Act.put, List.setIfInBounds_toArray, List.set_cons_zero, List.set_cons_succ]
                refine takeH 8 131 (v := ?vt182) rfl rfl (by kernel_rfl) (by kernel_rfl) (by kernel_rfl) (fun _ _ _ h => h) (Or.inl ⟨by rfl, ?ht182⟩) hS178 ?rt182
                case ht182 => (intro w hSw; (try dsimp only at hSw); go_simp; (try with_reducible rfl))
                case rt182 =>
                try simp only [Act.put, List.setIfInBounds_toArray, List.set_cons_zero, List.set_cons_succ]
                refine takeH 9 132 (v := ?vt183) rfl rfl (by kernel_rfl) (by kernel_rfl) (by kernel_rfl) (fun _ _ _ h => h) (Or.inl ⟨by rfl, ?ht183⟩) hS178 ?rt183
                case ht183 => (intro w hSw; (try dsimp only at hSw); go_simp; (try with_reducible rfl))
                case rt183 =>
                try simp only [Act.put, List.setIfInBounds_toArray, List.set_cons_zero, List.set_cons_succ]
                refine takeH 10 133 (v := ?vt184) rfl rfl (by kernel_rfl) (by kernel_rfl) (by kernel_rfl) (fun _ _ _ h => h) (Or.inl ⟨by rfl, ?ht184⟩) hS178 ?rt184
                case ht184 => (intro w hSw; (try dsimp only at hSw); go_simp; (try with_reducible rfl))
                case rt184 =>
                try simp only [Act.put, List.setIfInBounds_toArray, List.set_cons_zero, List.set_cons_succ]
                refine allocH 12 (by kernel_rfl) rfl 18 rfl rfl rfl ?k185
                case k185 =>
                  intro gb w186 ngb ggb oo
                  have oc188 : Only (fun _ => False) w9.drew w186 := oc179.q0 oo
                  have lnk189 := Has.lt nk180
                  have nk189 := nk180.keep oo (fun h => h)
                  have hS187 := (show _ ∧ _ ∧ _ from ⟨NdAt.keep hS178.1 oo (fun e => e), NdAt.keep hS178.2.1 oo (fun e => e), NdAt.keep hS178.2.2 oo (fun e => e)⟩)
                  have zw186 := oo.size
                  refine ⟨hS187, ?_⟩
                  clear oo
                  try simp only [Act.put, List.setIfInBounds_toArray, List.set_cons_zero, List.set_cons_succ]
                  have wsz := oc188.size
                  have hltga := Has.lt nk189
                  have hltgb := Has.lt ngb
                  have hgab : ga ≠ gb := by omega
                  refine storeH_nd 13 (by kernel_rfl) rfl rfl rfl _ _ rfl ga ya nd0 rfl rfl nk189 ?_
                  intro w190 na oa
                  have hSa := (show _ ∧ _ ∧ _ from ⟨NdAt.keep hS187.1 oa (fun e => by omega), NdAt.keep hS187.2.1 oa (fun e => by omega), NdAt.keep hS187.2.2 oa (fun e => by omega)⟩)
                  refine ⟨hSa, ?_⟩
                  try simp only [Act.put, List.setIfInBounds_toArray, List.set_cons_zero, List.set_cons_succ]
                  refine storeH_nd 14 (by kernel_rfl) rfl rfl rfl _ _ rfl gb yb nd0 rfl rfl (ngb.keep oa (fun e => by omega)) ?_
                  intro w191 nb ob
                  have hSb := (show _ ∧ _ ∧ _ from ⟨NdAt.keep hSa.1 ob (fun e => by omega), NdAt.keep hSa.2.1 ob (fun e => by omega), NdAt.keep hSa.2.2 ob (fun e => by omega)⟩)
                  refine ⟨hSb, ?_⟩
                  try simp only [Act.put, List.setIfInBounds_toArray, List.set_cons_zero, List.set_cons_succ]
                  refine takeH 15 19 (v := ?vt192) rfl rfl (by kernel_rfl) (by kernel_rfl) (by kernel_rfl) (fun _ _ _ h => h) (Or.inl ⟨by rfl, ?ht192⟩) hSb ?rt192
                  case ht192 => (intro w hSw; (try dsimp only at hSw); go_simp; (try with_reducible rfl))
                  case rt192 =>
                  try simp only [Act.put, List.setIfInBounds_toArray, List.set_cons_zero, List.set_cons_succ]
                  refine wpAnyH_done (by kernel_rfl) ?_ _
                  have FF := hide (And.intro (na.keep ob (fun e => by omega)) (And.intro nb (And.intro hyy (And.intro oc188 (And.intro oa (And.intro ob hSb))))))
                  go_wp2_with fail
                  go_meet
                  case rel =>
                    obtain ⟨na, nb, hyy, oc, oa, ob, hS⟩ := unhide FF
                    have B0 := (unhide I10)
                    have T1 : Only q.S w _ := ((B0.2.2.2.2.2.1.drew.q0 oc).qn oa (by omega)).qn ob (by omega)
                    have A1 := (((B0.2.2.2.2.2.2.quiet (Only.refl _ _).drew).quiet oc).loc AF (by omega) oa).loc AF (by omega) ob
                    have P1 := (((B0.2.1.drew.keep oc (fun h => h)).keep oa (fun e => by omega)).keep ob (fun e => by omega))
                    exact ⟨ga, gb, ya, yb, rfl, rfl, rfl, na, nb, hyy.1, hyy.2, by omega, by omega, T1, A1, hS.1, P1⟩
              case k176 =>
                intro gb w193 ngb ggb oo
                have oc195 : Only (fun _ => False) w9.drew w193 := oc174.q0 oo
                have lnk196 := Has.lt nga
                have nk196 := nga.keep oo (fun h => h)
                have hS194 := (show _ ∧ _ ∧ _ from ⟨NdAt.keep hS173.1 oo (fun e => e), NdAt.keep hS173.2.1 oo (fun e => e), NdAt.keep hS173.2.2 oo (fun e => e)⟩)
                have zw193 := oo.size
                refine ⟨hS194, ?_⟩
                clear oo
                try simp only [Act.put, List.setIfInBounds_toArray, List.set_cons_zero, List.set_cons_succ]
                refine callH 6 (by kernel_rfl) rfl 130 rfl rfl 354 Tryz.func354 (by kernel_rfl) (by kernel_rfl) #[.tmp 124, .tmp 125, .tmp 129] #[218, 218, 9] rfl #[ndA xm, ndA xr, .string s2] (by simp [Act.eval]) (R := fun v w' => ∃ ya yb, v = .tuple #[ndA ya, ndA yb, .string e1.1] ∧ (Rep h ya (itT m ++ [e0]) ∧ Rep h yb (e1 :: Rr)) ∧ Only (fun _ => False) w193 w') ((unhide CF w193).mono (by rintro en w' ⟨ya, yb, rfl, h1, h2⟩; exact ⟨_, rfl, ya, yb, rfl, h1, h2⟩)) ?k197
                case k197 =>
                  rintro _ w198 ⟨ya, yb, rfl, hyy, oo⟩
                  have oc200 : Only (fun _ => False) w9.drew w198 := oc195.q0 oo
                  have lnk201 := Has.lt nk196
                  have nk201 := nk196.keep oo (fun h => h)
                  have lnk202 := Has.lt ngb
                  have nk202 := ngb.keep oo (fun h => h)
                  have hS199 := (show _ ∧ _ ∧ _ from ⟨NdAt.keep hS194.1 oo (fun e => e), NdAt.keep hS194.2.1 oo (fun e => e), NdAt.keep hS194.2.2 oo (fun e => e)⟩)
                  have zw198 := oo.size
                  refine ⟨hS199, ?_⟩
                  clear oo
                  try simp only [Act.put, List.setIfInBounds_toArray, List.set_cons_zero, List.set_cons_succ]
                  refine takeH 7 123 (v := ?vt203) rfl rfl (by kernel_rfl) (by kernel_rfl) (by kernel_rfl) (fun _ _ _ h => h) (Or.inl ⟨by rfl, ?ht203⟩) hS199 ?rt203
                  case ht203 => (intro w hSw; (try dsimp only at hSw); go_simp; (try with_reducible rfl))
                  case rt203 =>
                  try simp only [Act.put, List.setIfInBounds_toArray, List.set_cons_zero, List.set_cons_succ]
                  refine takeH 8 131 (v := ?vt204) rfl rfl (by kernel_rfl) (by kernel_rfl) (by kernel_rfl) (fun _ _ _ h => h) (Or.inl ⟨by rfl, ?ht204⟩) hS199 ?rt204
                  case ht204 => (intro w hSw; (try dsimp only at hSw); go_simp; (try with_reducible rfl))
                  case rt204 =>
                  try simp only [Act.put, List.setIfInBounds_toArray, List.set_cons_zero, List.set_cons_succ]
                  refine takeH 9 132 (v := ?vt205) rfl rfl (by kernel_rfl) (by kernel_rfl) (by kernel_rfl) (fun _ _ _ h => h) (Or.inl ⟨by rfl, ?ht205⟩) hS199 ?rt205
                  case ht205 => (intro w hSw; (try dsimp only at hSw); go_simp; (try with_reducible rfl))
                  case rt205 =>
                  try simp only [Act.put, List.setIfInBounds_toArray, List.set_cons_zero, List.set_cons_succ]
                  refine takeH 10 133 (v := ?vt206) rfl rfl (by kernel_rfl) (by kernel_rfl) (by kernel_rfl) (fun _ _ _ h => h) (Or.inl ⟨by rfl, ?ht206⟩) hS199 ?rt206
                  case ht206 => (intro w hSw; (try dsimp only at hSw); go_simp; (try with_reducible rfl))
                  case rt206 =>
                  try simp only [Act.put, List.setIfInBounds_toArray, List.set_cons_zero, List.set_cons_succ]
                  have wsz := oc200.size
                  have hltga := Has.lt nk201
                  have hltgb := Has.lt nk202
                  have hgab : ga ≠ gb := by omega
                  refine storeH_nd 13 (by kernel_rfl) rfl rfl rfl _ _ rfl ga ya nd0 rfl rfl nk201 ?_
                  intro w207 na oa
                  have hSa := (show _ ∧ _ ∧ _ from ⟨NdAt.keep hS199.1 oa (fun e => by omega), NdAt.keep hS199.2.1 oa (fun e => by omega), NdAt.keep hS199.2.2 oa (fun e => by omega)⟩)
                  refine ⟨hSa, ?_⟩
                  try simp only [Act.put, List.setIfInBounds_toArray, List.set_cons_zero, List.set_cons_succ]
                  refine storeH_nd 14 (by kernel_rfl) rfl rfl rfl _ _ rfl gb yb nd0 rfl rfl (nk202.keep oa (fun e => by omega)) ?_
                  intro w208 nb ob
                  have hSb := (show _ ∧ _ ∧ _ from ⟨NdAt.keep hSa.1 ob (fun e => by omega), NdAt.keep hSa.2.1 ob (fun e => by omega), NdAt.keep hSa.2.2 ob (fun e => by omega)⟩)
                  refine ⟨hSb, ?_⟩
                  try simp only [Act.put, List.setIfInBounds_toArray, List.set_cons_zero, List.set_cons_succ]
                  refine takeH 15 19 (v := ?vt209) rfl rfl (by kernel_rfl) (by kernel_rfl) (by kernel_rfl) (fun _ _ _ h => h) (Or.inl ⟨by rfl, ?ht209⟩) hSb ?rt209
                  case ht209 => (intro w hSw; (try dsimp only at hSw); go_simp; (try with_reducible rfl))
                  case rt209 =>
                  try simp only [Act.put, List.setIfInBounds_toArray, List.set_cons_zero, List.set_cons_succ]
                  refine wpAnyH_done (by kernel_rfl) ?_ _
                  have FF := hide (And.intro (na.keep ob (fun e => by omega)) (And.intro nb (And.intro hyy (And.intro oc200 (And.intro oa (And.intro ob hSb))))))
                  go_wp2_with fail
                  go_meet
                  case rel =>
                    obtain ⟨na, nb, hyy, oc, oa, ob, hS⟩ := unhide FF
                    have B0 := (unhide I10)
                    have T1 : Only q.S w _ := ((B0.2.2.2.2.2.1.drew.q0 oc).qn oa (by omega)).qn ob (by omega)
                    have A1 := (((B0.2.2.2.2.2.2.quiet (Only.refl _ _).drew).quiet oc).loc AF (by omega) oa).loc AF (by omega) ob
                    have P1 := (((B0.2.1.drew.keep oc (fun h => h)).keep oa (fun e => by omega)).keep ob (fun e => by omega))
                    exact ⟨ga, gb, ya, yb, rfl, rfl, rfl, na, nb, hyy.1, hyy.2, by omega, by omega, T1, A1, hS.1, P1⟩
            case k140 =>
              intro gb w210 ngb ggb oo
              have oc212 : Only (fun _ => False) w9.drew w210 := oo
              have hS211 := (show _ ∧ _ ∧ _ from ⟨NdAt.keep hH0.1 oo (fun e => e), NdAt.keep hH0.2.1 oo (fun e => e), NdAt.keep hH0.2.2 oo (fun e => e)⟩)
              have zw210 := oo.size
              refine ⟨hS211, ?_⟩
              clear oo
              try simp only [Act.put, List.setIfInBounds_toArray, List.set_cons_zero, List.set_cons_succ]
              refine callAllocH 6 11 (by kernel_rfl) rfl 130 rfl rfl 354 Tryz.func354 (by kernel_rfl) (by kernel_rfl) #[.tmp 124, .tmp 125, .tmp 129] #[218, 218, 9] rfl #[ndA xm, ndA xr, .string s2] (by simp [Act.eval]) (R := fun v w' => ∃ ya yb, v = .tuple #[ndA ya, ndA yb, .string e1.1] ∧ (Rep h ya (itT m ++ [e0]) ∧ Rep h yb (e1 :: Rr)) ∧ Only (fun _ => False) w210 w') ((unhide CF w210).mono (by rintro en w' ⟨ya, yb, rfl, h1, h2⟩; exact ⟨_, rfl, ya, yb, rfl, h1, h2⟩)) rfl 17 rfl rfl rfl ?k213 ?k214
              case k213 =>
                rintro _ w215 ⟨ya, yb, rfl, hyy, oo⟩
                have oc217 : Only (fun _ => False) w9.drew w215 := oc212.q0 oo
                have lnk218 := Has.lt ngb
                have nk218 := ngb.keep oo (fun h => h)
                have hS216 := (show _ ∧ _ ∧ _ from ⟨NdAt.keep hS211.1 oo (fun e => e), NdAt.keep hS211.2.1 oo (fun e => e), NdAt.keep hS211.2.2 oo (fun e => e)⟩)
                have zw215 := oo.size
                refine ⟨hS216, ?_⟩
                clear oo
                try simp only [Act.put, List.setIfInBounds_toArray, List.set_cons_zero, List.set_cons_succ]
                refine takeH 7 123 (v := ?vt219) rfl rfl (by kernel_rfl) (by kernel_rfl) (by kernel_rfl) (fun _ _ _ h => h) (Or.inl ⟨by rfl, ?ht219⟩) hS216 ?rt219
                case ht219 => (intro w hSw; (try dsimp only at hSw); go_simp; (try with_reducible rfl))
                case rt219 =>
                try simp only [Act.put, List.setIfInBounds_toArray, List.set_cons_zero, List.set_cons_succ]
                refine takeH 8 131 (v := ?vt220) rfl rfl (by kernel_rfl) (by kernel_rfl) (by kernel_rfl) (fun _ _ _ h => h) (Or.inl ⟨by rfl, ?ht220⟩) hS216 ?rt220
                case ht220 => (intro w hSw; (try dsimp only at hSw); go_simp; (try with_reducible rfl))
                case rt220 =>
                try simp only [Act.put, List.setIfInBounds_toArray, List.set_cons_zero, List.set_cons_succ]
                refine takeH 9 132 (v := ?vt221) rfl rfl (by kernel_rfl) (by kernel_rfl) (by kernel_rfl) (fun _ _ _ h => h) (Or.inl ⟨by rfl, ?ht221⟩) hS216 ?rt221
                case ht221 => (intro w hSw; (try dsimp only at hSw); go_simp; (try with_reducible rfl))
                case rt221 =>
                try simp only [Act.put, List.setIfInBounds_toArray, List.set_cons_zero, List.set_cons_succ]
                refine takeH 10 133 (v := ?vt222) rfl rfl (by kernel_rfl) (by kernel_rfl) (by kernel_rfl) (fun _ _ _ h => h) (Or.inl ⟨by rfl, ?ht222⟩) hS216 ?rt222
                case ht222 => (intro w hSw; (try dsimp only at hSw); go_simp; (try with_reducible rfl))
                case rt222 =>
                try simp only [Act.put, List.setIfInBounds_toArray, List.set_cons_zero, List.set_cons_succ]
                refine allocH 11 (by kernel_rfl) rfl 17 rfl rfl rfl ?k223
                case k223 =>
                  intro ga w224 nga gga oo
                  have oc226 : Only (fun _ => False) w9.drew w224 := oc217.q0 oo
                  have lnk227 := Has.lt nk218
                  have nk227 := nk218.keep oo (fun h => h)
                  have hS225 := (show _ ∧ _ ∧ _ from ⟨NdAt.keep hS216.1 oo (fun e => e), NdAt.keep hS216.2.1 oo (fun e => e), NdAt.keep hS216.2.2 oo (fun e => e)⟩)
                  have zw224 := oo.size
                  refine ⟨hS225, ?_⟩
                  clear oo
                  try simp only [Act.put, List.setIfInBounds_toArray, List.set_cons_zero, List.set_cons_succ]
                  have wsz := oc226.size
                  have hltga := Has.lt nga
                  have hltgb := Has.lt nk227
                  have hgab : ga ≠ gb := by omega
                  refine storeH_nd 13 (by kernel_rfl) rfl rfl rfl _ _ rfl ga ya nd0 rfl rfl nga ?_
                  intro w228 na oa
                  have hSa := (show _ ∧ _ ∧ _ from ⟨NdAt.keep hS225.1 oa (fun e => by omega), NdAt.keep hS225.2.1 oa (fun e => by omega), NdAt.keep hS225.2.2 oa (fun e => by omega)⟩)
                  refine ⟨hSa, ?_⟩
                  try simp only [Act.put, List.setIfInBounds_toArray, List.set_cons_zero, List.set_cons_succ]
                  refine storeH_nd 14 (by kernel_rfl) rfl rfl rfl _ _ rfl gb yb nd0 rfl rfl (nk227.keep oa (fun e => by omega)) ?_
                  intro w229 nb ob
                  have hSb := (show _ ∧ _ ∧ _ from ⟨NdAt.keep hSa.1 ob (fun e => by omega), NdAt.keep hSa.2.1 ob (fun e => by omega), NdAt.keep hSa.2.2 ob (fun e => by omega)⟩)
                  refine ⟨hSb, ?_⟩
                  try simp only [Act.put, List.setIfInBounds_toArray, List.set_cons_zero, List.set_cons_succ]
                  refine takeH 15 19 (v := ?vt230) rfl rfl (by kernel_rfl) (by kernel_rfl) (by kernel_rfl) (fun _ _ _ h => h) (Or.inl ⟨by rfl, ?ht230⟩) hSb ?rt230
                  case ht230 => (intro w hSw; (try dsimp only at hSw); go_simp; (try with_reducible rfl))
                  case rt230 =>
                  try simp only [Act.put, List.setIfInBounds_toArray, List.set_cons_zero, List.set_cons_succ]
                  refine wpAnyH_done (by kernel_rfl) ?_ _
                  have FF := hide (And.intro (na.keep ob (fun e => by omega)) (And.intro nb (And.intro hyy (And.intro oc226 (And.intro oa (And.intro ob hSb))))))
                  go_wp2_with fail
                  go_meet
                  case rel =>
                    obtain ⟨na, nb, hyy, oc, oa, ob, hS⟩ := unhide FF
                    have B0 := (unhide I10)
                    have T1 : Only q.S w _ := ((B0.2.2.2.2.2.1.drew.q0 oc).qn oa (by omega)).qn ob (by omega)
                    have A1 := (((B0.2.2.2.2.2.2.quiet (Only.refl _ _).drew).quiet oc).loc AF (by omega) oa).loc AF (by omega) ob
                    have P1 := (((B0.2.1.drew.keep oc (fun h => h)).keep oa (fun e => by omega)).keep ob (fun e => by omega))
                    exact ⟨ga, gb, ya, yb, rfl, rfl, rfl, na, nb, hyy.1, hyy.2, by omega, by omega, T1, A1, hS.1, P1⟩
              case k214 =>
                intro ga w231 nga gga oo
                have oc233 : Only (fun _ => False) w9.drew w231 := oc212.q0 oo
                have lnk234 := Has.lt ngb
                have nk234 := ngb.keep oo (fun h => h)
                have hS232 := (show _ ∧ _ ∧ _ from ⟨NdAt.keep hS211.1 oo (fun e => e), NdAt.keep hS211.2.1 oo (fun e => e), NdAt.keep hS211.2.2 oo (fun e => e)⟩)
                have zw231 := oo.size
                refine ⟨hS232, ?_⟩
                clear oo
                try simp only [Act.put, List.setIfInBounds_toArray, List.set_cons_zero, List.set_cons_succ]
                refine callH 6 (by kernel_rfl) rfl 130 rfl rfl 354 Tryz.func354 (by kernel_rfl) (by kernel_rfl) #[.tmp 124, .tmp 125, .tmp 129] #[218, 218, 9] rfl #[ndA xm, ndA xr, .string s2] (by simp [Act.eval]) (R := fun v w' => ∃ ya yb, v = .tuple #[ndA ya, ndA yb, .string e1.1] ∧ (Rep h ya (itT m ++ [e0]) ∧ Rep h yb (e1 :: Rr)) ∧ Only (fun _ => False) w231 w') ((unhide CF w231).mono (by rintro en w' ⟨ya, yb, rfl, h1, h2⟩; exact ⟨_, rfl, ya, yb, rfl, h1, h2⟩)) ?k235
                case k235 =>
                  rintro _ w236 ⟨ya, yb, rfl, hyy, oo⟩
                  have oc238 : Only (fun _ => False) w9.drew w236 := oc233.q0 oo
                  have lnk239 := Has.lt nk234
                  have nk239 := nk234.keep oo (fun h => h)
                  have lnk240 := Has.lt nga
                  have nk240 := nga.keep oo (fun h => h)
                  have hS237 := (show _ ∧ _ ∧ _ from ⟨NdAt.keep hS232.1 oo (fun e => e), NdAt.keep hS232.2.1 oo (fun e => e), NdAt.keep hS232.2.2 oo (fun e => e)⟩)
                  have zw236 := oo.size
                  refine ⟨hS237, ?_⟩
                  clear oo
                  try simp only [Act.put, List.setIfInBounds_toArray, List.set_cons_zero, List.set_cons_succ]
                  refine takeH 7 123 (v := ?vt241) rfl rfl (by kernel_rfl) (by kernel_rfl) (by kernel_rfl) (fun _ _ _ h => h) (Or.inl ⟨by rfl, ?ht241⟩) hS237 ?rt241
                  case ht241 => (intro w hSw; (try dsimp only at hSw); go_simp; (try with_reducible rfl))
                  case rt241 =>
                  try simp only [Act.put, List.setIfInBounds_toArray, List.set_cons_zero, List.set_cons_succ]
                  refine takeH 8 131 (v := ?vt242) rfl rfl (by kernel_rfl) (by kernel_rfl) (by kernel_rfl) (fun _ _ _ h => h) (Or.inl ⟨by rfl, ?ht242⟩) hS237 ?rt242
                  case ht242 => (intro w hSw; (try dsimp only at hSw); go_simp; (try with_reducible rfl))
                  case rt242 =>
                  try simp only [Act.put, List.setIfInBounds_toArray, List.set_cons_zero, List.set_cons_succ]
                  refine takeH 9 132 (v := ?vt243) rfl rfl (by kernel_rfl) (by kernel_rfl) (by kernel_rfl) (fun _ _ _ h => h) (Or.inl ⟨by rfl, ?ht243⟩) hS237 ?rt243
                  case ht243 => (intro w hSw; (try dsimp only at hSw); go_simp; (try with_reducible rfl))
                  case rt243 =>
                  try simp only [Act.put, List.setIfInBounds_toArray, List.set_cons_zero, List.set_cons_succ]
                  refine takeH 10 133 (v := ?vt244) rfl rfl (by kernel_rfl) (by kernel_rfl) (by kernel_rfl) (fun _ _ _ h => h) (Or.inl ⟨by rfl, ?ht244⟩) hS237 ?rt244
                  case ht244 => (intro w hSw; (try dsimp only at hSw); go_simp; (try with_reducible rfl))
                  case rt244 =>
                  try simp only [Act.put, List.setIfInBounds_toArray, List.set_cons_zero, List.set_cons_succ]
                  have wsz := oc238.size
                  have hltga := Has.lt nk240
                  have hltgb := Has.lt nk239
                  have hgab : ga ≠ gb := by omega
                  refine storeH_nd 13 (by kernel_rfl) rfl rfl rfl _ _ rfl ga ya nd0 rfl rfl nk240 ?_
                  intro w245 na oa
                  have hSa := (show _ ∧ _ ∧ _ from ⟨NdAt.keep hS237.1 oa (fun e => by omega), NdAt.keep hS237.2.1 oa (fun e => by omega), NdAt.keep hS237.2.2 oa (fun e => by omega)⟩)
                  refine ⟨hSa, ?_⟩
                  try simp only [Act.put, List.setIfInBounds_toArray, List.set_cons_zero, List.set_cons_succ]
                  refine storeH_nd 14 (by kernel_rfl) rfl rfl rfl _ _ rfl gb yb nd0 rfl rfl (nk239.keep oa (fun e => by omega)) ?_
                  intro w246 nb ob
                  have hSb := (show _ ∧ _ ∧ _ from ⟨NdAt.keep hSa.1 ob (fun e => by omega), NdAt.keep hSa.2.1 ob (fun e => by omega), NdAt.keep hSa.2.2 ob (fun e => by omega)⟩)
                  refine ⟨hSb, ?_⟩
                  try simp only [Act.put, List.setIfInBounds_toArray, List.set_cons_zero, List.set_cons_succ]
                  refine takeH 15 19 (v := ?vt247) rfl rfl (by kernel_rfl) (by kernel_rfl) (by kernel_rfl) (fun _ _ _ h => h) (Or.inl ⟨by rfl, ?ht247⟩) hSb ?rt247
                  case ht247 => (intro w hSw; (try dsimp only at hSw); go_simp; (try with_reducible rfl))
                  case rt247 =>
                  try simp only [Act.put, List.setIfInBounds_toArray, List.set_cons_zero, List.set_cons_succ]
                  refine wpAnyH_done (by kernel_rfl) ?_ _
                  have FF := hide (And.intro (na.keep ob (fun e => by omega)) (And.intro nb (And.intro hyy (And.intro oc238 (And.intro oa (And.intro ob hSb))))))
                  go_wp2_with fail
                  go_meet
                  case rel =>
                    obtain ⟨na, nb, hyy, oc, oa, ob, hS⟩ := unhide FF
                    have B0 := (unhide I10)
                    have T1 : Only q.S w _ := ((B0.2.2.2.2.2.1.drew.q0 oc).qn oa (by omega)).qn ob (by omega)
                    have A1 := (((B0.2.2.2.2.2.2.quiet (Only.refl _ _).drew).quiet oc).loc AF (by omega) oa).loc AF (by omega) ob
                    have P1 := (((B0.2.1.drew.keep oc (fun h => h)).keep oa (fun e => by omega)).keep ob (fun e => by omega))
                    exact ⟨ga, gb, ya, yb, rfl, rfl, rfl, na, nb, hyy.1, hyy.2, by omega, by omega, T1, A1, hS.1, P1⟩
        case rest =>
          obtain ⟨ga, gb, ya, yb, rfl, rfl, rfl, J1⟩ := hcut
          have hCa := unhide HCR
          have pxs := unhide HC
          have HAS : Hid (xs ++ (s1, m) :: ys = xs ++ (s1, m) :: (s2, Rk) :: ys') := hide (by rw [unhide HYS])
          as_aux_lemma =>
            have ga0 : w.heap.size ≤ ga := by have := J1.2.2.2.2.1; omega
            have gb0 : w.heap.size ≤ gb := by have := J1.2.2.2.2.2.1; omega
            have nSga := AF.nS ga0
            have nSgb := AF.nS gb0
            have hga : br < ga := J1.2.2.2.2.1
            have hgb : br < gb := J1.2.2.2.2.2.1
            have ck := J1.2.2.2.2.2.2.2.2.1.key c (by omega)
            have oS := J1.2.2.2.2.2.2.2.2.1.o1 (2 + c) (.string e1.1)
            have J2 := hide (And.intro (J1.2.2.2.2.2.2.2.2.1.setKey c (by omega) e1.1) (And.intro (J1.1.keep oS (fun e => by omega)) (And.intro (J1.2.1.keep oS (fun e => by omega)) (And.intro (J1.2.2.2.2.2.2.2.2.2.keep oS (fun e => by omega)) (And.intro (J1.2.2.2.2.2.2.1.qn oS gG) (J1.2.2.2.2.2.2.2.1.loc AF gG oS))))))
            have RAB := hide (And.intro J1.2.2.1 J1.2.2.2.1)
            clear oS J1
            go_upto_region 23 with fail
            generalize wc.setCell ⟨g, 2 + c, none⟩ (.string e1.1) = w14 at *
            clear ck
            have CS := hide (store2_any ((unhide J2).2.2.2.2.2.quiet (Only.refl _ w14).drew) ((unhide HP).st (s1, m) (by simp)).1 ((unhide HP).st (s2, Rk) (by simp)).1 (unhide RAB).1 (unhide RAB).2 ((unhide HP).fits (fun f hf => by rcases List.mem_append.mp hf with h1 | h1; exact .inl h1; exact .inr (by rw [unhide HRE]; simp at h1; simp [h1])) (by simp) (by have := mx_lo h; (try simp); omega)) ((unhide HP).fits (fun f hf => .inr (by rw [unhide HRE]; exact List.mem_cons_of_mem _ hf)) (by simp) (by simp; have := mx_lo h; omega)))
            refine wp_region_held_drew (S := (fun w' => NdAt w' g { x with K := upF x.K c e1.1 } ∧ NdAt w' ga ya ∧ NdAt w' gb yb)) (by kernel_rfl) ⟨(unhide J2).1.drew, (unhide J2).2.1.drew, (unhide J2).2.2.1.drew⟩ (fun hH0 => ?_)
            refine takeH 0 138 rfl rfl (by kernel_rfl) (by kernel_rfl) (by kernel_rfl) (fun _ _ _ h => h) (yieldsIf_load_nd (by rfl) _ rfl g rfl { x with K := upF x.K c e1.1 } (fun _ h => h.1)) hH0 ?rt248
            case rt248 =>
            try simp only [Act.put, List.setIfInBounds_toArray, List.set_cons_zero, List.set_cons_succ]
            refine takeH 1 139 (v := ?vt249) rfl rfl (by kernel_rfl) (by kernel_rfl) (by kernel_rfl) (fun _ _ _ h => h) (Or.inl ⟨by rfl, ?ht249⟩) hH0 ?rt249
            case ht249 => (intro w hSw; (try dsimp only at hSw); go_simp; (try with_reducible rfl))
            case rt249 =>
            try simp only [Act.put, List.setIfInBounds_toArray, List.set_cons_zero, List.set_cons_succ]
            refine takeH 2 140 (v := ?vt250) rfl rfl (by kernel_rfl) (by kernel_rfl) (by kernel_rfl) (fun _ _ _ h => h) (Or.inl ⟨by rfl, ?ht250⟩) hH0 ?rt250
            case ht250 => (intro w hSw; (try dsimp only at hSw); go_simp; (try with_reducible rfl))
            case rt250 =>
            try simp only [Act.put, List.setIfInBounds_toArray, List.set_cons_zero, List.set_cons_succ]
            refine takeH 3 141 (v := ?vt251) rfl rfl (by kernel_rfl) (by kernel_rfl) (by kernel_rfl) (fun _ _ _ h => h) (Or.inl ⟨by rfl, ?ht251⟩) hH0 ?rt251
            case ht251 => (intro w hSw; (try dsimp only at hSw); go_simp; (try with_reducible rfl))
            case rt251 =>
            try simp only [Act.put, List.setIfInBounds_toArray, List.set_cons_zero, List.set_cons_succ]
            refine takeH 4 142 (v := ?vt252) rfl rfl (by kernel_rfl) (by kernel_rfl) (by kernel_rfl) (fun _ _ _ h => h) (Or.inl ⟨by rfl, ?ht252⟩) hH0 ?rt252
            case ht252 => (intro w hSw; (try dsimp only at hSw); go_simp; (try with_reducible rfl))
            case rt252 =>
            try simp only [Act.put, List.setIfInBounds_toArray, List.set_cons_zero, List.set_cons_succ]
            refine takeH 5 143 (v := ?vt253) rfl rfl (by kernel_rfl) (by kernel_rfl) (by kernel_rfl) (fun _ _ _ h => h) (Or.inl ⟨by rfl, ?ht253⟩) hH0 ?rt253
            case ht253 => (intro w hSw; have q1 : w.cell? ⟨g, 10 + (c), none⟩ = some (.int .i64 (pgT m : Int)) := (by rw [← hC]; exact (NdAt.kid hSw.1 (c) (by omega)).1); clear hSw; go_simp; (try with_reducible rfl))
            case rt253 =>
            try simp only [Act.put, List.setIfInBounds_toArray, List.set_cons_zero, List.set_cons_succ]
            refine takeH 6 144 rfl rfl (by kernel_rfl) (by kernel_rfl) (by kernel_rfl) (fun _ _ _ h => h) (yieldsIf_load_nd (by rfl) _ rfl ga rfl ya (fun _ h => h.2.1)) hH0 ?rt254
            case rt254 =>
            try simp only [Act.put, List.setIfInBounds_toArray, List.set_cons_zero, List.set_cons_succ]
            refine takeH 7 145 (v := ?vt255) rfl rfl (by kernel_rfl) (by kernel_rfl) (by kernel_rfl) (fun _ _ _ h => h) (Or.inl ⟨by rfl, ?ht255⟩) hH0 ?rt255
            case ht255 => (intro w hSw; (try dsimp only at hSw); go_simp; (try with_reducible rfl))
            case rt255 =>
            try simp only [Act.put, List.setIfInBounds_toArray, List.set_cons_zero, List.set_cons_succ]
            refine takeH 8 146 (v := ?vt256) rfl rfl (by kernel_rfl) (by kernel_rfl) (by kernel_rfl) (fun _ _ _ h => h) (Or.inl ⟨by rfl, ?ht256⟩) hH0 ?rt256
            case ht256 => (intro w hSw; (try dsimp only at hSw); go_simp; (try with_reducible rfl))
            case rt256 =>
            try simp only [Act.put, List.setIfInBounds_toArray, List.set_cons_zero, List.set_cons_succ]
            refine takeH 9 147 (v := ?vt257) rfl rfl (by kernel_rfl) (by kernel_rfl) (by kernel_rfl) (fun _ _ _ h => h) (Or.inl ⟨by rfl, ?ht257⟩) hH0 ?rt257
            case ht257 => (intro w hSw; (try dsimp only at hSw); go_simp; (try with_reducible rfl))
            case rt257 =>
            try simp only [Act.put, List.setIfInBounds_toArray, List.set_cons_zero, List.set_cons_succ]
            refine takeH 10 148 (v := ?vt258) rfl rfl (by kernel_rfl) (by kernel_rfl) (by kernel_rfl) (fun _ _ _ h => h) (Or.inl ⟨by rfl, ?ht258⟩) hH0 ?rt258
            case ht258 => (intro w hSw; (try dsimp only at hSw); go_simp; (try with_reducible rfl))
            case rt258 =>
            try simp only [Act.put, List.setIfInBounds_toArray, List.set_cons_zero, List.set_cons_succ]
            refine takeH 11 149 (v := ?vt259) rfl rfl (by kernel_rfl) (by kernel_rfl) (by kernel_rfl) (fun _ _ _ h => h) (Or.inl ⟨by rfl, ?ht259⟩) hH0 ?rt259
            case ht259 => (intro w hSw; have q1 : w.cell? ⟨g, 10 + (c + 1), none⟩ = some (.int .i64 (pgT Rk : Int)) := (by rw [← hCa]; exact (NdAt.kid hSw.1 (c + 1) (by omega)).1); clear hSw; go_simp; (try with_reducible rfl))
            case rt259 =>
            try simp only [Act.put, List.setIfInBounds_toArray, List.set_cons_zero, List.set_cons_succ]
            refine takeH 12 150 rfl rfl (by kernel_rfl) (by kernel_rfl) (by kernel_rfl) (fun _ _ _ h => h) (yieldsIf_load_nd (by rfl) _ rfl gb rfl yb (fun _ h => h.2.2)) hH0 ?rt260
            case rt260 =>
            try simp only [Act.put, List.setIfInBounds_toArray, List.set_cons_zero, List.set_cons_succ]
            refine callH 13 (by kernel_rfl) rfl 151 rfl rfl 353 Tryz.func353 (by kernel_rfl) (by kernel_rfl) #[.tmp 139, .tmp 143, .tmp 144, .tmp 149, .tmp 150] #[65, 3, 218, 3, 218] rfl #[.pointer (some ⟨q.f, 0, none⟩), .int .i64 (pgT m), ndA ya, .int .i64 (pgT Rk), ndA yb] (by simp [Act.eval]) (R := fun v w' => v = .int .i64 0 ∧ (∃ view', FA q w' true view' ∧ NV view' = setN (setN (NV view) (pgT m) (some (page (ndOf h (itT m ++ [e0]))))) (pgT Rk) (some (page (ndOf h (e1 :: Rr))))) ∧ Only q.S w14.drew w') ((unhide CS).mono (by rintro en w' ⟨rfl, h1, h2⟩; exact ⟨_, rfl, rfl, h1, h2⟩)) ?kcs
            case kcs =>
            rintro _ w15 ⟨rfl, hV, o15⟩
            have S15 := (show _ ∧ _ ∧ _ from ⟨NdAt.keep hH0.1 o15 nSg, NdAt.keep hH0.2.1 o15 nSga, NdAt.keep hH0.2.2 o15 nSgb⟩)
            have P15 := (unhide J2).2.2.2.1.drew.keep o15 nSp
            have O15 := hide ((unhide J2).2.2.2.2.1.drew.qt o15)
            have HV := hide hV
            refine ⟨S15, ?_⟩
            clear hV o15
            try simp only [Act.put, List.setIfInBounds_toArray, List.set_cons_zero, List.set_cons_succ]
            refine storeH_nd 14 (by kernel_rfl) rfl rfl rfl _ _ rfl p { x with K := upF x.K c e1.1 } nd0 rfl rfl P15 ?_
            intro w16 n16 o16
            have S16 := (show _ ∧ _ ∧ _ from ⟨NdAt.keep S15.1 o16 (fun e => by omega), NdAt.keep S15.2.1 o16 (fun e => by omega), NdAt.keep S15.2.2 o16 (fun e => by omega)⟩)
            refine ⟨S16, ?_⟩
            try simp only [Act.put, List.setIfInBounds_toArray, List.set_cons_zero, List.set_cons_succ]
            refine takeH 15 7 (v := ?vt261) rfl rfl (by kernel_rfl) (by kernel_rfl) (by kernel_rfl) (fun _ _ _ h => h) (Or.inl ⟨by rfl, ?ht261⟩) S16 ?rt261
            case ht261 => (intro w hSw; (try dsimp only at hSw); go_simp; (try with_reducible rfl))
            case rt261 =>
            try simp only [Act.put, List.setIfInBounds_toArray, List.set_cons_zero, List.set_cons_succ]
            refine wpAnyH_done (by kernel_rfl) ?_ _
            have FF := hide (And.intro n16 o16)
            clear n16 o16 S15 S16 P15 hH0 CS
            go_wp2_with fail
            refine bodyPost_ret (res2_nd Tryz.results342 _ rfl (unhide FF).1) rfl ?_
            obtain ⟨view', A15, eN⟩ := unhide HV
            have M := (unhide HP).borrow (A := (itT m ++ [e0])) (B := Rr) (e := e1) (by rw [unhide HRE]; simp) ⟨by simp; omega, by simp; have := mx_lo h; omega⟩ ⟨by simp; omega, by simp; have := mx_lo h; omega⟩
            rw [← eN] at M
            have as_ := (unhide HAS)
            unfold MendPost
            rw [as_]
            exact ⟨_, view', _, [], rfl, rep_sep (L' := mkT (pgT m) (itT m ++ [e0])) (R' := mkT (pgT Rk) (e1 :: Rr)) (unhide RXR) rfl rfl pxs, M, A15.loc AF gp0 (unhide FF).2, (unhide O15).qn (unhide FF).2 gp0⟩
  case rest =>
  obtain ⟨xr, I10⟩ := hcut
  have LF := hide (unhide I9).2.2.2.2.2.2.2
  have I10 := hide I10
  clear I9
  have mlo := mx_lo h
  have mhi := mx_hi h
  rcases List.eq_nil_or_concat xs with hxs | ⟨xs', e0, hxs⟩
  · have hx0 : c = 0 := by rw [← unhide HC, hxs]; rfl
    have nn := unhide NN
    rcases (show ys = [] ∨ ∃ e2 ys', ys = e2 :: ys' by cases ys; exact .inl rfl; exact .inr ⟨_, _, rfl⟩) with hys | ⟨e2, ys', hys⟩
    · have : ys.length = 0 := by rw [hys]; rfl
      omega
    · obtain ⟨s2, Rk⟩ := e2
      have hyl : ys.length = ys'.length + 1 := by rw [hys]; simp
      obtain ⟨rr, hr2⟩ := (unhide I10).2.2.2.2.2.2.2 s2 Rk ys' hys
      have T' := T
      rw [hys] at T'
      have HP := hide T'.right
      have RXp := unhide RX
      rw [hys] at RXp
      have HAS : Hid (xs ++ (s1, m) :: ys = xs ++ (s1, m) :: (s2, Rk) :: ys') := hide (by rw [hys])
      have hKc : x.K c = s2 := RepI.s RXp c (s2, pgT Rk) (by have := unhide HC; rw [pk_app, pk_cons, pk_cons, ← this, ← pk_len xs]; simp)
      have RXr2 : Rep (h + 1) x ((xs ++ [(s1, m)]) ++ (s2, Rk) :: ys') := by simpa using RXp
      have hC2 := kid_at RXr2
      have hcl : (xs ++ [(s1, m)]).length = c + 1 := by simp; exact unhide HC
      rw [hcl] at hC2
      have a1 : decide ((c : Int) > 0) = false := decide_eq_false (by omega)
      have a1' : decide (0 < (c : Int)) = false := decide_eq_false (by omega)
      have a1p : ¬ (0 < (c : Int)) := by omega
      have i1 : c + 1 < x.n := by omega
      have RXP := hide RXp
      have RNL := RM
      have RNR := hide rr
      have pxs := unhide HC
      have CXs := hide hx0
      have c4 : (c : Int) < 4 := by omega
      have c5 : (c : Int) < 5 := by omega
      have c15 : (c : Int) + 1 < 5 := by omega
      clear hxs hys T' RXp RXr2 hcl rr hx0 nn hyl
      as_aux_lemma =>
        have hnl := (unhide RNL).n
        have hnr := (unhide RNR).n
        have cl3 : xm.n + xr.n = 3 := by omega
        have c00 : (0 : Int) ≤ (c : Int) := by omega
        have c10 : (0 : Int) ≤ (c : Int) + 1 := by omega
        have cw : IntKind.i64.wrap (c : Int) = (c : Int) := by rw [IntWalk.i64_in]; omega
        have cw1 : IntKind.i64.wrap ((c : Int) + 1) = (c : Int) + 1 := by rw [IntWalk.i64_in]; omega
        go_upto_region 29 with (first | (refine wpList_load_nd rfl _ rfl bm rfl (unhide I10).2.2.1 ?_) | (refine wpList_store_nd rfl _ _ rfl bl xm rfl rfl (unhide I10).2.2.2.1 ?_; intro w20 n20 o20))
        have I20 := hide (And.intro ((unhide I10).1.keep o20 (fun e => by omega)) (And.intro ((unhide I10).2.1.keep o20 (fun e => by omega)) (And.intro n20 (And.intro ((unhide I10).2.2.2.2.1.keep o20 (fun e => by omega)) (And.intro ((unhide I10).2.2.2.2.2.1.qn o20 gl0) ((unhide I10).2.2.2.2.2.2.1.loc AF gl0 o20))))))
        clear n20 o20 I10
        have cxn := (unhide I20).1.num.1
        have cln := (unhide I20).2.2.1.num.1
        have crn := (unhide I20).2.2.2.1.num.1
        have b1 : ¬ ((x.n : Int) ≤ (c : Int) + 1) := by omega
        have b1' : (c : Int) + 1 < (x.n : Int) := by omega
        have b1d : decide ((c : Int) + 1 ≥ (x.n : Int)) = false := decide_eq_false (by omega)
        have b2 : ¬ ((mx h : Int) < (xm.n : Int) + (xr.n : Int)) := by omega
        have b2d : decide ((xm.n : Int) + (xr.n : Int) > (mx h : Int)) = false := decide_eq_false (by omega)
        have HNL := hide hnl
        have HNR := hide hnr
        have CL3 := hide cl3
        clear hnl hnr cl3
        go_upto_region 31 with fail
        clear cxn cln crn b1 b1' b1d b2 b2d
        have CF := hide (fun w => join_rep (sep := s2) (unhide RNL) (unhide RNR) (by have := unhide HNL; omega) (by have := unhide HNR; omega) (by have := unhide HNL; have := unhide HNR; have := unhide CL3; omega) (unhide HP).heads w)
        go_cut [21] (fun s21 wx => ∃ (gz : Nat) (z : Node), s21 = .pointer (some ⟨gz, 0, none⟩) ∧ NdAt wx gz z ∧ Rep h z (itT m ++ itT Rk) ∧ br < gz ∧ NdAt wx g x ∧ NdAt wx p nd0 ∧ Only q.S w wx ∧ FA q wx true view)
        case first =>
          have hbr := Has.lt (unhide I20).2.2.2.1
          have szd : w20.drew.heap.size = w20.heap.size := rfl
          as_aux_lemma =>
            refine wp_region_held_drew (S := (fun w' => NdAt w' g x ∧ NdAt w' bl xm ∧ NdAt w' br xr)) (by kernel_rfl) ⟨(unhide I20).1.drew, (unhide I20).2.2.1.drew, (unhide I20).2.2.2.1.drew⟩ (fun hH0 => ?_)
            refine takeH 0 174 rfl rfl (by kernel_rfl) (by kernel_rfl) (by kernel_rfl) (fun _ _ _ h => h) (yieldsIf_load_nd (by rfl) _ rfl bl rfl xm (fun _ h => h.2.1)) hH0 ?rt262
            case rt262 =>
            try simp only [Act.put, List.setIfInBounds_toArray, List.set_cons_zero, List.set_cons_succ]
            refine takeH 1 175 rfl rfl (by kernel_rfl) (by kernel_rfl) (by kernel_rfl) (fun _ _ _ h => h) (yieldsIf_load_nd (by rfl) _ rfl br rfl xr (fun _ h => h.2.2)) hH0 ?rt263
            case rt263 =>
            try simp only [Act.put, List.setIfInBounds_toArray, List.set_cons_zero, List.set_cons_succ]
            refine takeH 2 176 (v := ?vt264) rfl rfl (by kernel_rfl) (by kernel_rfl) (by kernel_rfl) (fun _ _ _ h => h) (Or.inl ⟨by rfl, ?ht264⟩) hH0 ?rt264
            case ht264 => (intro w hSw; (try dsimp only at hSw); go_simp; (try with_reducible rfl))
            case rt264 =>
            try simp only [Act.put, List.setIfInBounds_toArray, List.set_cons_zero, List.set_cons_succ]
            refine takeH 3 177 (v := ?vt265) rfl rfl (by kernel_rfl) (by kernel_rfl) (by kernel_rfl) (fun _ _ _ h => h) (Or.inl ⟨by rfl, ?ht265⟩) hH0 ?rt265
            case ht265 => (intro w hSw; (try dsimp only at hSw); go_simp; (try with_reducible rfl))
            case rt265 =>
            try simp only [Act.put, List.setIfInBounds_toArray, List.set_cons_zero, List.set_cons_succ]
            refine takeH 4 178 (v := ?vt266) rfl rfl (by kernel_rfl) (by kernel_rfl) (by kernel_rfl) (fun _ _ _ h => h) (Or.inl ⟨by rfl, ?ht266⟩) hH0 ?rt266
            case ht266 => (intro w hSw; (try dsimp only at hSw); go_simp; (try with_reducible rfl))
            case rt266 =>
            try simp only [Act.put, List.setIfInBounds_toArray, List.set_cons_zero, List.set_cons_succ]
            refine takeH 5 179 (v := ?vt267) rfl rfl (by kernel_rfl) (by kernel_rfl) (by kernel_rfl) (fun _ _ _ h => h) (Or.inl ⟨by rfl, ?ht267⟩) hH0 ?rt267
            case ht267 => (intro w hSw; have q1 := (NdAt.key hSw.1 c (by omega)).1; rw [hKc] at q1; clear hSw; go_simp; (try with_reducible rfl))
            case rt267 =>
            try simp only [Act.put, List.setIfInBounds_toArray, List.set_cons_zero, List.set_cons_succ]
            refine callAllocH 6 7 (by kernel_rfl) rfl 180 rfl rfl 355 Tryz.func355 (by kernel_rfl) (by kernel_rfl) #[.tmp 174, .tmp 175, .tmp 179] #[218, 218, 9] rfl #[ndA xm, ndA xr, .string s2] (by simp [Act.eval]) (R := fun v w' => ∃ z, v = ndA z ∧ Rep h z (itT m ++ itT Rk) ∧ Only (fun _ => False) w20.drew w') ((unhide CF w20.drew).mono (by rintro en w' ⟨z, rfl, h1, h2⟩; exact ⟨_, rfl, z, rfl, h1, h2⟩)) rfl 21 rfl rfl rfl ?k268 ?k269
            case k268 =>
              rintro _ w270 ⟨z, rfl, hyy, oo⟩
              have oc272 : Only (fun _ => False) w20.drew w270 := oo
              have hS271 := (show _ ∧ _ ∧ _ from ⟨NdAt.keep hH0.1 oo (fun e => e), NdAt.keep hH0.2.1 oo (fun e => e), NdAt.keep hH0.2.2 oo (fun e => e)⟩)
              have zw270 := oo.size
              refine ⟨hS271, ?_⟩
              clear oo
              try simp only [Act.put, List.setIfInBounds_toArray, List.set_cons_zero, List.set_cons_succ]
              refine allocH 7 (by kernel_rfl) rfl 21 rfl rfl rfl ?k273
              case k273 =>
                intro ga w274 nga gga oo
                have oc276 : Only (fun _ => False) w20.drew w274 := oc272.q0 oo
                have hS275 := (show _ ∧ _ ∧ _ from ⟨NdAt.keep hS271.1 oo (fun e => e), NdAt.keep hS271.2.1 oo (fun e => e), NdAt.keep hS271.2.2 oo (fun e => e)⟩)
                have zw274 := oo.size
                refine ⟨hS275, ?_⟩
                clear oo
                try simp only [Act.put, List.setIfInBounds_toArray, List.set_cons_zero, List.set_cons_succ]
                have wsz := oc276.size
                have hltga := Has.lt nga
                refine storeH_nd 8 (by kernel_rfl) rfl rfl rfl _ _ rfl ga z nd0 rfl rfl nga ?_
                intro w277 na oa
                have hSa := (show _ ∧ _ ∧ _ from ⟨NdAt.keep hS275.1 oa (fun e => by omega), NdAt.keep hS275.2.1 oa (fun e => by omega), NdAt.keep hS275.2.2 oa (fun e => by omega)⟩)
                refine ⟨hSa, ?_⟩
                try simp only [Act.put, List.setIfInBounds_toArray, List.set_cons_zero, List.set_cons_succ]
                refine wpAnyH_done (by kernel_rfl) ?_ _
                have FF := hide (And.intro na (And.intro hyy (And.intro oc276 (And.intro oa hSa))))
                go_wp2_with fail
                go_meet
                case rel =>
                  obtain ⟨na, hyy, oc, oa, hS⟩ := unhide FF
                  have B0 := (unhide I20)
                  have T1 : Only q.S w _ := (B0.2.2.2.2.1.drew.q0 oc).qn oa (by omega)
                  have A1 := ((B0.2.2.2.2.2.quiet (Only.refl _ _).drew).quiet oc).loc AF (by omega) oa
                  have P1 := ((B0.2.1.drew.keep oc (fun h => h)).keep oa (fun e => by omega))
                  exact ⟨ga, z, rfl, na, hyy, by omega, hS.1, P1, T1, A1⟩
            case k269 =>
              intro ga w278 nga gga oo
              have oc280 : Only (fun _ => False) w20.drew w278 := oo
              have hS279 := (show _ ∧ _ ∧ _ from ⟨NdAt.keep hH0.1 oo (fun e => e), NdAt.keep hH0.2.1 oo (fun e => e), NdAt.keep hH0.2.2 oo (fun e => e)⟩)
              have zw278 := oo.size
              refine ⟨hS279, ?_⟩
              clear oo
              try simp only [Act.put, List.setIfInBounds_toArray, List.set_cons_zero, List.set_cons_succ]
              refine callH 6 (by kernel_rfl) rfl 180 rfl rfl 355 Tryz.func355 (by kernel_rfl) (by kernel_rfl) #[.tmp 174, .tmp 175, .tmp 179] #[218, 218, 9] rfl #[ndA xm, ndA xr, .string s2] (by simp [Act.eval]) (R := fun v w' => ∃ z, v = ndA z ∧ Rep h z (itT m ++ itT Rk) ∧ Only (fun _ => False) w278 w') ((unhide CF w278).mono (by rintro en w' ⟨z, rfl, h1, h2⟩; exact ⟨_, rfl, z, rfl, h1, h2⟩)) ?k281
              case k281 =>
                rintro _ w282 ⟨z, rfl, hyy, oo⟩
                have oc284 : Only (fun _ => False) w20.drew w282 := oc280.q0 oo
                have lnk285 := Has.lt nga
                have nk285 := nga.keep oo (fun h => h)
                have hS283 := (show _ ∧ _ ∧ _ from ⟨NdAt.keep hS279.1 oo (fun e => e), NdAt.keep hS279.2.1 oo (fun e => e), NdAt.keep hS279.2.2 oo (fun e => e)⟩)
                have zw282 := oo.size
                refine ⟨hS283, ?_⟩
                clear oo
                try simp only [Act.put, List.setIfInBounds_toArray, List.set_cons_zero, List.set_cons_succ]
                have wsz := oc284.size
                have hltga := Has.lt nk285
                refine storeH_nd 8 (by kernel_rfl) rfl rfl rfl _ _ rfl ga z nd0 rfl rfl nk285 ?_
                intro w286 na oa
                have hSa := (show _ ∧ _ ∧ _ from ⟨NdAt.keep hS283.1 oa (fun e => by omega), NdAt.keep hS283.2.1 oa (fun e => by omega), NdAt.keep hS283.2.2 oa (fun e => by omega)⟩)
                refine ⟨hSa, ?_⟩
                try simp only [Act.put, List.setIfInBounds_toArray, List.set_cons_zero, List.set_cons_succ]
                refine wpAnyH_done (by kernel_rfl) ?_ _
                have FF := hide (And.intro na (And.intro hyy (And.intro oc284 (And.intro oa hSa))))
                go_wp2_with fail
                go_meet
                case rel =>
                  obtain ⟨na, hyy, oc, oa, hS⟩ := unhide FF
                  have B0 := (unhide I20)
                  have T1 : Only q.S w _ := (B0.2.2.2.2.1.drew.q0 oc).qn oa (by omega)
                  have A1 := ((B0.2.2.2.2.2.quiet (Only.refl _ _).drew).quiet oc).loc AF (by omega) oa
                  have P1 := ((B0.2.1.drew.keep oc (fun h => h)).keep oa (fun e => by omega))
                  exact ⟨ga, z, rfl, na, hyy, by omega, hS.1, P1, T1, A1⟩
        case rest =>
          obtain ⟨gz, z, rfl, J1⟩ := hcut
          as_aux_lemma =>
            have hgz := J1.2.2.1
            have gz0 : w.heap.size ≤ gz := by omega
            have nSz := AF.nS gz0
            have J1 := hide J1
            have hnP := (unhide HP).nds.1
            have stL : Sto (NV view) (h + 1) m := (unhide HP).st (s1, m) (by simp)
            have stR : Sto (NV view) (h + 1) Rk := (unhide HP).st (s2, Rk) (by simp)
            have fz : Fits h (itT m ++ itT Rk) := (unhide HP).fits (fun f hf => List.mem_append.mp hf) (by have := unhide HNL; have := unhide HNR; have := unhide CL3; simp; omega) (by have := unhide HNL; have := unhide HNR; have := unhide CL3; simp; omega)
            have CS := hide (store_any ((unhide J1).2.2.2.2.2.2.quiet (Only.refl _ wc).drew) stL.1 (unhide J1).2.1 fz)
            go_upto_region 32 with fail
            refine wp_region_held_drew (S := (fun w' => NdAt w' g x ∧ NdAt w' gz z)) (by kernel_rfl) ⟨(unhide J1).2.2.2.1.drew, (unhide J1).1.drew⟩ (fun hH0 => ?_)
            refine takeH 0 181 (v := ?vt287) rfl rfl (by kernel_rfl) (by kernel_rfl) (by kernel_rfl) (fun _ _ _ h => h) (Or.inl ⟨by rfl, ?ht287⟩) hH0 ?rt287
            case ht287 => (intro w hSw; (try dsimp only at hSw); go_simp; (try with_reducible rfl))
            case rt287 =>
            try simp only [Act.put, List.setIfInBounds_toArray, List.set_cons_zero, List.set_cons_succ]
            refine takeH 1 182 (v := ?vt288) rfl rfl (by kernel_rfl) (by kernel_rfl) (by kernel_rfl) (fun _ _ _ h => h) (Or.inl ⟨by rfl, ?ht288⟩) hH0 ?rt288
            case ht288 => (intro w hSw; (try dsimp only at hSw); go_simp; (try with_reducible rfl))
            case rt288 =>
            try simp only [Act.put, List.setIfInBounds_toArray, List.set_cons_zero, List.set_cons_succ]
            refine takeH 2 183 (v := ?vt289) rfl rfl (by kernel_rfl) (by kernel_rfl) (by kernel_rfl) (fun _ _ _ h => h) (Or.inl ⟨by rfl, ?ht289⟩) hH0 ?rt289
            case ht289 => (intro w hSw; (try dsimp only at hSw); go_simp; (try with_reducible rfl))
            case rt289 =>
            try simp only [Act.put, List.setIfInBounds_toArray, List.set_cons_zero, List.set_cons_succ]
            refine takeH 3 184 (v := ?vt290) rfl rfl (by kernel_rfl) (by kernel_rfl) (by kernel_rfl) (fun _ _ _ h => h) (Or.inl ⟨by rfl, ?ht290⟩) hH0 ?rt290
            case ht290 => (intro w hSw; (try dsimp only at hSw); go_simp; (try with_reducible rfl))
            case rt290 =>
            try simp only [Act.put, List.setIfInBounds_toArray, List.set_cons_zero, List.set_cons_succ]
            refine takeH 4 185 (v := ?vt291) rfl rfl (by kernel_rfl) (by kernel_rfl) (by kernel_rfl) (fun _ _ _ h => h) (Or.inl ⟨by rfl, ?ht291⟩) hH0 ?rt291
            case ht291 => (intro w hSw; have q1 : w.cell? ⟨g, 10 + c, none⟩ = some (.int .i64 (pgT m : Int)) := (by rw [← hC]; exact (NdAt.kid hSw.1 c (by omega)).1); clear hSw; go_simp; (try with_reducible rfl))
            case rt291 =>
            try simp only [Act.put, List.setIfInBounds_toArray, List.set_cons_zero, List.set_cons_succ]
            refine takeH 5 186 rfl rfl (by kernel_rfl) (by kernel_rfl) (by kernel_rfl) (fun _ _ _ h => h) (yieldsIf_load_nd (by rfl) _ rfl gz rfl z (fun _ h => h.2)) hH0 ?rt292
            case rt292 =>
            try simp only [Act.put, List.setIfInBounds_toArray, List.set_cons_zero, List.set_cons_succ]
            refine callH 6 (by kernel_rfl) rfl 187 rfl rfl 152 Tryz.func152 (by kernel_rfl) (by kernel_rfl) #[.tmp 181, .tmp 185, .tmp 186] #[65, 3, 218] rfl #[.pointer (some ⟨q.f, 0, none⟩), .int .i64 (pgT m), ndA z] (by simp [Act.eval]) (R := fun v w' => v = .int .i64 0 ∧ (∃ view', FA q w' true view' ∧ NV view' = setN (NV view) (pgT m) (some (page (ndOf h (itT m ++ itT Rk))))) ∧ Only q.S wc.drew w') ((unhide CS).mono (by rintro en w' ⟨rfl, h1, h2⟩; exact ⟨_, rfl, rfl, h1, h2⟩)) ?kcs
            case kcs =>
            rintro _ w21 ⟨rfl, ⟨v1, A21, e21⟩, o21⟩
            have S21 := (show _ ∧ _ from ⟨NdAt.keep hH0.1 o21 nSg, NdAt.keep hH0.2 o21 nSz⟩)
            have J21 := hide (And.intro A21 (And.intro e21 (And.intro S21.1 (And.intro ((unhide J1).2.2.2.2.1.drew.keep o21 nSp) ((unhide J1).2.2.2.2.2.1.drew.qt o21)))))
            refine ⟨S21, ?_⟩
            clear A21 e21 o21
            try simp only [Act.put, List.setIfInBounds_toArray, List.set_cons_zero, List.set_cons_succ]
            refine takeH 7 188 (v := ?vt293) rfl rfl (by kernel_rfl) (by kernel_rfl) (by kernel_rfl) (fun _ _ _ h => h) (Or.inl ⟨by rfl, ?ht293⟩) S21 ?rt293
            case ht293 => (intro w hSw; (try dsimp only at hSw); go_simp; (try with_reducible rfl))
            case rt293 =>
            try simp only [Act.put, List.setIfInBounds_toArray, List.set_cons_zero, List.set_cons_succ]
            refine wpAnyH_done (by kernel_rfl) ?_ _
            clear S21 hH0 CS
            go_upto_region 34 with fail
            have hR21 : NV v1 (pgT Rk) = some (page (ndOf h (itT Rk))) := by rw [(unhide J21).2.1, setN_other _ _ (fun e => hnP e.symm)]; exact stR.1
            have CQ := hide (qfree ((unhide J21).1.quiet (Only.refl _ w21).drew) hR21)
            refine wp_region_held_drew (S := (fun w' => NdAt w' g x ∧ w'.cell? ⟨q.f, 0, none⟩ = some (.pointer (some ⟨q.p, 0, none⟩)))) (by kernel_rfl) ⟨(unhide J21).2.2.1.drew, ((unhide J21).1.quiet (Only.refl _ w21).drew).ptr⟩ (fun hH0 => ?_)
            refine takeH 0 190 (v := ?vt294) rfl rfl (by kernel_rfl) (by kernel_rfl) (by kernel_rfl) (fun _ _ _ h => h) (Or.inl ⟨by rfl, ?ht294⟩) hH0 ?rt294
            case ht294 => (intro w hSw; (try dsimp only at hSw); go_simp; (try with_reducible rfl))
            case rt294 =>
            try simp only [Act.put, List.setIfInBounds_toArray, List.set_cons_zero, List.set_cons_succ]
            refine takeH 1 191 (v := ?vt295) rfl rfl (by kernel_rfl) (by kernel_rfl) (by kernel_rfl) (fun _ _ _ h => h) (Or.inl ⟨by rfl, ?ht295⟩) hH0 ?rt295
            case ht295 => (intro w hSw; (try dsimp only at hSw); go_simp; (try with_reducible rfl))
            case rt295 =>
            try simp only [Act.put, List.setIfInBounds_toArray, List.set_cons_zero, List.set_cons_succ]
            refine takeH 2 192 (v := ?vt296) rfl rfl (by kernel_rfl) (by kernel_rfl) (by kernel_rfl) (fun _ _ _ h => h) (Or.inl ⟨by rfl, ?ht296⟩) hH0 ?rt296
            case ht296 => (intro w hSw; (try dsimp only at hSw); go_simp; (try with_reducible rfl))
            case rt296 =>
            try simp only [Act.put, List.setIfInBounds_toArray, List.set_cons_zero, List.set_cons_succ]
            refine takeH 3 193 (v := ?vt297) rfl rfl (by kernel_rfl) (by kernel_rfl) (by kernel_rfl) (fun _ _ _ h => h) (Or.inl ⟨by rfl, ?ht297⟩) hH0 ?rt297
            case ht297 => (intro w hSw; have q1 := hSw.2; clear hSw; go_simp; (try with_reducible rfl))
            case rt297 =>
            try simp only [Act.put, List.setIfInBounds_toArray, List.set_cons_zero, List.set_cons_succ]
            refine takeH 4 194 (v := ?vt298) rfl rfl (by kernel_rfl) (by kernel_rfl) (by kernel_rfl) (fun _ _ _ h => h) (Or.inl ⟨by rfl, ?ht298⟩) hH0 ?rt298
            case ht298 => (intro w hSw; (try dsimp only at hSw); go_simp; (try with_reducible rfl))
            case rt298 =>
            try simp only [Act.put, List.setIfInBounds_toArray, List.set_cons_zero, List.set_cons_succ]
            refine takeH 5 195 (v := ?vt299) rfl rfl (by kernel_rfl) (by kernel_rfl) (by kernel_rfl) (fun _ _ _ h => h) (Or.inl ⟨by rfl, ?ht299⟩) hH0 ?rt299
            case ht299 => (intro w hSw; (try dsimp only at hSw); go_simp; (try with_reducible rfl))
            case rt299 =>
            try simp only [Act.put, List.setIfInBounds_toArray, List.set_cons_zero, List.set_cons_succ]
            refine takeH 6 196 (v := ?vt300) rfl rfl (by kernel_rfl) (by kernel_rfl) (by kernel_rfl) (fun _ _ _ h => h) (Or.inl ⟨by rfl, ?ht300⟩) hH0 ?rt300
            case ht300 => (intro w hSw; (try dsimp only at hSw); go_simp; (try with_reducible rfl))
            case rt300 =>
            try simp only [Act.put, List.setIfInBounds_toArray, List.set_cons_zero, List.set_cons_succ]
            refine takeH 7 197 (v := ?vt301) rfl rfl (by kernel_rfl) (by kernel_rfl) (by kernel_rfl) (fun _ _ _ h => h) (Or.inl ⟨by rfl, ?ht301⟩) hH0 ?rt301
            case ht301 => (intro w hSw; (try dsimp only at hSw); go_simp; (try with_reducible rfl))
            case rt301 =>
            try simp only [Act.put, List.setIfInBounds_toArray, List.set_cons_zero, List.set_cons_succ]
            refine takeH 8 198 (v := ?vt302) rfl rfl (by kernel_rfl) (by kernel_rfl) (by kernel_rfl) (fun _ _ _ h => h) (Or.inl ⟨by rfl, ?ht302⟩) hH0 ?rt302
            case ht302 => (intro w hSw; have q1 : w.cell? ⟨g, 10 + (c + 1), none⟩ = some (.int .i64 (pgT Rk : Int)) := (by rw [← hC2]; exact (NdAt.kid hSw.1 (c + 1) (by omega)).1); clear hSw; go_simp; (try with_reducible rfl))
            case rt302 =>
            try simp only [Act.put, List.setIfInBounds_toArray, List.set_cons_zero, List.set_cons_succ]
            refine callH 9 (by kernel_rfl) rfl 199 rfl rfl 308 Tryz.func308 (by kernel_rfl) (by kernel_rfl) #[.tmp 193, .tmp 198] #[63, 3] rfl #[.pointer (some ⟨q.p, 0, none⟩), .int .i64 (pgT Rk)] (by simp [Act.eval]) (R := fun v w' => v = .int .i64 0 ∧ (∃ view', FA q w' true view' ∧ NV view' = setN (NV v1) (pgT Rk) none) ∧ Only q.S w21.drew w') ((unhide CQ).mono (by rintro en w' ⟨rfl, h1, h2⟩; exact ⟨_, rfl, rfl, h1, h2⟩)) ?kcq
            case kcq =>
            rintro _ w22 ⟨rfl, ⟨v2, A22, e22⟩, o22⟩
            have S22 := (show _ ∧ _ from ⟨NdAt.keep hH0.1 o22 nSg, A22.ptr⟩)
            have J22 := hide (And.intro A22 (And.intro e22 (And.intro S22.1 (And.intro ((unhide J21).2.2.2.1.drew.keep o22 nSp) ((unhide J21).2.2.2.2.drew.qt o22)))))
            refine ⟨S22, ?_⟩
            clear A22 e22 o22
            try simp only [Act.put, List.setIfInBounds_toArray, List.set_cons_zero, List.set_cons_succ]
            refine takeH 10 200 (v := ?vt303) rfl rfl (by kernel_rfl) (by kernel_rfl) (by kernel_rfl) (fun _ _ _ h => h) (Or.inl ⟨by rfl, ?ht303⟩) S22 ?rt303
            case ht303 => (intro w hSw; (try dsimp only at hSw); go_simp; (try with_reducible rfl))
            case rt303 =>
            try simp only [Act.put, List.setIfInBounds_toArray, List.set_cons_zero, List.set_cons_succ]
            refine wpAnyH_done (by kernel_rfl) ?_ _
            clear S22 hH0 CQ
            have CI := hide (innerCut_any x c i1 (by omega) w22)
            go_wp2_with (first | (refine wpList_load_nd rfl _ rfl g rfl (unhide J22).2.2.1 ?_))
            refine (unhide CI).mono ?_
            rintro e w23 ⟨y, rfl, hy, o23⟩
            have P23 := hide ((unhide J22).2.2.2.1.keep o23 (fun h => h))
            have J23 := hide (And.intro ((unhide J22).1.quiet o23) (And.intro ((unhide J22).2.2.2.2.q0 o23) hy))
            clear o23 hy CI
            go_wp2_with (first | (refine wpList_store_nd rfl _ _ rfl p y rfl rfl (unhide P23) ?_; intro w24 n24 o24))
            refine bodyPost_ret (res2_nd Tryz.results342 _ rfl n24) rfl ?_
            have M := (unhide HP).merge ⟨by have := unhide HNL; have := unhide HNR; have := unhide CL3; omega, by have := unhide HNL; have := unhide HNR; have := unhide CL3; omega⟩
            rw [← (unhide J21).2.1, ← (unhide J22).2.1] at M
            have as_ := unhide HAS
            unfold MendPost
            rw [as_]
            exact ⟨y, v2, _, _, rfl, rep_cut (L' := mkT (pgT m) (itT m ++ itT Rk)) (unhide RXP) pxs (unhide J23).2.2 rfl, M, (unhide J23).1.loc AF gp0 o24, (unhide J23).2.1.qn o24 gp0⟩
  · obtain ⟨s0, Lk⟩ := e0
    rw [List.concat_eq_append] at hxs
    obtain ⟨c', hc'⟩ : ∃ c', xs'.length = c' := ⟨_, rfl⟩
    have hxl : c = c' + 1 := by rw [← unhide HC, hxs, ← hc']; simp
    obtain ⟨rl, hl2⟩ := unhide LF xs' s0 Lk hxs
    have T' := T
    rw [hxs] at T'
    have HP := hide T'.left
    have RXp := unhide RX
    have hassoc : xs ++ (s1, m) :: ys = xs' ++ (s0, Lk) :: (s1, m) :: ys := by rw [hxs]; simp
    have HAS := hide hassoc
    rw [hassoc] at RXp
    have hKc : x.K c' = s1 := RepI.s RXp c' (s1, pgT m) (by rw [pk_app, pk_cons, pk_cons, ← hc', ← pk_len xs']; simp)
    have hCl := kid_at RXp
    rw [hc'] at hCl
    have hCm : x.C (c' + 1) = pgT m := by rw [← hxl]; exact hC
    have a1 : decide ((c : Int) > 0) = true := decide_eq_true (by omega)
    have a1' : decide (0 < (c : Int)) = true := decide_eq_true (by omega)
    have a1p : 0 < (c : Int) := by omega
    have em : (c : Int) - 1 = (c' : Int) := by omega
    have i1 : c' + 1 < x.n := by omega
    have RXP := hide RXp
    have RNL := hide rl
    have RNR := RM
    have pxs := hc'
    have CXs := hide hxl
    have c4 : (c' : Int) < 4 := by omega
    have c5 : (c' : Int) < 5 := by omega
    have c15 : (c' : Int) + 1 < 5 := by omega
    clear hxs T' RXp hassoc rl hxl hc'
    as_aux_lemma =>
      have hnl := (unhide RNL).n
      have hnr := (unhide RNR).n
      have cl3 : xl.n + xm.n = 3 := by omega
      have c00 : (0 : Int) ≤ (c' : Int) := by omega
      have c10 : (0 : Int) ≤ (c' : Int) + 1 := by omega
      have cw : IntKind.i64.wrap (c' : Int) = (c' : Int) := by rw [IntWalk.i64_in]; omega
      have cw1 : IntKind.i64.wrap ((c' : Int) + 1) = (c' : Int) + 1 := by rw [IntWalk.i64_in]; omega
      go_upto_region 29 with (first | (refine wpList_load_nd rfl _ rfl bm rfl (unhide I10).2.2.1 ?_) | (refine wpList_store_nd rfl _ _ rfl br xm rfl rfl (unhide I10).2.2.2.2.1 ?_; intro w20 n20 o20))
      have I20 := hide (And.intro ((unhide I10).1.keep o20 (fun e => by omega)) (And.intro ((unhide I10).2.1.keep o20 (fun e => by omega)) (And.intro ((unhide I10).2.2.2.1.keep o20 (fun e => by omega)) (And.intro n20 (And.intro ((unhide I10).2.2.2.2.2.1.qn o20 gr0) ((unhide I10).2.2.2.2.2.2.1.loc AF gr0 o20))))))
      clear n20 o20 I10
      have cxn := (unhide I20).1.num.1
      have cln := (unhide I20).2.2.1.num.1
      have crn := (unhide I20).2.2.2.1.num.1
      have b1 : ¬ ((x.n : Int) ≤ (c' : Int) + 1) := by omega
      have b1' : (c' : Int) + 1 < (x.n : Int) := by omega
      have b1d : decide ((c' : Int) + 1 ≥ (x.n : Int)) = false := decide_eq_false (by omega)
      have b2 : ¬ ((mx h : Int) < (xl.n : Int) + (xm.n : Int)) := by omega
      have b2d : decide ((xl.n : Int) + (xm.n : Int) > (mx h : Int)) = false := decide_eq_false (by omega)
      have HNL := hide hnl
      have HNR := hide hnr
      have CL3 := hide cl3
      clear hnl hnr cl3
      go_upto_region 31 with fail
      clear cxn cln crn b1 b1' b1d b2 b2d
      have CF := hide (fun w => join_rep (sep := s1) (unhide RNL) (unhide RNR) (by have := unhide HNL; omega) (by have := unhide HNR; omega) (by have := unhide HNL; have := unhide HNR; have := unhide CL3; omega) (unhide HP).heads w)
      go_cut [21] (fun s21 wx => ∃ (gz : Nat) (z : Node), s21 = .pointer (some ⟨gz, 0, none⟩) ∧ NdAt wx gz z ∧ Rep h z (itT Lk ++ itT m) ∧ br < gz ∧ NdAt wx g x ∧ NdAt wx p nd0 ∧ Only q.S w wx ∧ FA q wx true view)
      case first =>
        have hbr := Has.lt (unhide I20).2.2.2.1
        have szd : w20.drew.heap.size = w20.heap.size := rfl
        as_aux_lemma =>
          refine wp_region_held_drew (S := (fun w' => NdAt w' g x ∧ NdAt w' bl xl ∧ NdAt w' br xm)) (by kernel_rfl) ⟨(unhide I20).1.drew, (unhide I20).2.2.1.drew, (unhide I20).2.2.2.1.drew⟩ (fun hH0 => ?_)
          refine takeH 0 174 rfl rfl (by kernel_rfl) (by kernel_rfl) (by kernel_rfl) (fun _ _ _ h => h) (yieldsIf_load_nd (by rfl) _ rfl bl rfl xl (fun _ h => h.2.1)) hH0 ?rt304
          case rt304 =>
          try simp only [Act.put, List.setIfInBounds_toArray, List.set_cons_zero, List.set_cons_succ]
          refine takeH 1 175 rfl rfl (by kernel_rfl) (by kernel_rfl) (by kernel_rfl) (fun _ _ _ h => h) (yieldsIf_load_nd (by rfl) _ rfl br rfl xm (fun _ h => h.2.2)) hH0 ?rt305
          case rt305 =>
          try simp only [Act.put, List.setIfInBounds_toArray, List.set_cons_zero, List.set_cons_succ]
          refine takeH 2 176 (v := ?vt306) rfl rfl (by kernel_rfl) (by kernel_rfl) (by kernel_rfl) (fun _ _ _ h => h) (Or.inl ⟨by rfl, ?ht306⟩) hH0 ?rt306
          case ht306 => (intro w hSw; (try dsimp only at hSw); go_simp; (try with_reducible rfl))
          case rt306 =>
          try simp only [Act.put, List.setIfInBounds_toArray, List.set_cons_zero, List.set_cons_succ]
          refine takeH 3 177 (v := ?vt307) rfl rfl (by kernel_rfl) (by kernel_rfl) (by kernel_rfl) (fun _ _ _ h => h) (Or.inl ⟨by rfl, ?ht307⟩) hH0 ?rt307
          case ht307 => (intro w hSw; (try dsimp only at hSw); go_simp; (try with_reducible rfl))
          case rt307 =>
          try simp only [Act.put, List.setIfInBounds_toArray, List.set_cons_zero, List.set_cons_succ]
          refine takeH 4 178 (v := ?vt308) rfl rfl (by kernel_rfl) (by kernel_rfl) (by kernel_rfl) (fun _ _ _ h => h) (Or.inl ⟨by rfl, ?ht308⟩) hH0 ?rt308
          case ht308 => (intro w hSw; (try dsimp only at hSw); go_simp; (try with_reducible rfl))
          case rt308 =>
          try simp only [Act.put, List.setIfInBounds_toArray, List.set_cons_zero, List.set_cons_succ]
          refine takeH 5 179 (v := ?vt309) rfl rfl (by kernel_rfl) (by kernel_rfl) (by kernel_rfl) (fun _ _ _ h => h) (Or.inl ⟨by rfl, ?ht309⟩) hH0 ?rt309
          case ht309 => (intro w hSw; have q1 := (NdAt.key hSw.1 c' (by omega)).1; rw [hKc] at q1; clear hSw; go_simp; (try with_reducible rfl))
          case rt309 =>
          try simp only [Act.put, List.setIfInBounds_toArray, List.set_cons_zero, List.set_cons_succ]
          refine callAllocH 6 7 (by kernel_rfl) rfl 180 rfl rfl 355 Tryz.func355 (by kernel_rfl) (by kernel_rfl) #[.tmp 174, .tmp 175, .tmp 179] #[218, 218, 9] rfl #[ndA xl, ndA xm, .string s1] (by simp [Act.eval]) (R := fun v w' => ∃ z, v = ndA z ∧ Rep h z (itT Lk ++ itT m) ∧ Only (fun _ => False) w20.drew w') ((unhide CF w20.drew).mono (by rintro en w' ⟨z, rfl, h1, h2⟩; exact ⟨_, rfl, z, rfl, h1, h2⟩)) rfl 21 rfl rfl rfl ?k310 ?k311
          case k310 =>
            rintro _ w312 ⟨z, rfl, hyy, oo⟩
            have oc314 : Only (fun _ => False) w20.drew w312 := oo
            have hS313 := (show _ ∧ _ ∧ _ from ⟨NdAt.keep hH0.1 oo (fun e => e), NdAt.keep hH0.2.1 oo (fun e => e), NdAt.keep hH0.2.2 oo (fun e => e)⟩)
            have zw312 := oo.size
            refine ⟨hS313, ?_⟩
            clear oo
            try simp only [Act.put, List.setIfInBounds_toArray, List.set_cons_zero, List.set_cons_succ]
            refine allocH 7 (by kernel_rfl) rfl 21 rfl rfl rfl ?k315
            case k315 =>
              intro ga w316 nga gga oo
              have oc318 : Only (fun _ => False) w20.drew w316 := oc314.q0 oo
              have hS317 := (show _ ∧ _ ∧ _ from ⟨NdAt.keep hS313.1 oo (fun e => e), NdAt.keep hS313.2.1 oo (fun e => e), NdAt.keep hS313.2.2 oo (fun e => e)⟩)
              have zw316 := oo.size
              refine ⟨hS317, ?_⟩
              clear oo
              try simp only [Act.put, List.setIfInBounds_toArray, List.set_cons_zero, List.set_cons_succ]
              have wsz := oc318.size
              have hltga := Has.lt nga
              refine storeH_nd 8 (by kernel_rfl) rfl rfl rfl _ _ rfl ga z nd0 rfl rfl nga ?_
              intro w319 na oa
              have hSa := (show _ ∧ _ ∧ _ from ⟨NdAt.keep hS317.1 oa (fun e => by omega), NdAt.keep hS317.2.1 oa (fun e => by omega), NdAt.keep hS317.2.2 oa (fun e => by omega)⟩)
              refine ⟨hSa, ?_⟩
              try simp only [Act.put, List.setIfInBounds_toArray, List.set_cons_zero, List.set_cons_succ]
              refine wpAnyH_done (by kernel_rfl) ?_ _
              have FF := hide (And.intro na (And.intro hyy (And.intro oc318 (And.intro oa hSa))))
              go_wp2_with fail
              go_meet
              case rel =>
                obtain ⟨na, hyy, oc, oa, hS⟩ := unhide FF
                have B0 := (unhide I20)
                have T1 : Only q.S w _ := (B0.2.2.2.2.1.drew.q0 oc).qn oa (by omega)
                have A1 := ((B0.2.2.2.2.2.quiet (Only.refl _ _).drew).quiet oc).loc AF (by omega) oa
                have P1 := ((B0.2.1.drew.keep oc (fun h => h)).keep oa (fun e => by omega))
                exact ⟨ga, z, rfl, na, hyy, by omega, hS.1, P1, T1, A1⟩
          case k311 =>
            intro ga w320 nga gga oo
            have oc322 : Only (fun _ => False) w20.drew w320 := oo
            have hS321 := (show _ ∧ _ ∧ _ from ⟨NdAt.keep hH0.1 oo (fun e => e), NdAt.keep hH0.2.1 oo (fun e => e), NdAt.keep hH0.2.2 oo (fun e => e)⟩)
            have zw320 := oo.size
            refine ⟨hS321, ?_⟩
            clear oo
            try simp only [Act.put, List.setIfInBounds_toArray, List.set_cons_zero, List.set_cons_succ]
            refine callH 6 (by kernel_rfl) rfl 180 rfl rfl 355 Tryz.func355 (by kernel_rfl) (by kernel_rfl) #[.tmp 174, .tmp 175, .tmp 179] #[218, 218, 9] rfl #[ndA xl, ndA xm, .string s1] (by simp [Act.eval]) (R := fun v w' => ∃ z, v = ndA z ∧ Rep h z (itT Lk ++ itT m) ∧ Only (fun _ => False) w320 w') ((unhide CF w320).mono (by rintro en w' ⟨z, rfl, h1, h2⟩; exact ⟨_, rfl, z, rfl, h1, h2⟩)) ?k323
            case k323 =>
              rintro _ w324 ⟨z, rfl, hyy, oo⟩
              have oc326 : Only (fun _ => False) w20.drew w324 := oc322.q0 oo
              have lnk327 := Has.lt nga
              have nk327 := nga.keep oo (fun h => h)
              have hS325 := (show _ ∧ _ ∧ _ from ⟨NdAt.keep hS321.1 oo (fun e => e), NdAt.keep hS321.2.1 oo (fun e => e), NdAt.keep hS321.2.2 oo (fun e => e)⟩)
              have zw324 := oo.size
              refine ⟨hS325, ?_⟩
              clear oo
              try simp only [Act.put, List.setIfInBounds_toArray, List.set_cons_zero, List.set_cons_succ]
              have wsz := oc326.size
              have hltga := Has.lt nk327
              refine storeH_nd 8 (by kernel_rfl) rfl rfl rfl _ _ rfl ga z nd0 rfl rfl nk327 ?_
              intro w328 na oa
              have hSa := (show _ ∧ _ ∧ _ from ⟨NdAt.keep hS325.1 oa (fun e => by omega), NdAt.keep hS325.2.1 oa (fun e => by omega), NdAt.keep hS325.2.2 oa (fun e => by omega)⟩)
              refine ⟨hSa, ?_⟩
              try simp only [Act.put, List.setIfInBounds_toArray, List.set_cons_zero, List.set_cons_succ]
              refine wpAnyH_done (by kernel_rfl) ?_ _
              have FF := hide (And.intro na (And.intro hyy (And.intro oc326 (And.intro oa hSa))))
              go_wp2_with fail
              go_meet
              case rel =>
                obtain ⟨na, hyy, oc, oa, hS⟩ := unhide FF
                have B0 := (unhide I20)
                have T1 : Only q.S w _ := (B0.2.2.2.2.1.drew.q0 oc).qn oa (by omega)
                have A1 := ((B0.2.2.2.2.2.quiet (Only.refl _ _).drew).quiet oc).loc AF (by omega) oa
                have P1 := ((B0.2.1.drew.keep oc (fun h => h)).keep oa (fun e => by omega))
                exact ⟨ga, z, rfl, na, hyy, by omega, hS.1, P1, T1, A1⟩
      case rest =>
        obtain ⟨gz, z, rfl, J1⟩ := hcut
        as_aux_lemma =>
          have hgz := J1.2.2.1
          have gz0 : w.heap.size ≤ gz := by omega
          have nSz := AF.nS gz0
          have J1 := hide J1
          have hnP := (unhide HP).nds.1
          have stL : Sto (NV view) (h + 1) Lk := (unhide HP).st (s0, Lk) (by simp)
          have stR : Sto (NV view) (h + 1) m := (unhide HP).st (s1, m) (by simp)
          have fz : Fits h (itT Lk ++ itT m) := (unhide HP).fits (fun f hf => List.mem_append.mp hf) (by have := unhide HNL; have := unhide HNR; have := unhide CL3; simp; omega) (by have := unhide HNL; have := unhide HNR; have := unhide CL3; simp; omega)
          have CS := hide (store_any ((unhide J1).2.2.2.2.2.2.quiet (Only.refl _ wc).drew) stL.1 (unhide J1).2.1 fz)
          go_upto_region 32 with fail
          refine wp_region_held_drew (S := (fun w' => NdAt w' g x ∧ NdAt w' gz z)) (by kernel_rfl) ⟨(unhide J1).2.2.2.1.drew, (unhide J1).1.drew⟩ (fun hH0 => ?_)
          refine takeH 0 181 (v := ?vt329) rfl rfl (by kernel_rfl) (by kernel_rfl) (by kernel_rfl) (fun _ _ _ h => h) (Or.inl ⟨by rfl, ?ht329⟩) hH0 ?rt329
          case ht329 => (intro w hSw; (try dsimp only at hSw); go_simp; (try with_reducible rfl))
          case rt329 =>
          try simp only [Act.put, List.setIfInBounds_toArray, List.set_cons_zero, List.set_cons_succ]
          refine takeH 1 182 (v := ?vt330) rfl rfl (by kernel_rfl) (by kernel_rfl) (by kernel_rfl) (fun _ _ _ h => h) (Or.inl ⟨by rfl, ?ht330⟩) hH0 ?rt330
          case ht330 => (intro w hSw; (try dsimp only at hSw); go_simp; (try with_reducible rfl))
          case rt330 =>
          try simp only [Act.put, List.setIfInBounds_toArray, List.set_cons_zero, List.set_cons_succ]
          refine takeH 2 183 (v := ?vt331) rfl rfl (by kernel_rfl) (by kernel_rfl) (by kernel_rfl) (fun _ _ _ h => h) (Or.inl ⟨by rfl, ?ht331⟩) hH0 ?rt331
          case ht331 => (intro w hSw; (try dsimp only at hSw); go_simp; (try with_reducible rfl))
          case rt331 =>
          try simp only [Act.put, List.setIfInBounds_toArray, List.set_cons_zero, List.set_cons_succ]
          refine takeH 3 184 (v := ?vt332) rfl rfl (by kernel_rfl) (by kernel_rfl) (by kernel_rfl) (fun _ _ _ h => h) (Or.inl ⟨by rfl, ?ht332⟩) hH0 ?rt332
          case ht332 => (intro w hSw; (try dsimp only at hSw); go_simp; (try with_reducible rfl))
          case rt332 =>
          try simp only [Act.put, List.setIfInBounds_toArray, List.set_cons_zero, List.set_cons_succ]
          refine takeH 4 185 (v := ?vt333) rfl rfl (by kernel_rfl) (by kernel_rfl) (by kernel_rfl) (fun _ _ _ h => h) (Or.inl ⟨by rfl, ?ht333⟩) hH0 ?rt333
          case ht333 => (intro w hSw; have q1 : w.cell? ⟨g, 10 + c', none⟩ = some (.int .i64 (pgT Lk : Int)) := (by rw [← hCl]; exact (NdAt.kid hSw.1 c' (by omega)).1); clear hSw; go_simp; (try with_reducible rfl))
          case rt333 =>
          try simp only [Act.put, List.setIfInBounds_toArray, List.set_cons_zero, List.set_cons_succ]
          refine takeH 5 186 rfl rfl (by kernel_rfl) (by kernel_rfl) (by kernel_rfl) (fun _ _ _ h => h) (yieldsIf_load_nd (by rfl) _ rfl gz rfl z (fun _ h => h.2)) hH0 ?rt334
          case rt334 =>
          try simp only [Act.put, List.setIfInBounds_toArray, List.set_cons_zero, List.set_cons_succ]
          refine callH 6 (by kernel_rfl) rfl 187 rfl rfl 152 Tryz.func152 (by kernel_rfl) (by kernel_rfl) #[.tmp 181, .tmp 185, .tmp 186] #[65, 3, 218] rfl #[.pointer (some ⟨q.f, 0, none⟩), .int .i64 (pgT Lk), ndA z] (by simp [Act.eval]) (R := fun v w' => v = .int .i64 0 ∧ (∃ view', FA q w' true view' ∧ NV view' = setN (NV view) (pgT Lk) (some (page (ndOf h (itT Lk ++ itT m))))) ∧ Only q.S wc.drew w') ((unhide CS).mono (by rintro en w' ⟨rfl, h1, h2⟩; exact ⟨_, rfl, rfl, h1, h2⟩)) ?kcs
          case kcs =>
          rintro _ w21 ⟨rfl, ⟨v1, A21, e21⟩, o21⟩
          have S21 := (show _ ∧ _ from ⟨NdAt.keep hH0.1 o21 nSg, NdAt.keep hH0.2 o21 nSz⟩)
          have J21 := hide (And.intro A21 (And.intro e21 (And.intro S21.1 (And.intro ((unhide J1).2.2.2.2.1.drew.keep o21 nSp) ((unhide J1).2.2.2.2.2.1.drew.qt o21)))))
          refine ⟨S21, ?_⟩
          clear A21 e21 o21
          try simp only [Act.put, List.setIfInBounds_toArray, List.set_cons_zero, List.set_cons_succ]
          refine takeH 7 188 (v := ?vt335) rfl rfl (by kernel_rfl) (by kernel_rfl) (by kernel_rfl) (fun _ _ _ h => h) (Or.inl ⟨by rfl, ?ht335⟩) S21 ?rt335
          case ht335 => (intro w hSw; (try dsimp only at hSw); go_simp; (try with_reducible rfl))
          case rt335 =>
          try simp only [Act.put, List.setIfInBounds_toArray, List.set_cons_zero, List.set_cons_succ]
          refine wpAnyH_done (by kernel_rfl) ?_ _
          clear S21 hH0 CS
          go_upto_region 34 with fail
          have hR21 : NV v1 (pgT m) = some (page (ndOf h (itT m))) := by rw [(unhide J21).2.1, setN_other _ _ (fun e => hnP e.symm)]; exact stR.1
          have CQ := hide (qfree ((unhide J21).1.quiet (Only.refl _ w21).drew) hR21)
          refine wp_region_held_drew (S := (fun w' => NdAt w' g x ∧ w'.cell? ⟨q.f, 0, none⟩ = some (.pointer (some ⟨q.p, 0, none⟩)))) (by kernel_rfl) ⟨(unhide J21).2.2.1.drew, ((unhide J21).1.quiet (Only.refl _ w21).drew).ptr⟩ (fun hH0 => ?_)
          refine takeH 0 190 (v := ?vt336) rfl rfl (by kernel_rfl) (by kernel_rfl) (by kernel_rfl) (fun _ _ _ h => h) (Or.inl ⟨by rfl, ?ht336⟩) hH0 ?rt336
          case ht336 => (intro w hSw; (try dsimp only at hSw); go_simp; (try with_reducible rfl))
          case rt336 =>
          try simp only [Act.put, List.setIfInBounds_toArray, List.set_cons_zero, List.set_cons_succ]
          refine takeH 1 191 (v := ?vt337) rfl rfl (by kernel_rfl) (by kernel_rfl) (by kernel_rfl) (fun _ _ _ h => h) (Or.inl ⟨by rfl, ?ht337⟩) hH0 ?rt337
          case ht337 => (intro w hSw; (try dsimp only at hSw); go_simp; (try with_reducible rfl))
          case rt337 =>
          try simp only [Act.put, List.setIfInBounds_toArray, List.set_cons_zero, List.set_cons_succ]
          refine takeH 2 192 (v := ?vt338) rfl rfl (by kernel_rfl) (by kernel_rfl) (by kernel_rfl) (fun _ _ _ h => h) (Or.inl ⟨by rfl, ?ht338⟩) hH0 ?rt338
          case ht338 => (intro w hSw; (try dsimp only at hSw); go_simp; (try with_reducible rfl))
          case rt338 =>
          try simp only [Act.put, List.setIfInBounds_toArray, List.set_cons_zero, List.set_cons_succ]
          refine takeH 3 193 (v := ?vt339) rfl rfl (by kernel_rfl) (by kernel_rfl) (by kernel_rfl) (fun _ _ _ h => h) (Or.inl ⟨by rfl, ?ht339⟩) hH0 ?rt339
          case ht339 => (intro w hSw; have q1 := hSw.2; clear hSw; go_simp; (try with_reducible rfl))
          case rt339 =>
          try simp only [Act.put, List.setIfInBounds_toArray, List.set_cons_zero, List.set_cons_succ]
          refine takeH 4 194 (v := ?vt340) rfl rfl (by kernel_rfl) (by kernel_rfl) (by kernel_rfl) (fun _ _ _ h => h) (Or.inl ⟨by rfl, ?ht340⟩) hH0 ?rt340
          case ht340 => (intro w hSw; (try dsimp only at hSw); go_simp; (try with_reducible rfl))
          case rt340 =>
          try simp only [Act.put, List.setIfInBounds_toArray, List.set_cons_zero, List.set_cons_succ]
          refine takeH 5 195 (v := ?vt341) rfl rfl (by kernel_rfl) (by kernel_rfl) (by kernel_rfl) (fun _ _ _ h => h) (Or.inl ⟨by rfl, ?ht341⟩) hH0 ?rt341
          case ht341 => (intro w hSw; (try dsimp only at hSw); go_simp; (try with_reducible rfl))
          case rt341 =>
          try simp only [Act.put, List.setIfInBounds_toArray, List.set_cons_zero, List.set_cons_succ]
          refine takeH 6 196 (v := ?vt342) rfl rfl (by kernel_rfl) (by kernel_rfl) (by kernel_rfl) (fun _ _ _ h => h) (Or.inl ⟨by rfl, ?ht342⟩) hH0 ?rt342
          case ht342 => (intro w hSw; (try dsimp only at hSw); go_simp; (try with_reducible rfl))
          case rt342 =>
          try simp only [Act.put, List.setIfInBounds_toArray, List.set_cons_zero, List.set_cons_succ]
          refine takeH 7 197 (v := ?vt343) rfl rfl (by kernel_rfl) (by kernel_rfl) (by kernel_rfl) (fun _ _ _ h => h) (Or.inl ⟨by rfl, ?ht343⟩) hH0 ?rt343
          case ht343 => (intro w hSw; (try dsimp only at hSw); go_simp; (try with_reducible rfl))
          case rt343 =>
          try simp only [Act.put, List.setIfInBounds_toArray, List.set_cons_zero, List.set_cons_succ]
          refine takeH 8 198 (v := ?vt344) rfl rfl (by kernel_rfl) (by kernel_rfl) (by kernel_rfl) (fun _ _ _ h => h) (Or.inl ⟨by rfl, ?ht344⟩) hH0 ?rt344
          case ht344 => (intro w hSw; have q1 : w.cell? ⟨g, 10 + (c' + 1), none⟩ = some (.int .i64 (pgT m : Int)) := (by rw [← hCm]; exact (NdAt.kid hSw.1 (c' + 1) (by omega)).1); clear hSw; go_simp; (try with_reducible rfl))
          case rt344 =>
          try simp only [Act.put, List.setIfInBounds_toArray, List.set_cons_zero, List.set_cons_succ]
          refine callH 9 (by kernel_rfl) rfl 199 rfl rfl 308 Tryz.func308 (by kernel_rfl) (by kernel_rfl) #[.tmp 193, .tmp 198] #[63, 3] rfl #[.pointer (some ⟨q.p, 0, none⟩), .int .i64 (pgT m)] (by simp [Act.eval]) (R := fun v w' => v = .int .i64 0 ∧ (∃ view', FA q w' true view' ∧ NV view' = setN (NV v1) (pgT m) none) ∧ Only q.S w21.drew w') ((unhide CQ).mono (by rintro en w' ⟨rfl, h1, h2⟩; exact ⟨_, rfl, rfl, h1, h2⟩)) ?kcq
          case kcq =>
          rintro _ w22 ⟨rfl, ⟨v2, A22, e22⟩, o22⟩
          have S22 := (show _ ∧ _ from ⟨NdAt.keep hH0.1 o22 nSg, A22.ptr⟩)
          have J22 := hide (And.intro A22 (And.intro e22 (And.intro S22.1 (And.intro ((unhide J21).2.2.2.1.drew.keep o22 nSp) ((unhide J21).2.2.2.2.drew.qt o22)))))
          refine ⟨S22, ?_⟩
          clear A22 e22 o22
          try simp only [Act.put, List.setIfInBounds_toArray, List.set_cons_zero, List.set_cons_succ]
          refine takeH 10 200 (v := ?vt345) rfl rfl (by kernel_rfl) (by kernel_rfl) (by kernel_rfl) (fun _ _ _ h => h) (Or.inl ⟨by rfl, ?ht345⟩) S22 ?rt345
          case ht345 => (intro w hSw; (try dsimp only at hSw); go_simp; (try with_reducible rfl))
          case rt345 =>
          try simp only [Act.put, List.setIfInBounds_toArray, List.set_cons_zero, List.set_cons_succ]
          refine wpAnyH_done (by kernel_rfl) ?_ _
          clear S22 hH0 CQ
          have CI := hide (innerCut_any x c' i1 (by omega) w22)
          go_wp2_with (first | (refine wpList_load_nd rfl _ rfl g rfl (unhide J22).2.2.1 ?_))
          refine (unhide CI).mono ?_
          rintro e w23 ⟨y, rfl, hy, o23⟩
          have P23 := hide ((unhide J22).2.2.2.1.keep o23 (fun h => h))
          have J23 := hide (And.intro ((unhide J22).1.quiet o23) (And.intro ((unhide J22).2.2.2.2.q0 o23) hy))
          clear o23 hy CI
          go_wp2_with (first | (refine wpList_store_nd rfl _ _ rfl p y rfl rfl (unhide P23) ?_; intro w24 n24 o24))
          refine bodyPost_ret (res2_nd Tryz.results342 _ rfl n24) rfl ?_
          have M := (unhide HP).merge ⟨by have := unhide HNL; have := unhide HNR; have := unhide CL3; omega, by have := unhide HNL; have := unhide HNR; have := unhide CL3; omega⟩
          rw [← (unhide J21).2.1, ← (unhide J22).2.1] at M
          have as_ := unhide HAS
          unfold MendPost
          rw [as_]
          exact ⟨y, v2, _, _, rfl, rep_cut (L' := mkT (pgT Lk) (itT Lk ++ itT m)) (unhide RXP) pxs (unhide J23).2.2 rfl, M, (unhide J23).1.loc AF gp0 o24, (unhide J23).2.1.qn o24 gp0⟩
end
end Go.Proofs.Qxb6500412aGreat
