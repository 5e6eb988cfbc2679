/-
  OWN WORK. THE DEFINITIONS: DiffLines, the walk.
-/
import Derived.Test.Qxb6500416aDDfM
namespace Go.Proofs.Qxb6500416a
open Go.RowKit Go.PlainAid
set_option linter.unusedSimpArgs false
set_option linter.unusedVariables false

theorem HkAt.end_ {la lb : List Str} {m : List Int} {out : List Hk} {i j : Nat} (h : HkAt la lb m out i i j) (hi : i = la.length) (hj : j = lb.length) : hkF la lb m 0 0 0 = out := by
  rw [h.fin hi]
  unfold gapH
  rw [if_neg (by omega), List.append_nil]
theorem gap_same {la lb : List Str} {i j : Nat} : gapH la lb i j i j = [] := by
  unfold gapH
  rw [if_neg (by omega)]
theorem HkAt.val {la lb : List Str} {m : List Int} {out : List Hk} {i pi pj : Nat} (h : HkAt la lb m out i pi pj) (hi : i < m.length) : m[i] = -1 ∨ ∃ k : Nat, m[i] = (k : Int) ∧ pj ≤ k ∧ k < lb.length := by
  rcases h.rise.at hi with ⟨e, _⟩ | ⟨k, e, h1, h2, _⟩
  · exact .inl e
  · exact .inr ⟨k, e, h1, h2⟩
theorem cutL_snoc' {A : List Str} {a b : Nat} {x : Str} (h : a ≤ b) (hb : b < A.length) (hx : x = A[b]) : cutL A a b ++ [x] = cutL A a (b + 1) := by rw [hx, cutL_snoc A a b h hb]
set_option maxRecDepth 100000 in
set_option maxHeartbeats 16000000 in
theorem diffLines_any {w : World} (v u : Value) (A B : List Str) (hA : LnIn w v A) (hB : LnIn w u B) (ha : A.length ≤ 2000) (hb : B.length ≤ 2000) :
    Calls Try.prog 42 #[v, u] w fun e w' => ∃ v', e = .returned v' ∧ (∃ hs, PatO w' v' hs (hkF A B (mtc A B 0) 0 0 0) (fun y => w.heap.size ≤ y)) ∧ Only (fun _ => False) w w' := by
  have C1 := hide (amatch_any v u A B hA hB ha hb)
  obtain ⟨aa, ca, rfl, hca⟩ := hA.parts
  obtain ⟨ba, cb, rfl, hcb⟩ := hB.parts
  have HA := hide hca
  have HB := hide hcb
  obtain ⟨i0, hi0, hz0, hz1, hz2⟩ := info_parts Try.infoStr
  obtain ⟨j0, hj0, hy0, hy1, hy2⟩ := info_parts Try.infoHunk
  have hrise := mtc_rise _ A B 0 (Nat.le_refl _)
  rw [Nat.zero_add] at hrise
  have hmlen := mtc_len _ A B 0 (Nat.le_refl _)
  have HK0 := hide (HkAt.start (lb := B) hmlen hrise)
  generalize mtc A B 0 = m at *
  generalize hR : hkF A B m 0 0 0 = R
  have HR := hide hR
  clear hca hcb hA hB hR hrise
  go_enter Try.func42, Try.ntmps42
  go_wp2_with fail
  refine (unhide C1).mono ?_
  rintro e w1 ⟨gm, rfl, hM, lgm, o1⟩
  have HM := hide hM
  have O1 := hide o1
  have gml := Has.lt hM
  have HP0 := hide (PI.nil w1)
  have s1 := o1.size
  clear hM o1 C1
  go_wp2_with fail
  go_loopw [6, 7, 8] (fun ov iv jv wr => ∃ (i j : Nat) (out : List Hk), iv = .int .i64 i ∧ jv = .int .i64 j ∧ HkAt A B m out i i j ∧ PI w1 ov out wr) (fun _ iv jv _ => (A.length - (intOf iv).toNat) + (B.length - (intOf jv).toNat))
  case atStart => exact ⟨0, 0, [], rfl, rfl, unhide HK0, unhide HP0⟩
  case round =>
    clear HK0 HP0
    obtain ⟨i, j, out, rfl, rfl, hK, hP⟩ := hrel
    have hil := hK.il
    have hjl := hK.pjle
    have hol := hK.len
    have hMr := (unhide HM).keep hP.ho (fun h => h)
    have gmr := Has.lt hMr
    by_cases hex : i < A.length ∨ j < B.length
    · by_cases hkeep : ∃ hm : i < m.length, m[i] = (j : Int)
      · obtain ⟨hm, he⟩ := hkeep
        have hi : i < A.length := by omega
        have t1 : decide ((i : Int) < (A.length : Int)) = true := decide_eq_true (by omega)
        have t1' : (i : Int) < (A.length : Int) := by omega
        have c0 := hMr.cell i hm
        rw [he] at c0
        have e1 : ((j : Int) == (j : Int)) = true := by simp
        have hN : HkAt A B m out (i + 1) (i + 1) (j + 1) := by
          obtain ⟨_, hc⟩ := hK.cases hi
          rcases hc with ⟨e, _⟩ | ⟨k, e, _, _, hq⟩
          · omega
          · have : k = j := by omega
            subst this
            rw [gap_same, List.append_nil] at hq
            exact hq
        have HN := hide hN
        have HP := hide hP
        have hjb : j < B.length := by
          rcases hK.val hm with e | ⟨k, e, _, h2⟩
          · omega
          · omega
        clear hK hP hMr hN he hex
        go_wp2_with fail
        go_roundw
        case rel => exact ⟨i + 1, j + 1, out, by go_num, by go_num, unhide HN, unhide HP⟩
        case measure => simp [intOf]; omega
      · have HP := hide hP
        have HK := hide hK
        have HMr := hide hMr
        have Hke := hide hkeep
        have Hex := hide hex
        have H0 := hide (HbI.start hP (i : Int))
        have ws := hP.ho.size
        clear hK hP hMr hkeep hex
        go_upto_region 5 with fail
        go_cut [23] (fun v wx => v = .bool true ∧ wr = wx)
        case first =>
          by_cases hi : i < A.length
          · have t1 : decide ((i : Int) < (A.length : Int)) = true := decide_eq_true (by omega)
            have t1n : decide (i < A.length) = true := decide_eq_true (by omega)
            go_wp2_with fail
            go_meet
            exact ⟨rfl, rfl⟩
          · have t1 : decide ((i : Int) < (A.length : Int)) = false := decide_eq_false (by omega)
            have t1n : decide (i < A.length) = false := decide_eq_false (by omega)
            have t2 : decide ((j : Int) < (B.length : Int)) = true := decide_eq_true (by have := unhide Hex; omega)
            have t2n : decide (j < B.length) = true := decide_eq_true (by have := unhide Hex; omega)
            go_wp2_with fail
            go_meet
            exact ⟨by first | rfl | rw [t2n], rfl⟩
        case rest =>
        obtain ⟨rfl, rfl⟩ := hcut
        go_upto_region 6 with fail
        go_cut [35] (fun v wx => v = .bool false ∧ wr = wx)
        case first =>
          by_cases hi : i < A.length
          · have t1 : decide ((i : Int) < (A.length : Int)) = true := decide_eq_true (by omega)
            have t1n : decide (i < A.length) = true := decide_eq_true (by omega)
            have t1' : (i : Int) < (A.length : Int) := by omega
            have hm : i < m.length := by omega
            have c0 := (unhide HMr).cell i hm
            have e1 : (m[i] == (j : Int)) = false := by
              have := unhide Hke
              simp only [not_exists] at this
              simpa using this hm
            generalize m[i] = mi at *
            go_wp2_with fail
            go_meet
            exact ⟨rfl, rfl⟩
          · have t1 : decide ((i : Int) < (A.length : Int)) = false := decide_eq_false (by omega)
            have t1n : decide (i < A.length) = false := decide_eq_false (by omega)
            go_wp2_with fail
            go_meet
            exact ⟨rfl, rfl⟩
        case rest =>
        obtain ⟨rfl, rfl⟩ := hcut
        go_wp2_with fail
        obtain ⟨H0_, hH0⟩ : ∃ H0_, H0_ = wr.heap.size := ⟨_, rfl⟩
        rw [← hH0] at H0
        rw [← hH0]
        generalize wr.alloc (.cells #[.int .i64 (i : Int), .slice none 0 0, .slice none 0 0] 62) = WH at *
        have wsH : w1.heap.size ≤ H0_ := by omega
        clear hH0 HMr
        go_loopw [7] (fun iv wr => ∃ (i' : Nat) (dv : Value), iv = .int .i64 i' ∧ i ≤ i' ∧ HkAt A B m out i' i j ∧ HbI w1 H0_ H0_ (i : Int) dv (.slice none 0 0) (cutL A i i') [] u6 out wr) (fun iv _ => A.length - (intOf iv).toNat)
        case atStart => exact ⟨i, _, rfl, by omega, unhide HK, by rw [cutL_same]; exact unhide H0⟩
        case round =>
          clear H0 HP
          obtain ⟨i', dv, rfl, hii, hK, hI⟩ := hrel
          have hil' := hK.il
          have hMr := (unhide HM).keep hI.ho (fun h => h)
          have gmr := Has.lt hMr
          by_cases hneg : ∃ hm : i' < m.length, m[i'] = -1
          · obtain ⟨hm, he⟩ := hneg
            have hi : i' < A.length := by omega
            have t1 : decide ((i' : Int) < (A.length : Int)) = true := decide_eq_true (by omega)
            have t1n : decide (i' < A.length) = true := decide_eq_true (by omega)
            have t1' : (i' : Int) < (A.length : Int) := by omega
            have c0 := hMr.cell i' hm
            rw [he] at c0
            have hN1 : HkAt A B m out (i' + 1) i j := by
              obtain ⟨_, hc⟩ := hK.cases hi
              rcases hc with ⟨_, hq⟩ | ⟨k, e, _, _, _⟩
              · exact hq
              · omega
            have HN1 := hide hN1
            have hcl : (cutL A i i').length ≤ 2000 := by rw [cutL_len A i i' hii hil']; omega
            have hcs := cutL_snoc A i i' hii hi
            have Hcs := hide hcs
            obtain ⟨ga, rfl, hga, x0⟩ := LnIn.get (unhide HA) ((unhide O1).trans hI.ho (fun _ _ h => h)) i' hi
            have hxs : Value.string (sb A[i']) = .string (sb A[i']) := rfl
            obtain ⟨da, dc, edv⟩ := ownsRow_shape hI.d.row
            subst edv
            generalize hDD : cutL A i i' = D at *
            generalize hax : A[i'] = ax at *
            generalize hsx : sb ax = xs at *
            have hxs : xs = sb ax := hsx.symm
            clear hsx hK hMr hcs hDD hax he
            have own1 : wr.ownsRow 0 9 1 (.slice da D.length dc) D.length (lineV D) := hI.d.row
            have hx0 := hI.h.cell 1
            have hEd : Has (wr.alloc (.cells #[.string xs] 9)).drew H0_ _ 62 := hI.h.keep (((Only.refl (fun _ => False) wr).alloc _).drew) (fun h => h)
            have x1 := hEd.cell 1
            have x1f := hEd.free 1
            have nne := ownsRow_ne own1 hI.h (by decide)
            have hne : (Value.slice da D.length dc).ownBlock ≠ some H0_ := fun h => nne H0_ h rfl
            have H0_l := hI.h.lt
            have l5 : D.length + 1 ≤ maxLen := by unfold maxLen; omega
            have HPN := hide (fun v' w3 n oG hown hn hwh => hI.pushD (w1 := w3) (v' := v') (s := ax) (n := n) oG hown hn hwh)
            have Hxs := hide hxs
            clear hEd nne hI hxs
            go_upto_region 11 with fail
            go_region_law
              ((refine step_append_lies _ (by rfl) _ _ _ (by rfl) 0 9 i0 _ 1 16 Try.underlying49 hi0 hz0 hz1 hz2 rfl (by omega) (.slice da D.length dc) D.length (lineV D) (by rfl) ((own1.alloc _).drew) ⟨wr.heap.size, 0, none⟩ 1 1 [.string xs] (by rfl) (by rfl) (World.news_of_block (cs := #[.string xs]) (t := 9) (fr := (0, 0)) (heap_alloc_new wr _)) (by simp [Value.oneCell']) (by omega) l5 (by omega) (by simp) (wr.heap.size + 1) (by simp) ?_; intro gg cap w3 hown1 hgrow hat hlt3; have y3 := (hgrow.cell_far ⟨H0_, 1, none⟩ (by simp; omega) (Ne.symm hne)).trans x1; have yz := (hgrow.frozen_far ⟨H0_, 1, none⟩ (by simp; omega) (Ne.symm hne)).trans x1f))
            all_goals
              have oG : Only (fun y => (Value.slice da D.length dc).ownBlock = some y) wr w3 := ((Only.refl (fun y => (Value.slice da D.length dc).ownBlock = some y) wr).alloc _).drew.grown hgrow (fun y hy _ => hy)
              rw [unhide Hxs] at hown1
              have hN := unhide HPN (.slice (some ⟨gg, 0, none⟩) (D.length + 1) cap) w3 (D.length + 1) oG hown1 rfl (fun k hk => by
                simp [Value.ownBlock] at hk
                subst hk
                rcases hat with h | h
                · exact .inl h
                · exact .inr h)
              have HN := hide hN
              clear hN oG hown1 hgrow hat
              go_wp2_with fail
              go_roundw
              case rel => exact ⟨i' + 1, _, by go_num, by omega, unhide HN1, by rw [unhide Hcs]; exact unhide HN⟩
              case measure => simp [intOf]; omega
          · have hstop : ∃ k : Nat, j ≤ k ∧ k ≤ B.length ∧ ((∃ hm : i' < m.length, m[i'] = (k : Int)) ∨ (i' = A.length ∧ k = B.length)) := by
              by_cases hi : i' < A.length
              · have hm : i' < m.length := by omega
                rcases hK.val hm with e | ⟨k, e, h1, h2⟩
                · exact absurd ⟨hm, e⟩ hneg
                · exact ⟨k, h1, by omega, .inl ⟨hm, e⟩⟩
              · exact ⟨B.length, hjl, by omega, .inr ⟨by omega, rfl⟩⟩
            obtain ⟨k, hjk, hkB, hkk⟩ := hstop
            have hmov : i < i' ∨ j < k := by
              by_cases h1 : i < i'
              · exact .inl h1
              · have e1 : i' = i := by omega
                subst e1
                by_cases h2 : j < k
                · exact .inr h2
                · exfalso
                  have e2 : k = j := by omega
                  subst e2
                  rcases hkk with h | ⟨h3, h4⟩
                  · exact unhide Hke h
                  · have := unhide Hex; omega
            have HT := hide (hK.turn hkk hmov hjk)
            have HI := hide hI
            have HMr := hide hMr
            have Hneg := hide hneg
            have Hkk := hide hkk
            clear hK hI hMr hneg hkk
            go_upto_region 10 with fail
            go_cut [52] (fun v wx => v = .bool false ∧ wr = wx)
            case first =>
              by_cases hi : i' < A.length
              · have t1 : decide ((i' : Int) < (A.length : Int)) = true := decide_eq_true (by omega)
                have t1n : decide (i' < A.length) = true := decide_eq_true (by omega)
                have t1' : (i' : Int) < (A.length : Int) := by omega
                have hm : i' < m.length := by omega
                have c0 := (unhide HMr).cell i' hm
                have he : m[i'] = (k : Int) := by
                  rcases unhide Hkk with ⟨_, e⟩ | ⟨e, _⟩
                  · exact e
                  · omega
                rw [he] at c0
                have e1 : decide ((k : Int) < 0) = false := decide_eq_false (by omega)
                clear he
                go_wp2_with fail
                go_meet
                exact ⟨rfl, rfl⟩
              · have t1 : decide ((i' : Int) < (A.length : Int)) = false := decide_eq_false (by omega)
                have t1n : decide (i' < A.length) = false := decide_eq_false (by omega)
                go_wp2_with fail
                go_meet
                exact ⟨rfl, rfl⟩
            case rest =>
            obtain ⟨rfl, rfl⟩ := hcut
            go_upto_if 69 with fail
            go_cut [10] (fun v wx => v = .int .i64 k ∧ wr = wx)
            case first =>
              by_cases hi : i' < A.length
              · have t1n : decide (i' < A.length) = true := decide_eq_true (by omega)
                have t1' : (i' : Int) < (A.length : Int) := by omega
                have hm : i' < m.length := by omega
                have c0 := (unhide HMr).cell i' hm
                have he : m[i'] = (k : Int) := by
                  rcases unhide Hkk with ⟨_, e⟩ | ⟨e, _⟩
                  · exact e
                  · omega
                rw [he] at c0
                clear he
                rw [t1n]
                refine wp_cond_true rfl ?_
                go_wp2_with fail
                go_meet
                exact ⟨rfl, rfl⟩
              · have t1n : decide (i' < A.length) = false := decide_eq_false (by omega)
                have he : B.length = k := by
                  rcases unhide Hkk with ⟨h, _⟩ | ⟨_, e⟩
                  · omega
                  · exact e.symm
                rw [t1n]
                refine wp_cond_false rfl ?_
                go_wp2_with fail
                go_meet
                exact ⟨by rw [he], rfl⟩
            case rest =>
            obtain ⟨rfl, rfl⟩ := hcut
            go_wp2_with fail
            generalize hDD : cutL A i i' = DD at *
            clear hDD
            go_loopw [8] (fun jv wr => ∃ (j' : Nat) (nv : Value), jv = .int .i64 j' ∧ j ≤ j' ∧ j' ≤ k ∧ HbI w1 H0_ H0_ (i : Int) dv nv DD (cutL B j j') u6 out wr) (fun jv _ => k - (intOf jv).toNat)
            case atStart => exact ⟨j, _, rfl, by omega, hjk, by rw [cutL_same]; exact unhide HI⟩
            case round =>
              clear HI HMr
              obtain ⟨j', nv, rfl, hjj, hjk', hI⟩ := hrel
              by_cases hjl' : j' < k
              · have t1 : decide ((j' : Int) < (k : Int)) = true := decide_eq_true (by omega)
                have t1n : decide (j' < k) = true := decide_eq_true (by omega)
                have t1' : (j' : Int) < (B.length : Int) := by omega
                have hcl : (cutL B j j').length ≤ 2000 := by rw [cutL_len B j j' hjj (by omega)]; omega
                have hcs := cutL_snoc B j j' hjj (by omega)
                have Hcs := hide hcs
                obtain ⟨gb, rfl, hgb, x0⟩ := LnIn.get (unhide HB) ((unhide O1).trans hI.ho (fun _ _ h => h)) j' (by omega)
                obtain ⟨na, nc, env⟩ := ownsRow_shape hI.n.row
                subst env
                obtain ⟨da, dn, dc, edv⟩ := own_slice hI.d
                subst edv
                generalize hNN : cutL B j j' = N at *
                generalize hax : B[j']'(by omega) = ax at *
                generalize hsx : sb ax = xs at *
                have hxs : xs = sb ax := hsx.symm
                clear hsx hcs hNN hax
                have own1 : wr.ownsRow 0 9 1 (.slice na N.length nc) N.length (lineV N) := hI.n.row
                have hx0 := hI.h.cell 2
                have hEd : Has (wr.alloc (.cells #[.string xs] 9)).drew H0_ _ 62 := hI.h.keep (((Only.refl (fun _ => False) wr).alloc _).drew) (fun h => h)
                have x1 := hEd.cell 2
                have x1f := hEd.free 2
                have nne := ownsRow_ne own1 hI.h (by decide)
                have hne : (Value.slice na N.length nc).ownBlock ≠ some H0_ := fun h => nne H0_ h rfl
                have H0_l := hI.h.lt
                have l5 : N.length + 1 ≤ maxLen := by unfold maxLen; omega
                have HPN := hide (fun v' w3 n oG hown hn hwh => hI.pushN (w1 := w3) (v' := v') (s := ax) (n := n) oG hown hn hwh)
                have Hxs := hide hxs
                clear hEd nne hI hxs
                go_upto_region 17 with fail
                go_region_law
                  ((refine step_append_lies _ (by rfl) _ _ _ (by rfl) 0 9 i0 _ 1 16 Try.underlying49 hi0 hz0 hz1 hz2 rfl (by omega) (.slice na N.length nc) N.length (lineV N) (by rfl) ((own1.alloc _).drew) ⟨wr.heap.size, 0, none⟩ 1 1 [.string xs] (by rfl) (by rfl) (World.news_of_block (cs := #[.string xs]) (t := 9) (fr := (0, 0)) (heap_alloc_new wr _)) (by simp [Value.oneCell']) (by omega) l5 (by omega) (by simp) (wr.heap.size + 1) (by simp) ?_; intro gg cap w3 hown1 hgrow hat hlt3; have y3 := (hgrow.cell_far ⟨H0_, 2, none⟩ (by simp; omega) (Ne.symm hne)).trans x1; have yz := (hgrow.frozen_far ⟨H0_, 2, none⟩ (by simp; omega) (Ne.symm hne)).trans x1f))
                all_goals
                  have oG : Only (fun y => (Value.slice na N.length nc).ownBlock = some y) wr w3 := ((Only.refl (fun y => (Value.slice na N.length nc).ownBlock = some y) wr).alloc _).drew.grown hgrow (fun y hy _ => hy)
                  rw [unhide Hxs] at hown1
                  have hN := unhide HPN (.slice (some ⟨gg, 0, none⟩) (N.length + 1) cap) w3 (N.length + 1) oG hown1 rfl (fun k hk => by
                    simp [Value.ownBlock] at hk
                    subst hk
                    rcases hat with h | h
                    · exact .inl h
                    · exact .inr h)
                  have HN := hide hN
                  clear hN oG hown1 hgrow hat
                  go_wp2_with fail
                  go_roundw
                  case rel => exact ⟨j' + 1, _, by go_num, by omega, by omega, by rw [unhide Hcs]; exact unhide HN⟩
                  case measure => simp [intOf]; omega
              · have t1 : decide ((j' : Int) < (k : Int)) = false := decide_eq_false (by omega)
                have t1n : decide (j' < k) = false := decide_eq_false (by omega)
                have ej : j' = k := by omega
                subst ej
                obtain ⟨hs, hp, hdt⟩ := hI.p
                have own2 := hp.1
                have hsl := hp.len
                obtain ⟨na, nn, nc, env⟩ := own_slice hI.n
                subst env
                obtain ⟨da, dn, dc, edv⟩ := own_slice hI.d
                subst edv
                have q0 := hI.h.cell 0
                have q1 := hI.h.cell 1
                have q2 := hI.h.cell 2
                have ghl := hI.h.lt
                have HF := hide (fun (v' : Value) (w' : World) o n hown hn hgrow hwh => HbI.fin (o := o) (v' := v') (w' := w') (n := n) hI hp hdt hown hn hgrow hwh)
                clear hI hp hdt
                go_wp2_with (at_builtin; refine wpList_append2 _ rfl _ _ 33 rfl 62 j0 _ 3 56 Try.underlying33 hj0 hy0 hy1 hy2 rfl (by decide) _ _ _ rfl (own2.alloc _) ⟨wr.heap.size, 0, none⟩ 1 1 [.int .i64 (i : Int), .slice da dn dc, .slice na nn nc] rfl rfl ?c1 ?c2 ?c3 ?c4 ?_)
                try (case c1 => exact news_ok _ _ _ _ rfl)
                case c2 => intro u hu; simp at hu; rcases hu with rfl | rfl | rfl <;> rfl
                case c3 => unfold maxLen; omega
                case c4 => omega
                intro v' w' hown hgrow hwhere
                have HN := hide (unhide HF v' w' _ _ hown (by omega) hgrow hwhere)
                clear hown hgrow hwhere own2 HF
                go_wp2_with fail
                go_roundw
                case rel => exact ⟨i', j', _, rfl, rfl, unhide HT, unhide HN⟩
                case measure => simp [intOf]; omega
    · have t1 : decide ((i : Int) < (A.length : Int)) = false := decide_eq_false (by omega)
      have t1n : decide (i < A.length) = false := decide_eq_false (by omega)
      have t2 : decide ((j : Int) < (B.length : Int)) = false := decide_eq_false (by omega)
      have t2n : decide (j < B.length) = false := decide_eq_false (by omega)
      have hE := hK.end_ (by omega) (by omega)
      rw [unhide HR] at hE
      subst hE
      obtain ⟨⟨hs, hp, hdt⟩, ho⟩ := hP
      have HE := hide (And.intro (hp.mono (G' := fun y => w.heap.size ≤ y) (fun y hy hg => by omega)) ((unhide O1).trans ho (fun _ _ h => h)))
      clear hK hp ho hMr hex
      go_wp2_with fail
      go_ret
      exact ⟨_, rfl, ⟨hs, (unhide HE).1⟩, (unhide HE).2⟩
end Go.Proofs.Qxb6500416a
