/-
  OWN WORK. THE DEFINITIONS: ApplyLines; the model's Apply.
-/
import Derived.Test.Qxb6500416aDDfW
import Derived.Test.Qxb6500416aDAp
namespace Go.Proofs.Qxb6500416a
open Go.RowKit Go.PlainAid
set_option linter.unusedSimpArgs false
set_option linter.unusedVariables false

theorem map_snoc (l : List Str) (x : Str) : (l ++ [x]).map sb = l.map sb ++ [sb x] := by simp
theorem ret2 {f : Func} {a : Act} {w : World} : True := trivial
set_option maxRecDepth 100000 in
set_option maxHeartbeats 16000000 in
theorem applyLines_any {w : World} {u : Value} {hs : List HV} {p : List Hk} {G : Nat → Prop} (v : Value) (A : List Str) (hA : LnIn w v A) (h : PatO w u hs p G) (ha : A.length ≤ 2000) (hp1 : p.length ≤ 2048) (hp2 : patL p ≤ 2048) (hat : ∀ k ∈ p, -9223372036854775808 ≤ k.at_ ∧ k.at_ ≤ 9223372036854775807) :
    Calls Try.prog 47 #[v, u] w fun e w' => ∃ v', e = .returned (.tuple #[v', .int .i64 (apN (applyF A p 0))]) ∧ (∀ l, applyF A p 0 = some l → OwnL w' v' l) ∧ (∃ a n c, v' = .slice a n c) ∧ Only (fun _ => False) w w' := by
  obtain ⟨aa, ca, rfl, hca⟩ := hA.parts
  obtain ⟨va, vc, rfl⟩ := h.shape
  have HA := hide hca
  have HP := hide h.low
  have Hat := hide hat
  obtain ⟨i0, hi0, hz0, hz1, hz2⟩ := info_parts Try.infoStr
  generalize hR : applyF A p 0 = R
  have HR := hide hR
  have HA0 := hide (ApAt.start A p)
  have hrn : R = none → apN R = 20 := fun h => by rw [h]; rfl
  have hrs : ∀ l, R = some l → apN R = 0 := fun l h => by rw [h]; rfl
  generalize apN R = re at *
  have Hrn := hide hrn
  have Hrs := hide hrs
  have H0 := hide (SI.nil w)
  clear hrn hrs hca hA h hat hR
  go_enter Try.func47, Try.ntmps47
  go_wp2_with fail
  go_loopw [6, 7, 8] (fun ov cv kv wr => ∃ (k cur : Nat) (out : List Str), cv = .int .i64 cur ∧ kv = .int .i64 k ∧ ApAt A p out k cur ∧ SI w ov (out.map sb) wr) (fun _ _ kv _ => p.length - (intOf kv).toNat)
  case atStart => exact ⟨0, 0, [], rfl, rfl, unhide HA0, unhide H0⟩
  case round =>
    clear HA0 H0
    obtain ⟨k, cur, out, rfl, rfl, hAp, hI⟩ := hrel
    have hcl := hAp.cl
    have hkl := hAp.kl
    have hol : out.length ≤ 10000 := by have := hAp.len; have := patL_take p k; omega
    by_cases hk : k < p.length
    · have b1 : decide ((k : Int) < (p.length : Int)) = true := decide_eq_true (by omega)
      have b2 : (k : Int) < (p.length : Int) := by omega
      have hPr := (unhide HP).keep hI.ho (fun _ _ h => h)
      obtain ⟨g, cap, hi', e, hgl, c0, c1, c2, hok⟩ := hPr.at k hk
      obtain ⟨rfl, rfl⟩ : va = some ⟨g, 0, none⟩ ∧ vc = cap := by simpa using e
      obtain ⟨da, dc, ed, _⟩ := hok.del.in_.parts
      obtain ⟨ia, ic, ei, _⟩ := hok.ins.in_.parts
      have hokw := (unhide HP).2.1.get k hi' hk
      have hDel := hokw.del.in_
      have hIns := hokw.ins.in_
      rw [ed] at c1 hDel
      rw [ei] at c2 hIns
      have hdn : p[k].del.length + p[k].ins.length ≤ 2048 := by
        have e1 := patL_snoc (p.take k) p[k]
        rw [← List.take_succ_eq_append_getElem hk] at e1
        have := patL_take p (k + 1)
        omega
      have ha1 := (unhide Hat p[k] (List.getElem_mem hk)).1
      have ha2 := (unhide Hat p[k] (List.getElem_mem hk)).2
      have HNo := hide (hAp.no hk)
      have HNo2 := hide (hAp.no2 hk)
      have HYes := hide (fun at_ ha h1 h2 he => hAp.yes (at_ := at_) hk ha h1 h2 he)
      generalize hD : p[k].del = D at *
      generalize hN : p[k].ins = N at *
      generalize hatt : p[k].at_ = z at *
      have oA := (Only.refl (fun _ => False) wr).alloc (.cells #[.int .i64 z, .slice da D.length dc, .slice ia N.length ic] 62)
      have hGH := Has.new wr #[.int .i64 z, .slice da D.length dc, .slice ia N.length ic] 62
      have hI1 := hI.quiet oA
      have HGH := hide hGH
      have HI1 := hide hI1
      have HDw := hide hDel
      have HNw := hide hIns
      have hwl := hI.ho.size
      clear hAp hI hPr hok e ed ei hD hN hatt hDel hIns hGH hI1 hokw
      go_upto_region 7 with fail
      clear c0 c1 c2
      obtain ⟨gh, egh⟩ : ∃ gh, gh = wr.heap.size := ⟨_, rfl⟩
      rw [← egh] at HGH
      rw [← egh]
      have o1 : Only (fun _ => False) w (wr.alloc (.cells #[.int .i64 z, .slice da D.length dc, .slice ia N.length ic] 62)) := (unhide HI1).ho
      generalize wr.alloc (.cells #[.int .i64 z, .slice da D.length dc, .slice ia N.length ic] 62) = W1 at *
      clear egh oA
      have q0 := (unhide HGH).cell 0
      have q1 := (unhide HGH).cell 1
      have q2 := (unhide HGH).cell 2
      have ghl := (unhide HGH).lt
      by_cases hfit : (cur : Int) ≤ z ∧ z ≤ (A.length : Int) ∧ (D.length : Int) ≤ (A.length : Int) - z
      · obtain ⟨f1, f2, f3⟩ := hfit
        obtain ⟨at_, rfl⟩ : ∃ n : Nat, z = (n : Int) := ⟨z.toNat, by omega⟩
        have t1 : decide ((at_ : Int) < (cur : Int)) = false := decide_eq_false (by omega)
        have t2 : decide ((A.length : Int) < (at_ : Int)) = false := decide_eq_false (by omega)
        have t3 : decide ((A.length : Int) - (at_ : Int) < (D.length : Int)) = false := decide_eq_false (by omega)
        have t1n : decide (at_ < cur) = false := decide_eq_false (by omega)
        have t2n : decide (A.length < at_) = false := decide_eq_false (by omega)
        have fAt : at_ ≤ A.length := by omega
        have fD : at_ + D.length ≤ A.length := by omega
        have fc : cur ≤ at_ := by omega
        go_wp2_with fail
        clear t1 t2 t3 t1n t2n q0 q1 q2
        go_loopw [6, 7] (fun ov cv wr => ∃ c : Nat, cv = .int .i64 c ∧ cur ≤ c ∧ c ≤ at_ ∧ SI w ov ((out ++ cutL A cur c).map sb) wr ∧ Has wr gh #[.int .i64 (at_ : Int), .slice da D.length dc, .slice ia N.length ic] 62) (fun _ cv _ => at_ - (intOf cv).toNat)
        case atStart => exact ⟨cur, rfl, by omega, fc, by rw [cutL_same, List.append_nil]; exact unhide HI1, unhide HGH⟩
        case round =>
          clear HI1 HGH ghl
          obtain ⟨c, rfl, hcc, hca, hI, hgh⟩ := hrel
          have q0 := hgh.cell 0
          have q1 := hgh.cell 1
          have ghl := hgh.lt
          by_cases hlt : c < at_
          · have d1 : decide ((c : Int) < (at_ : Int)) = true := decide_eq_true (by omega)
            have d1n : decide (c < at_) = true := decide_eq_true (by omega)
            have d2 : (c : Int) < (A.length : Int) := by omega
            obtain ⟨ga, rfl, hga, x0⟩ := LnIn.get (unhide HA) hI.ho c (by omega)
            have hcs : out ++ cutL A cur (c + 1) = (out ++ cutL A cur c) ++ [A[c]'(by omega)] := by rw [cutL_snoc A cur c hcc (by omega), List.append_assoc]
            have hll : (out ++ cutL A cur c).length ≤ 20000 := by rw [List.length_append, cutL_len A cur c hcc (by omega)]; omega
            have Hcs := hide hcs
            generalize out ++ cutL A cur c = L at *
            generalize hxx : A[c]'(by omega) = ax at *
            generalize hsx : sb ax = xs at *
            have Hsx := hide hsx
            have HI := hide hI
            have HGH := hide hgh
            clear hcs hI hgh hsx hxx
            have own4 : wr.ownsRow 0 9 1 _ _ _ := (unhide HI).own
            rw [List.length_map] at own4
            go_wp2_with (at_builtin; refine wpList_append2 _ rfl _ _ 49 rfl 9 i0 _ 1 16 Try.underlying49 hi0 hz0 hz1 hz2 rfl (by decide) _ _ _ rfl (own4.alloc _) ⟨wr.heap.size, 0, none⟩ 1 1 [.string xs] rfl rfl ?c1 ?c2 ?c3 ?c4 ?_)
            try (case c1 => exact news_ok _ _ _ _ rfl)
            case c2 => first | exact rfl | (intro u hu; simp at hu; rcases hu with rfl; rfl)
            case c3 => unfold maxLen; omega
            case c4 => omega
            intro v4 w4 hown' hgrow hwhere
            rw [← List.map_map] at hown'
            have h4 := (unhide HI).push (n := L.length + 1) xs hown' (by simp) hgrow hwhere
            have hg4 := (unhide HGH).keep (own_only hgrow) (fun e => ownsRow_ne own4 (unhide HGH) (by decide) _ e rfl)
            have HG4 := hide hg4
            clear hg4
            have H4 := hide h4
            clear hown' hgrow hwhere own4 HI h4
            go_wp2_with fail
            go_roundw
            case rel => exact ⟨c + 1, by go_num, by omega, by omega, by rw [unhide Hcs, map_snoc, unhide Hsx]; exact unhide H4, unhide HG4⟩
            case measure => simp [intOf]; omega
          · have d1 : decide ((c : Int) < (at_ : Int)) = false := decide_eq_false (by omega)
            have d1n : decide (c < at_) = false := decide_eq_false (by omega)
            have ec : c = at_ := by omega
            subst ec
            have HI := hide hI
            have HGH := hide hgh
            have hho := hI.ho
            have Hho := hide hho
            have HDr := hide ((unhide HDw).keep hho (fun _ _ h => h))
            have HNr := hide ((unhide HNw).keep hho (fun _ _ h => h))
            clear hI hgh hho
            go_wp2_with fail
            generalize wr = W2 at *
            go_loopw [7, 10] (fun cv dv wr => ∃ d : Nat, dv = .int .i64 d ∧ cv = .int .i64 ((c + d : Nat) : Int) ∧ d ≤ D.length ∧ (∀ j (h1 : j < D.length), j < d → A[c + j]'(by omega) = D[j]) ∧ Only (fun _ => False) W2 wr) (fun _ dv _ => D.length - (intOf dv).toNat)
            case atStart => exact ⟨0, rfl, rfl, by omega, fun j _ h => by omega, Only.refl _ _⟩
            case round =>
              obtain ⟨d, rfl, rfl, hdl, heq, ho⟩ := hrel
              have hgr := (unhide HGH).keep ho (fun h => h)
              have r1 := hgr.cell 1
              have r2 := hgr.cell 2
              have rl := hgr.lt
              have hos := ho.size
              by_cases hdlt : d < D.length
              · have u1 : decide ((d : Int) < (D.length : Int)) = true := decide_eq_true (by omega)
                have u2 : (d : Int) < (D.length : Int) := by omega
                have u3 : ((c + d : Nat) : Int) < (A.length : Int) := by omega
                obtain ⟨ga, rfl, hga, x0⟩ := LnIn.get (unhide HA) ((unhide Hho).trans ho (fun _ _ h => h)) (c + d) (by omega)
                obtain ⟨_, _, edd, hdc0⟩ := ((unhide HDr).keep ho (fun _ _ h => h)).parts
                cases edd
                obtain ⟨gd, rfl, hdc⟩ := hdc0 (by omega)
                have y0 := hdc d hdlt
                have hgdl : gd < wr.heap.size := World.block_lt_of_cell? wr _ y0
                by_cases he : A[c + d]'(by omega) = D[d]
                · have e1 : ((sb (A[c + d]'(by omega))).toList == (sb D[d]).toList) = true := by rw [he]; simp
                  have hnx : ∀ j (h1 : j < D.length), j < d + 1 → A[c + j]'(by omega) = D[j] := by
                    intro j h1 h2
                    by_cases ej : j = d
                    · subst ej; exact he
                    · exact heq j h1 (by omega)
                  have Hnx := hide hnx
                  have Ho := hide ho
                  clear he heq hnx hdc hdc0 ho hgr
                  generalize sb (A[c + d]'(by omega)) = x at *
                  generalize sb D[d] = y at *
                  generalize hcd : c + d = cd at *
                  have Hcd := hide hcd
                  clear hcd
                  go_wp2_with fail
                  go_quiet (fail)
                  have ho4 := (unhide Ho).drewO nq
                  go_wp2_with fail
                  go_roundw
                  case rel => exact ⟨d + 1, by go_num, by congr 1; have := unhide Hcd; push_cast; omega, by omega, unhide Hnx, ho4⟩
                  case measure => simp [intOf]; omega
                · have e1 : ((sb (A[c + d]'(by omega))).toList == (sb D[d]).toList) = false := by rw [beqB, ls_sb, ls_sb, decide_eq_false he]
                  have hno := unhide HNo2 (cut_ne (by omega) hdlt he)
                  have HRn := hide (And.intro (unhide Hrn (by rw [← unhide HR]; exact hno)) ((by rw [← unhide HR]; exact hno) : R = none))
                  have Ho := hide ho
                  clear he heq hdc hdc0 ho hno hgr
                  generalize sb (A[c + d]'(by omega)) = x at *
                  generalize sb D[d] = y at *
                  generalize c + d = cd at *
                  go_wp2_with fail
                  go_quiet (fail)
                  have ho4 := (unhide Ho).drewO nq
                  go_wp2_with fail
                  go_ret2
                  refine ⟨.slice none 0 0, by rw [(unhide HRn).1]; rfl, fun l hl => ?_, ⟨_, _, _, rfl⟩, (unhide Hho).trans ho4 (fun _ _ h => h)⟩
                  rw [(unhide HRn).2] at hl
                  cases hl
              · have u1 : decide ((d : Int) < (D.length : Int)) = false := decide_eq_false (by omega)
                have hcut := cut_of (by omega) (fun j h1 => heq j h1 (by omega))
                have hY := unhide HYes c rfl (by omega) (by omega) hcut
                have ed : d = D.length := by omega
                subst ed
                have HI2 := hide ((unhide HI).quiet ho)
                have HG2 := hide hgr
                have HN2 := hide ((unhide HNr).keep ho (fun _ _ h => h))
                have HY := hide hY
                have hll : (out ++ cutL A cur c).length ≤ 20000 := by rw [List.length_append, cutL_len A cur c hcc (by omega)]; omega
                have e9 : out ++ (cutL A cur c ++ N) = (out ++ cutL A cur c) ++ N := by rw [List.append_assoc]
                rw [e9] at HY
                generalize out ++ cutL A cur c = L at *
                clear heq hcut hY hgr ho HI HGH HDr HNr e9
                generalize hcd : c + D.length = cd at *
                clear hcd
                go_wp2_with fail
                clear r1 r2 rl
                generalize wr = W3 at *
                go_loopw [6, 11] (fun ov dv wr => ∃ d : Nat, dv = .int .i64 d ∧ d ≤ N.length ∧ SI w ov ((L ++ N.take d).map sb) wr ∧ Has wr gh #[.int .i64 (c : Int), .slice da D.length dc, .slice ia N.length ic] 62 ∧ Only (fun y => y = y) W3 W3) (fun _ dv _ => N.length - (intOf dv).toNat)
                case atStart => exact ⟨0, rfl, by omega, by rw [List.take_zero, List.append_nil]; exact unhide HI2, unhide HG2, Only.refl _ _⟩
                case round =>
                  clear HI2 HG2
                  obtain ⟨d, rfl, hdn2, hI, hgh, _⟩ := hrel
                  have q2 := hgh.cell 2
                  have ghl2 := hgh.lt
                  by_cases hdlt2 : d < N.length
                  · have u1 : decide ((d : Int) < (N.length : Int)) = true := decide_eq_true (by omega)
                    have u2 : (d : Int) < (N.length : Int) := by omega
                    obtain ⟨_, _, edd, hdc0⟩ := ((unhide HNw).keep hI.ho (fun _ _ h => h)).parts
                    cases edd
                    obtain ⟨gd, rfl, hdc⟩ := hdc0 (by omega)
                    have y0 := hdc d hdlt2
                    have hgdl : gd < wr.heap.size := World.block_lt_of_cell? wr _ y0
                    have hcs : L ++ N.take (d + 1) = (L ++ N.take d) ++ [N[d]] := by rw [List.take_succ_eq_append_getElem hdlt2, List.append_assoc]
                    have hl2 : (L ++ N.take d).length ≤ 30000 := by rw [List.length_append, List.length_take]; omega
                    have Hcs := hide hcs
                    generalize L ++ N.take d = M at *
                    generalize hxx : N[d] = ax at *
                    generalize hsx : sb ax = xs at *
                    have Hsx := hide hsx
                    have HI := hide hI
                    have HGH := hide hgh
                    clear hcs hI hgh hsx hxx hdc hdc0
                    have own4 : wr.ownsRow 0 9 1 _ _ _ := (unhide HI).own
                    rw [List.length_map] at own4
                    go_wp2_with (at_builtin; refine wpList_append2 _ rfl _ _ 49 rfl 9 i0 _ 1 16 Try.underlying49 hi0 hz0 hz1 hz2 rfl (by decide) _ _ _ rfl (own4.alloc _) ⟨wr.heap.size, 0, none⟩ 1 1 [.string xs] rfl rfl ?d1 ?d2 ?d3 ?d4 ?_)
                    try (case d1 => exact news_ok _ _ _ _ rfl)
                    case d2 => first | exact rfl | (intro u hu; simp at hu; rcases hu with rfl; rfl)
                    case d3 => unfold maxLen; omega
                    case d4 => omega
                    intro v4 w4 hown' hgrow hwhere
                    rw [← List.map_map] at hown'
                    have h4 := (unhide HI).push (n := M.length + 1) xs hown' (by simp) hgrow hwhere
                    have hg4 := (unhide HGH).keep (own_only hgrow) (fun e => ownsRow_ne own4 (unhide HGH) (by decide) _ e rfl)
                    have HG4 := hide hg4
                    clear hg4
                    have H4 := hide h4
                    clear hown' hgrow hwhere own4 HI h4
                    go_wp2_with fail
                    go_roundw
                    case rel => exact ⟨d + 1, by go_num, by omega, by rw [unhide Hcs, map_snoc, unhide Hsx]; exact unhide H4, unhide HG4, Only.refl _ _⟩
                    case measure => simp [intOf]; omega
                  · have u1 : decide ((d : Int) < (N.length : Int)) = false := decide_eq_false (by omega)
                    have ed : d = N.length := by omega
                    subst ed
                    rw [List.take_length] at hI
                    have HI := hide hI
                    clear hI hgh
                    go_wp2_with fail
                    go_roundw
                    case rel => exact ⟨k + 1, cd, _, rfl, by go_num, unhide HY, unhide HI⟩
                    case measure => simp [intOf]; omega
      · have hno := unhide HNo hfit
        have HRn := hide (And.intro (unhide Hrn (by rw [← unhide HR]; exact hno)) ((by rw [← unhide HR]; exact hno) : R = none))
        clear hno
        by_cases f1 : (cur : Int) ≤ z
        · have t1 : decide (z < (cur : Int)) = false := decide_eq_false (by omega)
          have t1' : ¬ z < (cur : Int) := by omega
          by_cases f2 : z ≤ (A.length : Int)
          · have t2 : decide ((A.length : Int) < z) = false := decide_eq_false (by omega)
            have t2' : ¬ (A.length : Int) < z := by omega
            have t3 : decide ((A.length : Int) - z < (D.length : Int)) = true := decide_eq_true (by omega)
            clear hfit
            go_wp2_with fail
            go_ret2
            refine ⟨.slice none 0 0, by rw [(unhide HRn).1]; rfl, fun l hl => ?_, ⟨_, _, _, rfl⟩, o1⟩
            rw [(unhide HRn).2] at hl
            cases hl
          · have t2 : decide ((A.length : Int) < z) = true := decide_eq_true (by omega)
            have t2' : (A.length : Int) < z := by omega
            clear hfit
            go_wp2_with fail
            go_ret2
            refine ⟨.slice none 0 0, by rw [(unhide HRn).1]; rfl, fun l hl => ?_, ⟨_, _, _, rfl⟩, o1⟩
            rw [(unhide HRn).2] at hl
            cases hl
        · have t1 : decide (z < (cur : Int)) = true := decide_eq_true (by omega)
          have t1' : z < (cur : Int) := by omega
          clear hfit
          go_wp2_with fail
          go_ret2
          refine ⟨.slice none 0 0, by rw [(unhide HRn).1]; rfl, fun l hl => ?_, ⟨_, _, _, rfl⟩, o1⟩
          rw [(unhide HRn).2] at hl
          cases hl
    · have b1 : decide ((k : Int) < (p.length : Int)) = false := decide_eq_false (by omega)
      have hfin := hAp.fin (by omega)
      have hRs : R = some (out ++ cutL A cur A.length) := by rw [← unhide HR]; exact hfin
      have HRe := hide (unhide Hrs _ hRs)
      have HRs := hide hRs
      have HI := hide hI
      clear hAp hfin hRs hI
      go_wp2_with fail
      go_loopw [6, 7] (fun ov cv wr => ∃ c : Nat, cv = .int .i64 c ∧ cur ≤ c ∧ c ≤ A.length ∧ SI w ov ((out ++ cutL A cur c).map sb) wr) (fun _ cv _ => A.length - (intOf cv).toNat)
      case atStart => exact ⟨cur, rfl, by omega, hcl, by rw [cutL_same, List.append_nil]; exact unhide HI⟩
      case round =>
        clear HI
        obtain ⟨c, rfl, hcc, hca, hI⟩ := hrel
        by_cases hlt : c < A.length
        · have d1 : decide ((c : Int) < (A.length : Int)) = true := decide_eq_true (by omega)
          have d2 : (c : Int) < (A.length : Int) := by omega
          obtain ⟨ga, rfl, hga, x0⟩ := LnIn.get (unhide HA) hI.ho c (by omega)
          have hcs : out ++ cutL A cur (c + 1) = (out ++ cutL A cur c) ++ [A[c]'(by omega)] := by rw [cutL_snoc A cur c hcc (by omega), List.append_assoc]
          have hll : (out ++ cutL A cur c).length ≤ 20000 := by rw [List.length_append, cutL_len A cur c hcc (by omega)]; omega
          have Hcs := hide hcs
          generalize out ++ cutL A cur c = L at *
          generalize hxx : A[c]'(by omega) = ax at *
          generalize hsx : sb ax = xs at *
          have Hsx := hide hsx
          have HI := hide hI
          clear hcs hI hsx hxx
          have own4 : wr.ownsRow 0 9 1 _ _ _ := (unhide HI).own
          rw [List.length_map] at own4
          go_wp2_with (at_builtin; refine wpList_append2 _ rfl _ _ 49 rfl 9 i0 _ 1 16 Try.underlying49 hi0 hz0 hz1 hz2 rfl (by decide) _ _ _ rfl (own4.alloc _) ⟨wr.heap.size, 0, none⟩ 1 1 [.string xs] rfl rfl ?e1 ?e2 ?e3 ?e4 ?_)
          try (case e1 => exact news_ok _ _ _ _ rfl)
          case e2 => first | exact rfl | (intro u hu; simp at hu; rcases hu with rfl; rfl)
          case e3 => unfold maxLen; omega
          case e4 => omega
          intro v4 w4 hown' hgrow hwhere
          rw [← List.map_map] at hown'
          have h4 := (unhide HI).push (n := L.length + 1) xs hown' (by simp) hgrow hwhere
          have H4 := hide h4
          clear hown' hgrow hwhere own4 HI h4
          go_wp2_with fail
          go_roundw
          case rel => exact ⟨c + 1, by go_num, by omega, by omega, by rw [unhide Hcs, map_snoc, unhide Hsx]; exact unhide H4⟩
          case measure => simp [intOf]; omega
        · have d1 : decide ((c : Int) < (A.length : Int)) = false := decide_eq_false (by omega)
          have ec : c = A.length := by omega
          subst ec
          have HI := hide hI
          obtain ⟨oa, on, oc, eo⟩ := own_slice hI.own
          clear hI
          go_wp2_with fail
          go_ret2
          refine ⟨u6, by rw [unhide HRe]; rfl, fun l hl => ?_, ⟨oa, on, oc, eo⟩, (unhide HI).ho⟩
          rw [unhide HRs] at hl
          cases hl
          exact (unhide HI).own
end Go.Proofs.Qxb6500416a
