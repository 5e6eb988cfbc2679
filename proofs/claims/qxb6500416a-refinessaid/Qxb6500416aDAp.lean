/-
  OWN WORK. THE ENGINE: Apply.
-/
import Derived.Test.Qxb6500416aDFit
import Derived.Laws.BytesArg
namespace Go.Proofs.Qxb6500416a
open Go.RowKit Go.PlainAid
set_option linter.unusedSimpArgs false
set_option linter.unusedVariables false

theorem dback {w : World} {v : Value} {l : Str} (h : OwnB w v l) : (convert 93 9 v).run Try.prog w = .ok (.string (sb l)) w := by
  have h' : w.ownsRow 0 5 1 v l.length (u8V l) := h
  rcases h'.2 with ⟨rfl, h0⟩ | ⟨g, cap, cur, rfl, _, hg, _⟩
  · have : l = [] := List.eq_nil_of_length_eq_zero h0
    subst this
    exact run_convert_bytes_nil (P := Try.prog) w 93 5 Try.underlying93 Try.underlying5 0 0 9 Try.underlying9
  · exact run_convert_bytes_back (P := Try.prog) w 93 9 5 ⟨g, 0, none⟩ cap l Try.underlying93 Try.underlying5 Try.underlying9 (fun j hj => World.ownsRow.cells h' (g := g) rfl j _ (by simp [u8V, hj]))
theorem drun_make_byt (w : World) (n : Nat) (hn : n ≤ 1000000) : ∃ cur, (Instr.makeSlice 93 (.int .i64 0) (.int .i64 n)).run Try.prog w = .ok (.slice (some ⟨w.heap.size, 0, none⟩) 0 n) (w.alloc (.cells cur 5)) ∧ OwnB (w.alloc (.cells cur 5)) (.slice (some ⟨w.heap.size, 0, none⟩) 0 n) [] := by
  obtain ⟨i, hi, hz, hs, hb⟩ := info_parts Try.dinfoU8
  have := run_make (P := Try.prog) w 93 5 i _ Try.underlying93 hi hz .i64 .i64 (0 : Int) (n : Int) (by omega) (by omega) (by rw [hb]; omega) (by omega)
  refine ⟨_, this, ?_⟩
  exact World.ownsRow_made (base := 0) (e := 5) (size := 1) w _ n (Nat.zero_le _) (by unfold maxLen; omega) (by simp [madeCells, hs, Value.cells])
def apS : Option (List Str) → ByteArray
  | none => ⟨#[]⟩
  | some l => sb l.flatten
def apN : Option (List Str) → Int
  | none => 20
  | some _ => 0
def applyS (a : ByteArray) (p : List Hk) : ByteArray := if 1024 < a.size then ⟨#[]⟩ else if fitsP p = false then ⟨#[]⟩ else apS (applyF (linesOf a) p 0)
def applyN (a : ByteArray) (p : List Hk) : Int := if 1024 < a.size then 4 else if fitsP p = false then 4 else apN (applyF (linesOf a) p 0)
theorem cut_of {A D : List Str} {at_ : Nat} (h : at_ + D.length ≤ A.length) (he : ∀ j (h1 : j < D.length), A[at_ + j]'(by omega) = D[j]) : cutL A at_ (at_ + D.length) = D := by
  have hl := cutL_len A at_ (at_ + D.length) (by omega) h
  apply List.ext_getElem (by omega)
  intro i h1 h2
  rw [cutL_get A at_ (at_ + D.length) i h1 (by omega)]
  exact he i h2
theorem cut_ne {A D : List Str} {at_ j : Nat} (h : at_ + D.length ≤ A.length) (h1 : j < D.length) (he : A[at_ + j]'(by omega) ≠ D[j]) : cutL A at_ (at_ + D.length) ≠ D := by
  intro e
  have hl := cutL_len A at_ (at_ + D.length) (by omega) h
  have := cutL_get A at_ (at_ + D.length) j (by omega) (by omega)
  apply he
  rw [← this]
  simp only [e]
theorem PatO.low {w : World} {v : Value} {hs : List HV} {p : List Hk} {G : Nat → Prop} (h : PatO w v hs p G) : PatO w v hs p (fun y => y < w.heap.size) := h.mono (fun y hy _ => hy)
section
variable {w : World} {e : Nat} {v : Value} {hs : List HV} {p : List Hk} {G : Nat → Prop}
theorem dapply_big (h : PatO w v hs p G) (a : ByteArray) (ha : 1024 < a.size) :
    Calls Try.prog 26 #[.pointer (some ⟨e, 0, none⟩), .string a, v] w fun x w' => x = .returned (.tuple #[.string ⟨#[]⟩, .int .i64 4]) ∧ Only (fun _ => False) w w' := by
  obtain ⟨va, vc, rfl⟩ := h.shape
  have a1 : decide ((1024 : Int) < (a.size : Int)) = true := decide_eq_true (by omega)
  clear h
  go_enter Try.func26, Try.ntmps26
  go_wp2_with fail
  go_ret2
  exact ⟨rfl, Only.refl _ _⟩
theorem dapply_unfit (h : PatO w v hs p G) (a : ByteArray) (ha : a.size ≤ 1024) (hf : fitsP p = false) (C : Calls Try.prog 45 #[v] w fun e w' => e = .returned (.bool (fitsP p)) ∧ Only (fun _ => False) w w') :
    Calls Try.prog 26 #[.pointer (some ⟨e, 0, none⟩), .string a, v] w fun x w' => x = .returned (.tuple #[.string ⟨#[]⟩, .int .i64 4]) ∧ Only (fun _ => False) w w' := by
  obtain ⟨va, vc, rfl⟩ := h.shape
  have a1 : decide ((1024 : Int) < (a.size : Int)) = false := decide_eq_false (by omega)
  rw [hf] at C
  have C1 := hide C
  clear h C hf
  go_enter Try.func26, Try.ntmps26
  go_wp2_with fail
  refine (unhide C1).mono ?_
  rintro x w1 ⟨rfl, ho⟩
  go_wp2_with fail
  go_ret2
  exact ⟨rfl, ho⟩
set_option maxRecDepth 100000 in
set_option maxHeartbeats 8000000 in
theorem dapply_fit (h : PatO w v hs p G) (a : ByteArray) (ha : a.size ≤ 1024) (hf : fitsP p = true) (C : Calls Try.prog 45 #[v] w fun e w' => e = .returned (.bool (fitsP p)) ∧ Only (fun _ => False) w w') (hdl : ∀ k ∈ p, k.del.length ≤ 100000 ∧ k.ins.length ≤ 100000 ∧ k.ins.flatten.length ≤ 100000) (hat : ∀ k ∈ p, -9223372036854775808 ≤ k.at_ ∧ k.at_ ≤ 9223372036854775807) :
    Calls Try.prog 26 #[.pointer (some ⟨e, 0, none⟩), .string a, v] w fun x w' => x = .returned (.tuple #[.string (apS (applyF (linesOf a) p 0)), .int .i64 (apN (applyF (linesOf a) p 0))]) ∧ Only (fun _ => False) w w' := by
  obtain ⟨va, vc, rfl⟩ := h.shape
  obtain ⟨hp1, hp2, hp3⟩ := fitsP_bound hf
  have a1 : decide ((1024 : Int) < (a.size : Int)) = false := decide_eq_false (by omega)
  rw [hf] at C
  have hll := linesOf_len a
  have hlf := linesOf_flat a
  have Clf := hide hlf
  have C1 := hide C
  have HP := hide h.low
  have C2 := hide (splitL_any a (by omega))
  have Hdl := hide hdl
  have Hat := hide hat
  generalize linesOf a = A at *
  generalize hR : applyF A p 0 = R
  have HR := hide hR
  have HA0 := hide (ApAt.start A p)
  have hrn : R = none → apS R = ⟨#[]⟩ ∧ apN R = 20 := fun h => by rw [h]; exact ⟨rfl, rfl⟩
  have hrs : ∀ l, R = some l → apS R = sb l.flatten ∧ apN R = 0 := fun l h => by rw [h]; exact ⟨rfl, rfl⟩
  generalize apS R = rs at *
  generalize apN R = re at *
  have Hrn := hide hrn
  have Hrs := hide hrs
  clear hrn hrs
  clear h C hf hdl hat hlf hR
  go_enter Try.func26, Try.ntmps26
  go_wp2_with fail
  refine (unhide C1).mono ?_
  rintro x w1 ⟨rfl, ho1⟩
  go_wp2_with fail
  refine (unhide C2 w1).mono ?_
  rintro x w2 ⟨la, rfl, oA, fA, ho2⟩
  obtain ⟨cur, hm, hB0⟩ := drun_make_byt w2 a.size (by omega)
  have s1 := ho1.size
  have s2 := ho2.size
  have HP2 := (unhide HP).keep ((ho1.trans ho2 (fun _ _ h => h)).alloc (.cells cur 5)) (fun _ _ h => h)
  have oA3 := oA.keep ((Only.refl (fun _ => False) w2).alloc (.cells cur 5)) (fun _ _ h => h)
  have o3 := (ho1.trans ho2 (fun _ _ h => h)).alloc (.cells cur 5)
  obtain ⟨laa, lac, rfl⟩ := ownsRow_shape oA
  rw [List.length_map] at oA3 ⊢
  have s3 := o3.size
  generalize hW : w2.alloc (.cells cur 5) = W at *
  have hw3 : W.heap.size = w2.heap.size + 1 := by rw [← hW]; simp
  have HB0 := hide (BI.start hB0)
  have HBo := hide hB0
  have HA3 := hide oA3
  have HP3 := hide HP2
  have HO3 := hide o3
  clear hW oA fA hB0 HP2 oA3 o3 ho1 ho2 HP C1 C2
  have hv0 : ∀ y, (Value.slice (some ⟨w2.heap.size, 0, none⟩) 0 a.size).ownBlock = some y → w.heap.size ≤ y := fun y hy => by simp [Value.ownBlock] at hy; omega
  have Hv0 := hide hv0
  clear hv0
  go_wp2_with fail
  generalize hv : Value.slice (some ⟨w2.heap.size, 0, none⟩) 0 a.size = v0 at *
  clear hv hm
  go_loopw [9, 10, 11] (fun ov cv kv wr => ∃ (k cur : Nat) (out : List Str), cv = .int .i64 cur ∧ kv = .int .i64 k ∧ ApAt A p out k cur ∧ BI W v0 ov out.flatten wr) (fun _ _ kv _ => p.length - (intOf kv).toNat)
  case atStart => exact ⟨0, 0, [], rfl, rfl, unhide HA0, unhide HB0⟩
  case round =>
    clear HA0 HB0
    obtain ⟨k, cur, out, rfl, rfl, hA, hI⟩ := hrel
    have hcl := hA.cl
    have hsz := hA.siz
    have hf1 := flat_take_le A cur
    have hf2 := patB_take p k
    have Clf' := unhide Clf
    have hol : out.flatten.length ≤ 10000 := by omega
    have hLr := (unhide HA3).byt (unhide HBo) hI
    have hLw : Only (fun _ => False) w wr := (unhide HO3).trans hI.ho (fun y hy e => by have := unhide Hv0 y e; omega)
    by_cases hk : k < p.length
    · have b1 : decide ((k : Int) < (p.length : Int)) = true := decide_eq_true (by omega)
      have b2 : (k : Int) < (p.length : Int) := by omega
      have hPr := (unhide HP3).keep hI.ho (fun y hy e => by have := unhide Hv0 y e; omega)
      obtain ⟨g, cap, hi', e, hgl, c0, c1, c2, hok⟩ := hPr.at k hk
      obtain ⟨rfl, rfl⟩ : va = some ⟨g, 0, none⟩ ∧ vc = cap := by simpa using e
      obtain ⟨da, dc, ed, _⟩ := hok.del.in_.parts
      have hIns := hok.ins
      have hDel := hok.del
      have hlow := hok.inn
      have hgw : g < w.heap.size := hPr.2.2 g rfl
      obtain ⟨ia, ic, ei⟩ : ∃ a c, hs[k].iv = .slice a p[k].ins.length c := by
        obtain ⟨a, c, e, _⟩ := hok.ins.in_.parts
        exact ⟨a, c, e⟩
      rw [ed] at c1 hDel
      rw [ei] at c2 hIns
      rw [ed, ei] at hlow
      have hov : ∀ (ov' : Value) (wq : World) (l : Str), BI W v0 ov' l wq → ∀ y, ov'.ownBlock = some y → w.heap.size ≤ y := fun ov' wq l hq y hy => by
        rcases hq.hb y hy with h | h
        · exact unhide Hv0 y h
        · omega
      have hd1 := (unhide Hdl p[k] (List.getElem_mem hk)).1
      have hd2 := (unhide Hdl p[k] (List.getElem_mem hk)).2.1
      have hd3 := (unhide Hdl p[k] (List.getElem_mem hk)).2.2
      have ha1 := (unhide Hat p[k] (List.getElem_mem hk)).1
      have ha2 := (unhide Hat p[k] (List.getElem_mem hk)).2
      have HNo := hide (hA.no hk)
      have HNo2 := hide (hA.no2 hk)
      have HYes := hide (fun at_ ha h1 h2 he => hA.yes (at_ := at_) hk ha h1 h2 he)
      generalize hD : p[k].del = D at *
      generalize hN : p[k].ins = N at *
      generalize hat : p[k].at_ = z at *
      have HI := hide hI
      have HLr := hide hLr
      have HLw := hide hLw
      have HDel := hide hDel
      have HIns := hide hIns
      have Hlow := hide hlow
      have Hov := hide hov
      clear hA hI hLr hPr hok e ed ei hD hN hat hIns hDel hLw hsz hf1 hf2 hlow hov
      by_cases hfit : (cur : Int) ≤ z ∧ z ≤ (A.length : Int) ∧ (D.length : Int) ≤ (A.length : Int) - z
      · obtain ⟨f1, f2, f3⟩ := hfit
        obtain ⟨at_, rfl⟩ : ∃ n : Nat, z = (n : Int) := ⟨z.toNat, by omega⟩
        have t1 : decide ((at_ : Int) < (cur : Int)) = false := decide_eq_false (by omega)
        have t2 : decide ((A.length : Int) < (at_ : Int)) = false := decide_eq_false (by omega)
        have t3 : decide ((A.length : Int) - (at_ : Int) < (D.length : Int)) = false := decide_eq_false (by omega)
        have t1n : decide (at_ < cur) = false := decide_eq_false (by omega)
        have t2n : decide (A.length < at_) = false := decide_eq_false (by omega)
        have C3 := hide (daddAll_any (unhide HI).own (unhide HLr) cur at_ A.length rfl (by omega) (by omega) (by omega) (by omega) (by omega))
        go_wp2_with fail
        refine (unhide C3).mono ?_
        rintro x w4 ⟨v4, rfl, hB4⟩
        have hI4 := (unhide HI).trans hB4
        have hL4 := (unhide HA3).byt (unhide HBo) hI4
        have n4 : ∀ y, y < w.heap.size → ¬ (u9.ownBlock = some y) := fun y hy e => by have := unhide Hov _ _ _ (unhide HI) y e; omega
        have hD4 := (unhide HDel).keep hB4.ho (fun y hy => n4 y (unhide Hlow y (.inl hy)))
        have hN4 := (unhide HIns).keep hB4.ho (fun y hy => n4 y (unhide Hlow y (.inr hy)))
        have d1 := (World.cell?_of_block (a := ⟨g, k * 3 + 1, none⟩) (hB4.ho.block g hgl (n4 g hgw))).trans c1
        have d2 := (World.cell?_of_block (a := ⟨g, k * 3 + 2, none⟩) (hB4.ho.block g hgl (n4 g hgw))).trans c2
        have g4 : g < w4.heap.size := Nat.lt_of_lt_of_le hgl hB4.ho.size
        have HI4 := hide hI4
        have HL4 := hide hL4
        have HD4 := hide hD4
        have HN4 := hide hN4
        have hlw4 : Only (fun _ => False) w w4 := (unhide HO3).trans hI4.ho (fun y hy e => by have := unhide Hv0 y e; omega)
        have HLw4 := hide hlw4
        clear hI4 hL4 hD4 hN4 hB4 c0 c1 c2 n4 HI HLr HLw HDel HIns C3 hlw4 hgl
        go_wp2_with fail
        go_loopw [13] (fun dv wr => ∃ d : Nat, dv = .int .i64 d ∧ d ≤ D.length ∧ (∀ j (h1 : j < D.length), j < d → A[at_ + j]'(by omega) = D[j]) ∧ Only (fun _ => False) w4 wr) (fun dv _ => D.length - (intOf dv).toNat)
        case atStart => exact ⟨0, rfl, by omega, fun j _ h => by omega, Only.refl _ _⟩
        case round =>
          obtain ⟨d, rfl, hdl, heq, ho⟩ := hrel
          have hso := ho.size
          have g5 : g < wr.heap.size := by omega
          have d1r := (World.cell?_of_block (a := ⟨g, k * 3 + 1, none⟩) (ho.block g g4 (fun h => h))).trans d1
          by_cases hdlt : d < D.length
          · have u1 : decide ((d : Int) < (D.length : Int)) = true := decide_eq_true (by omega)
            have u2 : (d : Int) < (D.length : Int) := by omega
            have u3 : (at_ : Int) + (d : Int) < (A.length : Int) := by omega
            rcases ((unhide HL4).keep ho (fun _ _ h => h)).form with ⟨_, e0⟩ | ⟨gl, lcap, el, _, _, hgll, hlc⟩
            · rw [e0] at u3; simp at u3; omega
            · obtain ⟨rfl, rfl⟩ : laa = some ⟨gl, 0, none⟩ ∧ lac = lcap := by simpa using el
              rcases ((unhide HD4).keep ho (fun _ _ h => h)).form with ⟨_, e0⟩ | ⟨gd, dcap, edl, _, _, hgdl, hdc⟩
              · rw [e0] at hdlt; simp at hdlt
              · obtain ⟨rfl, rfl⟩ : da = some ⟨gd, 0, none⟩ ∧ dc = dcap := by simpa using edl
                have x0 := hlc (at_ + d) (by omega)
                have y0 := hdc d hdlt
                by_cases he : A[at_ + d]'(by omega) = D[d]
                · have e1 : ((sb (A[at_ + d]'(by omega))).toList == (sb D[d]).toList) = true := by rw [he]; simp
                  have hnx : ∀ j (h1 : j < D.length), j < d + 1 → A[at_ + j]'(by omega) = D[j] := by
                    intro j h1 h2
                    by_cases ej : j = d
                    · subst ej; exact he
                    · exact heq j h1 (by omega)
                  have Hnx := hide hnx
                  have Ho := hide ho
                  clear he heq hnx el edl hlc hdc ho
                  generalize sb (A[at_ + d]'(by omega)) = x at *
                  generalize sb D[d] = y at *
                  go_wp2_with fail
                  go_quiet (fail)
                  have ho4 := (unhide Ho).drewO nq
                  go_wp2_with fail
                  go_roundw
                  case rel => exact ⟨d + 1, by go_num, by omega, unhide Hnx, ho4⟩
                  case measure => simp [intOf]; omega
                · have e1 : ((sb (A[at_ + d]'(by omega))).toList == (sb D[d]).toList) = false := by rw [beqB, ls_sb, ls_sb, decide_eq_false he]
                  have hno := unhide HNo2 (cut_ne (by omega) hdlt he)
                  have HRn := hide (unhide Hrn (by rw [← unhide HR]; exact hno))
                  have Ho := hide ho
                  clear he heq el edl hlc hdc ho hno
                  generalize sb (A[at_ + d]'(by omega)) = x at *
                  generalize sb D[d] = y at *
                  go_wp2_with fail
                  go_quiet (fail)
                  have ho4 := (unhide Ho).drewO nq
                  go_wp2_with fail
                  go_ret2
                  rw [(unhide HRn).1, (unhide HRn).2]
                  exact ⟨rfl, (unhide HLw4).trans ho4 (fun _ _ h => h)⟩
          · have u1 : decide ((d : Int) < (D.length : Int)) = false := decide_eq_false (by omega)
            have hcut := cut_of (by omega) (fun j h1 => heq j h1 (by omega))
            have hY := unhide HYes at_ rfl (by omega) (by omega) hcut
            have d2r := (World.cell?_of_block (a := ⟨g, k * 3 + 2, none⟩) (ho.block g g4 (fun h => h))).trans d2
            have hq : Only (fun _ => False) wr wr := Only.refl _ _
            have hNr := (unhide HN4).keep ho (fun _ _ h => h)
            have hIr := (unhide HI4).quiet ho
            have hlen4 : (out.flatten ++ (cutL A cur at_).flatten).length ≤ 100000 := by
              rw [List.length_append]
              have := flat_take A cur at_ (by omega)
              have := flat_take_le A at_
              omega
            have C4 := hide (fun W' (hW : Only (fun _ => False) wr W') => daddAll_any (hIr.quiet hW).own (hNr.keep hW (fun _ _ h => h)) 0 N.length N.length rfl (by omega) (by omega) (by omega) (by omega) (by omega))
            have HIr := hide hIr
            have HY := hide hY
            have dq := (World.cell?_of_block (a := ⟨g, k * 3 + 2, none⟩) (hq.drew.block g g5 (fun h => h))).trans d2r
            clear heq hcut hY hNr hIr ho
            go_upto_region 21 with fail
            go_region_with (go_at_call 46; refine (unhide C4 _ (by first | exact hq | exact hq.drew)).mono ?_; rintro x w5 ⟨v5, rfl, hB5⟩)
            all_goals
              have hI5 := ((unhide HIr).quiet (by first | exact hq | exact hq.drew)).trans hB5
              rw [cutL_zero, List.append_assoc, ← List.flatten_append, ← List.flatten_append] at hI5
              have HI5 := hide hI5
              clear hI5 hB5
              go_wp2_with fail
              go_roundw
              case rel => exact ⟨k + 1, at_ + D.length, _, by first | rfl | (congr 1; push_cast; rfl) | (congr 1; push_cast), by go_num, unhide HY, unhide HI5⟩
              case measure => simp [intOf]; omega
      · have hno := unhide HNo hfit
        have HRn := hide (unhide Hrn (by rw [← unhide HR]; exact hno))
        clear hno
        by_cases f1 : (cur : Int) ≤ z
        · have t1 : decide (z < (cur : Int)) = false := decide_eq_false (by omega)
          have t1' : ¬ z < (cur : Int) := by omega
          by_cases f2 : z ≤ (A.length : Int)
          · have t2 : decide ((A.length : Int) < z) = false := decide_eq_false (by omega)
            have t2' : ¬ (A.length : Int) < z := by omega
            have t3 : decide ((A.length : Int) - z < (D.length : Int)) = true := decide_eq_true (by omega)
            clear hfit
            go_wp2_with fail
            go_ret2
            rw [(unhide HRn).1, (unhide HRn).2]
            exact ⟨rfl, unhide HLw⟩
          · have t2 : decide ((A.length : Int) < z) = true := decide_eq_true (by omega)
            have t2' : (A.length : Int) < z := by omega
            clear hfit
            go_wp2_with fail
            go_ret2
            rw [(unhide HRn).1, (unhide HRn).2]
            exact ⟨rfl, unhide HLw⟩
        · have t1 : decide (z < (cur : Int)) = true := decide_eq_true (by omega)
          have t1' : z < (cur : Int) := by omega
          clear hfit
          go_wp2_with fail
          go_ret2
          rw [(unhide HRn).1, (unhide HRn).2]
          exact ⟨rfl, unhide HLw⟩
    · have b1 : decide ((k : Int) < (p.length : Int)) = false := decide_eq_false (by omega)
      have hfin := hA.fin (by have := hA.kl; omega)
      have HRn := hide (unhide Hrs _ (by rw [← unhide HR]; exact hfin))
      have C3 := hide (daddAll_any hI.own hLr cur A.length A.length rfl (by omega) (by omega) (by omega) (by omega) (by omega))
      have HI := hide hI
      clear hA hI hLr hfin
      go_wp2_with fail
      refine (unhide C3).mono ?_
      rintro x w4 ⟨v4, rfl, hB4⟩
      have hI4 := (unhide HI).trans hB4
      rw [← List.flatten_append] at hI4
      have hbk := dback hI4.own
      have HO := hide ((unhide HO3).trans hI4.ho (fun y hy e => by have := unhide Hv0 y e; omega))
      clear hI4 hB4 C3
      generalize (out ++ cutL A cur A.length).flatten = rr at *
      go_wp2_with fail
      go_ret2
      rw [(unhide HRn).1, (unhide HRn).2]
      exact ⟨rfl, unhide HO⟩
end
end Go.Proofs.Qxb6500416a
