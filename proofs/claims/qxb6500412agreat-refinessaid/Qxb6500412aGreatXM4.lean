/-
  OWN WORK. TXN's MODEL: api.Multi: Commit.
-/
import Derived.Test.Qxb6500412aGreatXM3
namespace Go.Proofs.Qxb6500412aGreat
open Go.RowKit Go.PlainAid
set_option linter.unusedSimpArgs false
set_option linter.unusedVariables false

theorem td_at {α : Type} (A B : List α) (i j : Nat) (h : i ≤ A.length) : (A.take i ++ B.drop i)[j]? = if j < i then A[j]? else B[j]? := by
  by_cases c : j < i
  · rw [if_pos c, List.getElem?_append_left (by rw [List.length_take]; omega), List.getElem?_take, if_pos c]
  · rw [if_neg c, List.getElem?_append_right (by rw [List.length_take]; omega), List.length_take, List.getElem?_drop, show i + (j - min i A.length) = j by omega]
theorem td_set {α : Type} {A B : List α} {i : Nat} {a b : α} (hA : A[i]? = some a) (hB : B[i]? = some b) : (A.take i ++ B.drop i).set i a = A.take (i + 1) ++ B.drop (i + 1) := by
  have hi := (List.getElem?_eq_some_iff.mp hA).1
  apply List.ext_getElem?
  intro j
  rw [td_at A B (i + 1) j (by omega)]
  by_cases c : i = j
  · subst c
    rw [if_pos (by omega), hA]
    have hl : i < (A.take i ++ B.drop i).length := by
      have := (List.getElem?_eq_some_iff.mp hB).1
      rw [List.length_append, List.length_take, List.length_drop]
      omega
    exact List.getElem?_set_self hl
  · rw [List.getElem?_set_ne c, td_at A B i j (by omega)]
    by_cases d : j < i
    · rw [if_pos d, if_pos (by omega)]
    · rw [if_neg d, if_neg (by omega)]
theorem td_same {α : Type} {A B : List α} {i : Nat} {a : α} (hA : A[i]? = some a) (hB : B[i]? = some a) : A.take i ++ B.drop i = A.take (i + 1) ++ B.drop (i + 1) := by
  have hi := (List.getElem?_eq_some_iff.mp hA).1
  apply List.ext_getElem?
  intro j
  rw [td_at A B (i + 1) j (by omega), td_at A B i j (by omega)]
  by_cases c : i = j
  · subst c
    rw [if_neg (by omega), if_pos (by omega), hA, hB]
  · by_cases d : j < i
    · rw [if_pos d, if_pos (by omega)]
    · rw [if_neg d, if_neg (by omega)]
theorem Mm.setV_setV (Z : Mm) (j : Nat) (v v' : Value) (l l' : List GE) : (Z.setV j v l).setV j v' l' = Z.setV j v' l' := by
  unfold Mm.setV
  congr 1
  · funext i
    simp only
    by_cases c : i = j
    · rw [if_pos c, if_pos c]
    · rw [if_neg c, if_neg c, if_neg c]
  · funext i
    simp only
    by_cases c : i = j
    · rw [if_pos c, if_pos c]
    · rw [if_neg c, if_neg c, if_neg c]
/-- The first tables are copied. -/
def CmI (w : World) (k : Nat) (Z : Mm) (M : Mu) (H : Nat → Prop) (n i : Nat) (wr : World) : Prop :=
  ∃ l, MMt wr k (Z.setV 0 (Z.v 0) l) ∧ l.length = (Z.l 0).length ∧ l.map (·.t) = (M.see n).take i ++ M.com.drop i ∧ (∀ b, (Z.setV 0 (Z.v 0) l).A k b → H b ∨ w.heap.size ≤ b) ∧ Only H w wr
section
variable {w wr : World} {k : Nat} {Z : Mm} {M : Mu} {H : Nat → Prop} {n i : Nat}
theorem MmS.see_len (h : MmS Z M) (hn : n < 4) : (M.see n).length = M.com.length := by rw [h.see n hn]; unfold mixD; rw [List.length_map]
theorem MmS.see_at (h : MmS Z M) (hn : n < 4) {t : Tb} (hi : M.com[i]? = some t) : (M.see n)[i]? = some (mixT (M.lk n) (Z.db (1 + n)) t) := by
  rw [h.see n hn]
  show (M.com.map (mixT (M.lk n) (Z.db (1 + n))))[i]? = _
  rw [List.getElem?_map, hi]
  rfl
theorem MmS.com_len (h : MmS Z M) : (Z.l 0).length = M.com.length := by
  have := congrArg List.length h.com
  unfold Mm.db at this
  rw [List.length_map] at this
  exact this
theorem CmI.skip (hS : MmS Z M) (hn : n < 4) {t : Tb} (hi : M.com[i]? = some t) (h2 : M.lk n t.nm ≠ 2) (I : CmI w k Z M H n i wr) : CmI w k Z M H n (i + 1) wr := by
  obtain ⟨l, h1, h3, h4, h5, h6⟩ := I
  refine ⟨l, h1, h3, ?_, h5, h6⟩
  have := hS.see_at hn hi
  unfold mixT at this
  rw [if_neg h2] at this
  rw [h4, td_same this hi]
theorem CmI.copy (hS : MmS Z M) (hn : n < 4) {t u : Tb} {l : List GE} {b : Nat} {w4 : World} (hi : M.com[i]? = some t) (h2 : M.lk n t.nm = 2) (hu : (Z.db (1 + n))[i]? = some u) (hun : u.nm = t.nm) (h3 : l.length = (Z.l 0).length) (h4 : l.map (·.t) = (M.see n).take i ++ M.com.drop i) (h5 : ∀ b, (Z.setV 0 (Z.v 0) l).A k b → H b ∨ w.heap.size ≤ b) (h6 : Only H w wr) (hb : H b) (hq : CpQ wr k (Z.setV 0 (Z.v 0) l) 0 b i u w4) : CmI w k Z M H n (i + 1) w4 := by
  obtain ⟨e', ht, T1, hf, T2⟩ := hq
  have e0 : (Z.setV 0 (Z.v 0) l).v 0 = Z.v 0 := rfl
  have e1 : (Z.setV 0 (Z.v 0) l).l 0 = l := rfl
  have hw := h6.size
  refine ⟨l.set i e', ?_, by rw [List.length_set]; exact h3, ?_, fun x hx => ?_, h6.trans T2 (fun x _ e => by have e' : x = b := e; rw [e']; exact hb)⟩
  · rw [Mm.setV_setV, e0, e1] at T1
    exact T1
  · have hsee := hS.see_at hn hi
    have hfu : findD (Z.db (1 + n)) t.nm = some u := by rw [← hun]; exact (hS.ok (1 + n) (by omega)).gd.find (List.mem_of_getElem? hu)
    unfold mixT at hsee
    rw [if_pos h2, hfu] at hsee
    rw [List.map_set, ht, h4]
    exact td_set hsee hi
  · have hx2 : ((Z.setV 0 (Z.v 0) l).setV 0 ((Z.setV 0 (Z.v 0) l).v 0) (((Z.setV 0 (Z.v 0) l).l 0).set i e')).A k x := by rw [Mm.setV_setV, e0, e1]; exact hx
    rcases Mm.setTA (by omega) hx2 hf with c | c
    · exact h5 x c
    · exact .inr (by omega)
set_option maxRecDepth 100000 in
set_option maxHeartbeats 8000000 in
theorem xmcommit_any (X : MX w k M H) (ok : MuOk M) (s : Int) : Calls Tryz.prog 186 #[.pointer (some ⟨k, 0, none⟩), .int .i64 s] w (MrP w k M (M.commit s.toNat) H s) := by
  have C1 := xgood_any s w
  by_cases hs : gdS s
  · rw [decide_eq_true hs] at C1
    obtain ⟨n, rfl⟩ : ∃ n : Nat, s = n := ⟨s.toNat, by have := hs.1; omega⟩
    have hn : n < 4 := by have := hs.2; omega
    have n4 : (n : Int) < 4 := by omega
    have en : ((n : Nat) : Int).toNat = n := by omega
    have HX := hide X
    obtain ⟨Z, h, hS, hA⟩ := X.ex
    have a0 := h.cA hn
    have kl := h.has.lt
    have C1 := hide C1
    have eA := hS.act n hn
    cases hb : M.act n with
    | false =>
      rw [← eA, hb] at a0
      have FF := hide (show MrP w k M (M.commit (n : Int).toNat) H (n : Int) (.returned (.int .i64 2)) w from .inl ⟨by rw [inT_off hn hb], by rw [inT_off hn hb]; omega, rfl⟩)
      clear X h hS hA hs hb eA
      go_enter Tryz.func186, Tryz.ntmps186
      go_wp2_with fail
      refine (unhide C1).mono ?_
      rintro e w2 ⟨rfl, rfl⟩
      go_wp2_with fail
      go_ret
      exact unhide FF
    | true =>
      rw [← eA, hb] at a0
      have I0 : CmI w k Z M H n 0 w := ⟨Z.l 0, by
        have e : Z.setV 0 (Z.v 0) (Z.l 0) = Z := by
          unfold Mm.setV
          cases Z
          simp only [Mm.mk.injEq, true_and]
          constructor
          · funext i
            by_cases c : i = 0
            · rw [if_pos c, c]
            · rw [if_neg c]
          · funext i
            by_cases c : i = 0
            · rw [if_pos c, c]
            · rw [if_neg c]
        rw [e]
        exact h, rfl, by rw [List.take_zero, List.drop_zero]; exact hS.com, fun b hb => by
        rcases Mm.setV_A hb with c | c | c
        · exact .inl (hA b c)
        · exact .inl (hA b (.inl (.inr ⟨0, by omega, c⟩)))
        · exact .inl (hA b (.inr ⟨0, by omega, c⟩)), Only.refl _ _⟩
      obtain ⟨va, vc, hv0⟩ := (h.ml 0 (by omega)).shape
      obtain ⟨ln, hln⟩ : ∃ x, (Z.l 0).length = x := ⟨_, rfl⟩
      rw [hln] at hv0
      have ln3 : ln ≤ 3 := by rw [← hln]; exact (h.ml 0 (by omega)).len
      have HH := hide (And.intro h (And.intro hS (And.intro hA (And.intro hb (And.intro hln (And.intro ok hv0))))))
      have HI0 := hide I0
      clear X h hS hA hs hb eA I0 hln ok hv0
      go_enter Tryz.func186, Tryz.ntmps186
      go_wp2_with fail
      refine (unhide C1).mono ?_
      rintro e w2 ⟨rfl, rfl⟩
      clear C1
      go_upto_region 6 with fail
      clear a0
      go_loopw [5] (fun iv wr => ∃ i : Nat, iv = .int .i64 i ∧ i ≤ ln ∧ CmI w k Z M H n i wr) (fun iv _ => ln - (intOf iv).toNat)
      case atStart => exact ⟨0, rfl, by omega, unhide HI0⟩
      case round =>
        clear HI0
        obtain ⟨i, rfl, hil, I⟩ := hrel
        have HI := hide I
        obtain ⟨l, h1, h3, h4, h5, h6⟩ := I
        have hln := (unhide HH).2.2.2.2.1
        have hS := (unhide HH).2.1
        have hv0 := (unhide HH).2.2.2.2.2.2
        have c0 : wr.cell? ⟨k, 0, none⟩ = some (Z.v 0) := h1.c0
        rw [hv0] at c0
        have klr := h1.has.lt
        by_cases hi : i < ln
        · have a1 : decide ((i : Int) < (ln : Int)) = true := decide_eq_true (by omega)
          have a1p : (i : Int) < (ln : Int) := by omega
          have i3n : i < 3 := by omega
          have i3 : (i : Int) < 3 := by omega
          obtain ⟨e, he⟩ := getE (l := Z.l 0) (i := i) (by omega)
          have hci := hS.com_at he
          have d0 : wr.cell? ⟨k, 5 + n * 3 + i, none⟩ = some (.int .i64 (Z.lk n i)) := h1.cK hn i3n
          rw [← hS.lk n i e.t hn hci] at d0
          obtain ⟨z, hz⟩ : ∃ z : Int, M.lk n e.t.nm = z := ⟨_, rfl⟩
          rw [hz] at d0
          by_cases z2 : z = 2
          · subst z2
            have hact := (unhide HH).2.2.2.1
            obtain ⟨u, hu, hun⟩ := nms_at (hS.nms n hn hact) hci
            obtain ⟨ee, hee, heu⟩ : ∃ ee : GE, (Z.l (1 + n))[i]? = some ee ∧ ee.t = u := by
              unfold Mm.db at hu
              rw [List.getElem?_map] at hu
              cases c : (Z.l (1 + n))[i]? with
              | none => rw [c] at hu; cases hu
              | some ee => rw [c] at hu; exact ⟨ee, rfl, by simpa using hu⟩
            have hsl : (Z.setV 0 (Z.v 0) l).l (1 + n) = Z.l (1 + n) := by show (if 1 + n = 0 then l else Z.l (1 + n)) = _; rw [if_neg (by omega)]
            have hsv : (Z.setV 0 (Z.v 0) l).v (1 + n) = Z.v (1 + n) := by show (if 1 + n = 0 then Z.v 0 else Z.v (1 + n)) = _; rw [if_neg (by omega)]
            have MLP := h1.ml (1 + n) (by omega)
            rw [hsl, hsv] at MLP
            obtain ⟨pb, pcap, hpv, P, E⟩ := MLP.pt hee
            have cp := h1.cP hn
            rw [hsv, hpv] at cp
            obtain ⟨lp, hlp⟩ : ∃ x, (Z.l (1 + n)).length = x := ⟨_, rfl⟩
            rw [hlp] at cp
            have ip : (i : Int) < (lp : Int) := by have := (List.getElem?_eq_some_iff.mp hee).1; omega
            obtain ⟨e2, he2⟩ := getE (l := l) (i := i) (by omega)
            have hn2 : e2.t.nm = e.t.nm := by
              have e4 : (l.map (·.t))[i]? = some e2.t := by rw [List.getElem?_map, he2]; rfl
              rw [h4, td_at _ _ _ _ (by rw [hS.see_len hn, ← hS.com_len]; omega), if_neg (by omega), hci] at e4
              rw [← Option.some.inj e4]
            obtain ⟨cb, ccap, hcv, P2, E2⟩ := (h1.ml 0 (by omega)).pt he2
            have hcv2 : (Z.setV 0 (Z.v 0) l).v 0 = .slice (some ⟨cb, 0, none⟩) ((Z.setV 0 (Z.v 0) l).l 0).length ccap := hcv
            have hll : ((Z.setV 0 (Z.v 0) l).l 0).length = ln := by show l.length = ln; omega
            have CC := copyC h1 (j := 0) (o := 0) (lp := ln) (i := i) (es := ee) (by omega) rfl hcv2 hll he2 E (by rw [heu, hun]; exact hn2.symm)
            obtain ⟨rfl, rfl⟩ : va = some ⟨cb, 0, none⟩ ∧ vc = ccap := by
              have hx : Z.v 0 = .slice (some ⟨cb, 0, none⟩) l.length ccap := hcv
              rw [hv0] at hx
              simp only [Value.slice.injEq] at hx
              exact ⟨hx.1, hx.2.2⟩
            have HQ := hide (fun (w4 : World) (hq : CpQ wr k (Z.setV 0 (Z.v 0) l) 0 cb i ee.t w4) => show CmI w k Z M H n (i + 1) w4 from
              CmI.copy hS hn hci hz hu hun h3 h4 h5 h6 ((unhide HH).2.2.1 cb (.inl (.inr ⟨0, by omega, .inl (by rw [hv0]; rfl)⟩))) (by rw [heu] at hq; exact hq))
            have p0 := P.c0
            have p1 := P.c1
            have p2 := P.c2
            have p3 := P.c3
            have p4 := P.c4
            obtain ⟨ca, cc, hec⟩ := E.col.shape
            obtain ⟨ra, rc, hrv⟩ := E.rshape
            unfold tbA at CC
            rw [hec, hrv] at CC
            rw [hec] at p1
            rw [hrv] at p4
            have CC := hide CC
            have pbl : pb < wr.heap.size := MLP.lt pb (.inl (.inl (by rw [hpv]; rfl)))
            have cbl : cb < wr.heap.size := (h1.ml 0 (by omega)).lt cb (.inl (.inl (by rw [hcv]; rfl)))
            clear E E2 P P2 MLP hcv hcv2 hpv hee heu hu hun hact hec hrv hlp hll he2 hn2 hsl hsv h1 h3 h4 h5 h6 HI hz he hci hln hS hv0
            go_upto_region 9 with fail
            clear d0
            go_region_with (go_at_call 178; refine (unhide CC).mono ?_; rintro x w3 ⟨x0, x1, n1, q1, x2, x3, x4, n4x, q4, y0, y1, y2, y3, y4, rfl, k17, ⟨k0, k1, k2, k3, k4⟩, ⟨f0, f1, f2, f3, f4⟩, kl3, pl3, HF⟩)
            all_goals
              have HG := hide (unhide HQ _ (unhide HF))
              go_wp2_with fail
              go_roundw
              case rel => exact ⟨i + 1, by go_num, by omega, unhide HG⟩
              case measure => simp [intOf]; omega
          · have b2 : (z == 2) = false := ne_intO z2
            have HN := hide (CmI.skip hS hn hci (by rw [hz]; exact z2) (unhide HI))
            clear h1 h3 h4 h5 h6 HI hz he hci hln hS hv0 z2
            go_wp2_with fail
            go_roundw
            case rel => exact ⟨i + 1, by go_num, by omega, unhide HN⟩
            case measure => simp [intOf]; omega
        · obtain rfl : i = ln := by omega
          have a1 : decide ((i : Int) < (i : Int)) = false := decide_eq_false (by omega)
          have C2 := hide (xmend_any h1 hn)
          have hsee : l.map (·.t) = M.see n := by
            rw [h4, List.drop_eq_nil_of_le (by rw [← hS.com_len]; omega), List.append_nil, List.take_of_length_le (by rw [hS.see_len hn, ← hS.com_len]; omega)]
          have HF := hide (fun (w' : World) (h2 : MMt w' k ((Z.setV 0 (Z.v 0) l).endS n)) (o2 : Only (fun b => b = k) wr w') => show MrP w k M (M.commit (n : Int).toNat) H (n : Int) (.returned (.int .i64 0)) w' from by
            refine .inr ⟨rfl, inT_on hn (unhide HH).2.2.2.1, ?_⟩
            rw [en]
            refine (unhide HX).turn h2 (hS.commit (unhide HH).2.2.2.2.2.1 hn hsee) (fun b c => ?_) (h6.trans o2 (fun b _ e => by have e' : b = k := e; rw [e']; exact (unhide HX).kH)) (fun _ h => h)
            rcases Mm.setV_A c with d | d | d
            · exact h5 b d
            · rcases d with d | ⟨e, he, _⟩
              · simp [Value.ownBlock] at d
              · simp at he
            · obtain ⟨e, he, _⟩ := d
              simp at he)
          clear h1 h3 h4 h5 h6 HI hln hS hv0 hi hsee
          go_wp2_with fail
          refine (unhide C2).mono ?_
          rintro e w3 ⟨rfl, h2, o2⟩
          have FF := hide (unhide HF _ h2 o2)
          clear C2 h2 o2 HF c0
          go_wp2_with fail
          go_ret
          exact unhide FF
  · rw [decide_eq_false hs] at C1
    have C1 := hide C1
    have FF := hide (show MrP w k M (M.commit s.toNat) H s (.returned (.int .i64 20)) w from .inl ⟨by rw [inT_no hs], by rw [inT_no hs]; omega, rfl⟩)
    clear X hs
    go_enter Tryz.func186, Tryz.ntmps186
    go_wp2_with fail
    refine (unhide C1).mono ?_
    rintro e w2 ⟨rfl, rfl⟩
    go_wp2_with fail
    go_ret
    exact unhide FF
end
end Go.Proofs.Qxb6500412aGreat
