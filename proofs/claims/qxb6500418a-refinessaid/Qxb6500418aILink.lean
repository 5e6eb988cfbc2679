/-
  OWN WORK. THE INDEX's POOL: link.
-/
import Derived.Test.Qxb6500418aIProbe2
namespace Go.Proofs.Qxb6500418a
open Go.RowKit Go.PlainAid
set_option linter.unusedSimpArgs false
set_option linter.unusedVariables false

/-- The pool behind link. -/
def linkP (P : Nat → Nd) (K : Fo) (c d : Nat) (n : Str) (file : Bool) : Nat → Nd :=
  if (K.spot (keyF n file) 0).1 = 0 then updT (updT P c ⟨n, 0, (K.spot (keyF n file) 0).2, file, [], 0, 0, 0⟩) d { P d with child := c }
  else updT (updT P c ⟨n, 0, (K.spot (keyF n file) 0).2, file, [], 0, 0, 0⟩) (K.spot (keyF n file) 0).1 { P (K.spot (keyF n file) 0).1 with next := c }

theorem spot_mem (key : Str) : ∀ (K : Fo) (b : Nat), (K.spot key b).1 = b ∨ (K.spot key b).1 ∈ K.ids := by
  intro K
  induction K with
  | nil => intro b; exact .inl rfl
  | file c n d m r ih =>
    intro b
    simp only [Fo.spot]
    by_cases h : bl key n = true
    · rw [if_pos h]; exact .inl rfl
    · rw [if_neg h]
      rcases ih c with e | e
      · rw [e]; right; simp [Fo.ids]
      · right; simp [Fo.ids, e]
  | dir c n k r ihk ih =>
    intro b
    simp only [Fo.spot]
    by_cases h : bl key (n ++ [47]) = true
    · rw [if_pos h]; exact .inl rfl
    · rw [if_neg h]
      rcases ih c with e | e
      · rw [e]; right; simp [Fo.ids]
      · right; simp [Fo.ids, e]
theorem only8 {S : Nat → Prop} {w0 w : World} {x i : Nat} (h : Only S w0 w) (hS : x < w0.heap.size → S x) (a b c d e f g k : Value) : Only S w0 ((((((((w.setCell ⟨x, i * 8, none⟩ a).setCell ⟨x, i * 8 + 1, none⟩ b).setCell ⟨x, i * 8 + 2, none⟩ c).setCell ⟨x, i * 8 + 3, none⟩ d).setCell ⟨x, i * 8 + 4, none⟩ e).setCell ⟨x, i * 8 + 5, none⟩ f).setCell ⟨x, i * 8 + 6, none⟩ g).setCell ⟨x, i * 8 + 7, none⟩ k) :=
  (((((((h.setCell (p := ⟨x, i * 8, none⟩) hS a).setCell (p := ⟨x, i * 8 + 1, none⟩) hS b).setCell (p := ⟨x, i * 8 + 2, none⟩) hS c).setCell (p := ⟨x, i * 8 + 3, none⟩) hS d).setCell (p := ⟨x, i * 8 + 4, none⟩) hS e).setCell (p := ⟨x, i * 8 + 5, none⟩) hS f).setCell (p := ⟨x, i * 8 + 6, none⟩) hS g).setCell (p := ⟨x, i * 8 + 7, none⟩) hS k

section
variable {w : World} {x : Nat} {P : Nat → Nd} {fr fi : Nat}
set_option maxRecDepth 100000 in
set_option maxHeartbeats 4000000 in
theorem link_any (h : IAt w x P fr fi) (d : Nat) (hd : d < 49) (K : Fo) (hl : Lay P K (P d).child) (hs : K.ids.length ≤ 48) (hc : 1 ≤ fr ∧ fr < 49) (hcd : fr ≠ d) (hcK : fr ∉ K.ids) (n : Str) (hn : n.length ≤ 12) (hnames : ∀ q ∈ K.names, q.length ≤ 12) (file : Bool) :
    Calls Try.prog 61 #[.pointer (some ⟨x, 0, none⟩), .int .i64 d, .string (st n), .bool file] w fun e w' => e = .returned (.int .i64 (fr : Int)) ∧ IAt w' x (linkP P K fr d n file) (P fr).next fi ∧ Only (fun k => k = x) w w' := by
  have hxl := h.lt
  have f0 := h.free_
  have n0 := h.nx fr hc.2
  have d1 : (d : Int) < 49 := by omega
  have r1 : (fr : Int) < 49 := by omega
  have h1 := h.setFree (P fr).next
  have o1 : Only (fun k => k = x) w (w.setCell ⟨x, 392, none⟩ (.int .i64 ((P fr).next : Int))) := (Only.refl (fun k => k = x) w).setCell (p := ⟨x, 392, none⟩) (fun _ => rfl) _
  have C1 := hide (keyOf_any n file (by omega) (w.setCell ⟨x, 392, none⟩ (.int .i64 ((P fr).next : Int))))
  have hsp : ∃ sp, K.spot (keyF n file) 0 = sp := ⟨_, rfl⟩
  obtain ⟨sp, hsp⟩ := hsp
  have hmem := spot_mem (keyF n file) K 0
  rw [hsp] at hmem
  have hlP : linkP P K fr d n file = if sp.1 = 0 then updT (updT P fr ⟨n, 0, sp.2, file, [], 0, 0, 0⟩) d { P d with child := fr } else updT (updT P fr ⟨n, 0, sp.2, file, [], 0, 0, 0⟩) sp.1 { P sp.1 with next := fr } := by
    unfold linkP; rw [hsp]
  rw [hlP]
  have hX : ∃ PX, (if sp.1 = 0 then updT (updT P fr ⟨n, 0, sp.2, file, [], 0, 0, 0⟩) d { P d with child := fr } else updT (updT P fr ⟨n, 0, sp.2, file, [], 0, 0, 0⟩) sp.1 { P sp.1 with next := fr }) = PX := ⟨_, rfl⟩
  obtain ⟨PX, hX⟩ := hX
  rw [hX]
  have HX0 := hide (show sp.1 = 0 → PX = updT (updT P fr ⟨n, 0, sp.2, file, [], 0, 0, 0⟩) d { P d with child := fr } from fun e => by rw [← hX, if_pos e])
  have HX1 := hide (show sp.1 ≠ 0 → PX = updT (updT P fr ⟨n, 0, sp.2, file, [], 0, 0, 0⟩) sp.1 { P sp.1 with next := fr } from fun e => by rw [← hX, if_neg e])
  clear hX
  have hrng := hl.rng
  have HP : Hid (∀ wx, IAt wx x P (P fr).next fi → IAt wx x P (P fr).next fi) := hide (fun _ h => h)
  have Hl := hide hl
  have Hsp := hide hsp
  have H1 := hide h1
  have O1 := hide o1
  have Hnames := hide hnames
  have hne0 : sp.1 ≠ 0 → sp.1 < 49 ∧ sp.1 ≠ fr := by
    intro e
    rcases hmem with e' | e'
    · exact absurd e' e
    · exact ⟨(hrng _ e').2, fun e2 => hcK (e2 ▸ e')⟩
  have Hne0 := hide hne0
  clear hlP hsp hl h1 o1 hnames hrng hmem hne0 hcK
  go_enter Try.func61, Try.ntmps61
  go_wp2_with fail
  refine (unhide C1).mono ?_
  rintro e w' ⟨rfl, rfl⟩
  clear C1 f0 n0
  generalize w.setCell ⟨x, 392, none⟩ (.int .i64 ((P fr).next : Int)) = w1 at *
  have c1 := (unhide H1).ch d hd
  have hx1 := (unhide H1).lt
  go_wp2_with fail
  go_loopw [11, 12, 13] (fun bv sv nv wr => ∃ (i b p : Nat) (G : Fo), bv = .int .i64 b ∧ sv = .int .i64 p ∧ nv = .int .i64 i ∧ Lay P G p ∧ i + G.sibs ≤ 48 ∧ sp = G.spot (keyF n file) b ∧ (∀ q ∈ G.names, q.length ≤ 12) ∧ Only (fun _ => False) w1 wr) (fun _ _ nv _ => (49 - intOf nv).toNat)
  case atStart => exact ⟨0, 0, (P d).child, K, rfl, rfl, rfl, unhide Hl, by have := sibs_ids K; omega, (unhide Hsp).symm, unhide Hnames, Only.refl _ _⟩
  case round =>
    clear Hl Hsp Hnames c1
    obtain ⟨i, b, p, G, rfl, rfl, rfl, hG, hi, hspG, hnm, ho⟩ := hrel
    have a1 : decide ((i : Int) < 49) = true := by simp; omega
    have hr := (unhide H1).keep ho (fun h => h)
    have hxr := hr.lt
    cases G with
    | nil =>
      have hp0 : p = 0 := hG
      have hspG' : sp = (b, p) := by rw [hspG, hp0]; rfl
      have HspG := hide hspG'
      have p2 : ((p : Int) != 0) = false := by rw [hp0]; rfl
      have hoW := ho
      generalize hwW : wr = WW at *
      clear hwW hG hspG hspG' hnm hp0 hr hxr ho
      have oW : Only (fun k => k = x) w WW := (unhide O1).trans hoW (fun _ _ h => h.elim)
      have hW := (unhide H1).keep hoW (fun h => h)
      have hxW := hW.lt
      obtain ⟨z0, z1, z2, z3, z4, z5, z6, z7⟩ := hW.all fr hc.2
      have hp : IAt ((((((((WW.setCell ⟨x, fr * 8, none⟩ (.string (st n))).setCell ⟨x, fr * 8 + 1, none⟩ (.int .i64 0)).setCell ⟨x, fr * 8 + 2, none⟩ (.int .i64 (p : Int))).setCell ⟨x, fr * 8 + 3, none⟩ (.bool file)).setCell ⟨x, fr * 8 + 4, none⟩ (.string ⟨#[]⟩)).setCell ⟨x, fr * 8 + 5, none⟩ (.int .i64 0)).setCell ⟨x, fr * 8 + 6, none⟩ (.int .i64 0)).setCell ⟨x, fr * 8 + 7, none⟩ (.int .i64 0)) x (updT P fr ⟨n, 0, p, file, [], 0, 0, 0⟩) (P fr).next fi := hW.put fr hc.2 ⟨n, 0, p, file, [], 0, 0, 0⟩
      have op := only8 (i := fr) oW (fun _ => rfl) (.string (st n)) (.int .i64 0) (.int .i64 (p : Int)) (.bool file) (.string ⟨#[]⟩) (.int .i64 0) (.int .i64 0) (.int .i64 0)
      have Hp := hide hp
      have Op := hide op
      clear hp op hW oW
      go_upto_region 14 with fail
      generalize (((((((WW.setCell ⟨x, fr * 8, none⟩ (.string (st n))).setCell ⟨x, fr * 8 + 1, none⟩ (.int .i64 0)).setCell ⟨x, fr * 8 + 2, none⟩ (.int .i64 (p : Int))).setCell ⟨x, fr * 8 + 3, none⟩ (.bool file)).setCell ⟨x, fr * 8 + 4, none⟩ (.string ⟨#[]⟩)).setCell ⟨x, fr * 8 + 5, none⟩ (.int .i64 0)).setCell ⟨x, fr * 8 + 6, none⟩ (.int .i64 0)).setCell ⟨x, fr * 8 + 7, none⟩ (.int .i64 0) = W2 at *
      clear z0 z1 z2 z3 z4 z5 z6 z7
      have hx2 := (unhide Hp).lt
      by_cases hb0 : b = 0
      · have t1 := (unhide Hp).ch d hd
        have t2 := (unhide Hp).fz (d * 8 + 1)
        have hq := (unhide Hp).setChild d hd fr
        have hdu : updT P fr ⟨n, 0, p, file, [], 0, 0, 0⟩ d = P d := updT_other _ _ _ _ (fun e => hcd e.symm)
        rw [hdu] at t1 hq
        have Hq := hide hq
        have oq := hide ((unhide Op).setCell (p := ⟨x, d * 8 + 1, none⟩) (fun _ => rfl) (.int .i64 (fr : Int)))
        have e0 : ((b : Int) == 0) = true := by rw [hb0]; rfl
        have Hb0 := hide hb0
        clear hq hdu hb0
        go_wp2_with fail
        go_ret
        rw [unhide HX0 (by rw [unhide HspG]; exact unhide Hb0), unhide HspG]
        exact ⟨rfl, unhide Hq, unhide oq⟩
      · obtain ⟨hb49, hbf⟩ := unhide Hne0 (by rw [unhide HspG]; exact hb0)
        rw [unhide HspG] at hb49 hbf
        have hb49' : b < 49 := hb49
        have hbf' : b ≠ fr := hbf
        have t1 := (unhide Hp).nx b hb49'
        have t2 := (unhide Hp).fz (b * 8 + 2)
        have hq := (unhide Hp).setNext b hb49' fr
        have hdu : updT P fr ⟨n, 0, p, file, [], 0, 0, 0⟩ b = P b := updT_other _ _ _ _ hbf'
        rw [hdu] at t1 hq
        have Hq := hide hq
        have oq := hide ((unhide Op).setCell (p := ⟨x, b * 8 + 2, none⟩) (fun _ => rfl) (.int .i64 (fr : Int)))
        have e0 : ((b : Int) == 0) = false := by simp; omega
        have b1 : (b : Int) < 49 := by omega
        have Hb0 := hide hb0
        clear hq hdu hb0 hb49 hbf
        go_wp2_with fail
        go_ret
        rw [unhide HX1 (by rw [unhide HspG]; exact unhide Hb0), unhide HspG]
        exact ⟨rfl, unhide Hq, unhide oq⟩
    | file c' n' d' m' r =>
      obtain ⟨rfl, h2, h3, h4⟩ := hG
      have b0 := hr.nm p h2.2
      have b2 := hr.nx p h2.2
      have b3 := hr.fl p h2.2
      have hnm2 : (P p).name = n' := by rw [h3]
      have hfl2 : (P p).file = true := by rw [h3]
      rw [hnm2] at b0
      rw [hfl2] at b3
      have p1 : (p : Int) < 49 := by omega
      have p2 : ((p : Int) != 0) = true := by simp; omega
      have H4 := hide h4
      have hn12 : n'.length ≤ 12 := hnm n' (by simp [Fo.names])
      have hnmr : ∀ q ∈ r.names, q.length ≤ 12 := fun q hq => hnm q (by simp [Fo.names, hq])
      have Hnmr := hide hnmr
      have C2 := fun (k : Nat) => (keyOf_any n' true (by omega) (wr.drewN k)).mono (R' := fun e w' => e = .returned (.string (st n')) ∧ w' = wr.drewN k) (fun e w' h => ⟨h.1, h.2.symm⟩)
      have C2 := hide C2
      generalize hq0 : (P p).next = q at *
      clear hq0
      simp only [Fo.sibs] at hi
      clear h3 h4 hnm2 hfl2 hnm hnmr
      by_cases hbl : bl (keyF n file) n' = true
      · have hspG' : sp = (b, p) := by rw [hspG]; simp only [Fo.spot]; rw [if_pos hbl]
        have HspG := hide hspG'
        have e1 : Op.bytesLess n' (keyF n file) = false := bl_asymm hbl
        have e2 : (n' == keyF n file) = false := by
          cases hh : n' == keyF n file with
          | false => rfl
          | true =>
            have : n' = keyF n file := by simpa using hh
            rw [this, bl_irr] at hbl; cases hbl
        clear hspG hspG' hbl
        generalize keyF n file = key at *
        go_wp2_with fail
        go_quiet (first | (go_at_call 52; refine Calls.quiet_of_same ((unhide C2) _)))
        have hoW := ho.drewO nq
        generalize wr.drewN nq = WW at *
        clear b0 b2 b3 hr C2 ho
        have oW : Only (fun k => k = x) w WW := (unhide O1).trans hoW (fun _ _ h => h.elim)
        have hW := (unhide H1).keep hoW (fun h => h)
        have hxW := hW.lt
        obtain ⟨z0, z1, z2, z3, z4, z5, z6, z7⟩ := hW.all fr hc.2
        have hp : IAt ((((((((WW.setCell ⟨x, fr * 8, none⟩ (.string (st n))).setCell ⟨x, fr * 8 + 1, none⟩ (.int .i64 0)).setCell ⟨x, fr * 8 + 2, none⟩ (.int .i64 (p : Int))).setCell ⟨x, fr * 8 + 3, none⟩ (.bool file)).setCell ⟨x, fr * 8 + 4, none⟩ (.string ⟨#[]⟩)).setCell ⟨x, fr * 8 + 5, none⟩ (.int .i64 0)).setCell ⟨x, fr * 8 + 6, none⟩ (.int .i64 0)).setCell ⟨x, fr * 8 + 7, none⟩ (.int .i64 0)) x (updT P fr ⟨n, 0, p, file, [], 0, 0, 0⟩) (P fr).next fi := hW.put fr hc.2 ⟨n, 0, p, file, [], 0, 0, 0⟩
        have op := only8 (i := fr) oW (fun _ => rfl) (.string (st n)) (.int .i64 0) (.int .i64 (p : Int)) (.bool file) (.string ⟨#[]⟩) (.int .i64 0) (.int .i64 0) (.int .i64 0)
        have Hp := hide hp
        have Op := hide op
        clear hp op hW oW
        go_upto_region 14 with fail
        generalize (((((((WW.setCell ⟨x, fr * 8, none⟩ (.string (st n))).setCell ⟨x, fr * 8 + 1, none⟩ (.int .i64 0)).setCell ⟨x, fr * 8 + 2, none⟩ (.int .i64 (p : Int))).setCell ⟨x, fr * 8 + 3, none⟩ (.bool file)).setCell ⟨x, fr * 8 + 4, none⟩ (.string ⟨#[]⟩)).setCell ⟨x, fr * 8 + 5, none⟩ (.int .i64 0)).setCell ⟨x, fr * 8 + 6, none⟩ (.int .i64 0)).setCell ⟨x, fr * 8 + 7, none⟩ (.int .i64 0) = W2 at *
        clear z0 z1 z2 z3 z4 z5 z6 z7
        have hx2 := (unhide Hp).lt
        by_cases hb0 : b = 0
        · have t1 := (unhide Hp).ch d hd
          have t2 := (unhide Hp).fz (d * 8 + 1)
          have hq := (unhide Hp).setChild d hd fr
          have hdu : updT P fr ⟨n, 0, p, file, [], 0, 0, 0⟩ d = P d := updT_other _ _ _ _ (fun e => hcd e.symm)
          rw [hdu] at t1 hq
          have Hq := hide hq
          have oq := hide ((unhide Op).setCell (p := ⟨x, d * 8 + 1, none⟩) (fun _ => rfl) (.int .i64 (fr : Int)))
          have e0 : ((b : Int) == 0) = true := by rw [hb0]; rfl
          have Hb0 := hide hb0
          clear hq hdu hb0
          go_wp2_with fail
          go_ret
          rw [unhide HX0 (by rw [unhide HspG]; exact unhide Hb0), unhide HspG]
          exact ⟨rfl, unhide Hq, unhide oq⟩
        · obtain ⟨hb49, hbf⟩ := unhide Hne0 (by rw [unhide HspG]; exact hb0)
          rw [unhide HspG] at hb49 hbf
          have hb49' : b < 49 := hb49
          have hbf' : b ≠ fr := hbf
          have t1 := (unhide Hp).nx b hb49'
          have t2 := (unhide Hp).fz (b * 8 + 2)
          have hq := (unhide Hp).setNext b hb49' fr
          have hdu : updT P fr ⟨n, 0, p, file, [], 0, 0, 0⟩ b = P b := updT_other _ _ _ _ hbf'
          rw [hdu] at t1 hq
          have Hq := hide hq
          have oq := hide ((unhide Op).setCell (p := ⟨x, b * 8 + 2, none⟩) (fun _ => rfl) (.int .i64 (fr : Int)))
          have e0 : ((b : Int) == 0) = false := by simp; omega
          have b1 : (b : Int) < 49 := by omega
          have Hb0 := hide hb0
          clear hq hdu hb0 hb49 hbf
          go_wp2_with fail
          go_ret
          rw [unhide HX1 (by rw [unhide HspG]; exact unhide Hb0), unhide HspG]
          exact ⟨rfl, unhide Hq, unhide oq⟩
      · have hspG' : sp = r.spot (keyF n file) p := by rw [hspG]; simp only [Fo.spot]; rw [if_neg hbl]
        have HspG := hide hspG'
        have e1 : (Op.bytesLess n' (keyF n file) || n' == keyF n file) = true := by
          rcases bl_total n' (keyF n file) with e | e | e
          · have e' : Op.bytesLess n' (keyF n file) = true := e
            rw [e']; rfl
          · rw [e]; simp
          · exact absurd e hbl
        have e2 : Op.bytesLess n' (keyF n file) = true ∨ (Op.bytesLess n' (keyF n file) = false ∧ (n' == keyF n file) = true) := by
          cases h1 : Op.bytesLess n' (keyF n file) with
          | true => exact .inl rfl
          | false => rw [h1] at e1; exact .inr ⟨rfl, by simpa using e1⟩
        clear hspG hspG' hbl e1
        generalize keyF n file = key at *
        rcases e2 with e2 | ⟨e2, e3⟩
        · go_wp2_with fail
          go_quiet (first | (go_at_call 52; refine Calls.quiet_of_same ((unhide C2) _)))
          have hoW := ho.drewO nq
          have hbk : (wr.drewN nq).cell? ⟨x, p * 8 + 2, none⟩ = some (.int .i64 (q : Int)) := b2
          generalize wr.drewN nq = WW at *
          have hxW : x < WW.heap.size := Nat.lt_of_lt_of_le hx1 hoW.size
          clear b0 b2 b3 hr C2 ho
          go_wp2_with fail
          go_roundw
          case rel => exact ⟨i + 1, p, q, r, rfl, rfl, by go_num, unhide H4, by omega, unhide HspG, unhide Hnmr, hoW⟩
          case measure => simp [intOf]; omega
        · go_wp2_with fail
          go_quiet (first | (go_at_call 52; refine Calls.quiet_of_same ((unhide C2) _)))
          have hoW := ho.drewO nq
          have hbk : (wr.drewN nq).cell? ⟨x, p * 8 + 2, none⟩ = some (.int .i64 (q : Int)) := b2
          generalize wr.drewN nq = WW at *
          have hxW : x < WW.heap.size := Nat.lt_of_lt_of_le hx1 hoW.size
          clear b0 b2 b3 hr C2 ho
          go_wp2_with fail
          go_roundw
          case rel => exact ⟨i + 1, p, q, r, rfl, rfl, by go_num, unhide H4, by omega, unhide HspG, unhide Hnmr, hoW⟩
          case measure => simp [intOf]; omega
    | dir c' n' k' r =>
      obtain ⟨rfl, h2, h3, _, h4⟩ := hG
      have b0 := hr.nm p h2.2
      have b2 := hr.nx p h2.2
      have b3 := hr.fl p h2.2
      have hnm2 : (P p).name = n' := by rw [h3]
      have hfl2 : (P p).file = false := by rw [h3]
      rw [hnm2] at b0
      rw [hfl2] at b3
      have p1 : (p : Int) < 49 := by omega
      have p2 : ((p : Int) != 0) = true := by simp; omega
      have H4 := hide h4
      have hn12 : n'.length ≤ 12 := hnm n' (by simp [Fo.names])
      have hnmr : ∀ q ∈ r.names, q.length ≤ 12 := fun q hq => hnm q (by simp [Fo.names, hq])
      have Hnmr := hide hnmr
      have C2 := fun (k : Nat) => (keyOf_any n' false (by omega) (wr.drewN k)).mono (R' := fun e w' => e = .returned (.string (st (n' ++ [47]))) ∧ w' = wr.drewN k) (fun e w' h => ⟨h.1, h.2.symm⟩)
      have C2 := hide C2
      generalize hq0 : (P p).next = q at *
      clear hq0
      simp only [Fo.sibs] at hi
      clear h3 h4 hnm2 hfl2 hnm hnmr
      by_cases hbl : bl (keyF n file) (n' ++ [47]) = true
      · have hspG' : sp = (b, p) := by rw [hspG]; simp only [Fo.spot]; rw [if_pos hbl]
        have HspG := hide hspG'
        have e1 : Op.bytesLess (n' ++ [47]) (keyF n file) = false := bl_asymm hbl
        have e2 : ((n' ++ [47]) == keyF n file) = false := by
          cases hh : (n' ++ [47]) == keyF n file with
          | false => rfl
          | true =>
            have : (n' ++ [47]) = keyF n file := by simpa using hh
            rw [this, bl_irr] at hbl; cases hbl
        clear hspG hspG' hbl
        generalize keyF n file = key at *
        go_wp2_with fail
        go_quiet (first | (go_at_call 52; refine Calls.quiet_of_same ((unhide C2) _)))
        have hoW := ho.drewO nq
        generalize wr.drewN nq = WW at *
        clear b0 b2 b3 hr C2 ho
        have oW : Only (fun k => k = x) w WW := (unhide O1).trans hoW (fun _ _ h => h.elim)
        have hW := (unhide H1).keep hoW (fun h => h)
        have hxW := hW.lt
        obtain ⟨z0, z1, z2, z3, z4, z5, z6, z7⟩ := hW.all fr hc.2
        have hp : IAt ((((((((WW.setCell ⟨x, fr * 8, none⟩ (.string (st n))).setCell ⟨x, fr * 8 + 1, none⟩ (.int .i64 0)).setCell ⟨x, fr * 8 + 2, none⟩ (.int .i64 (p : Int))).setCell ⟨x, fr * 8 + 3, none⟩ (.bool file)).setCell ⟨x, fr * 8 + 4, none⟩ (.string ⟨#[]⟩)).setCell ⟨x, fr * 8 + 5, none⟩ (.int .i64 0)).setCell ⟨x, fr * 8 + 6, none⟩ (.int .i64 0)).setCell ⟨x, fr * 8 + 7, none⟩ (.int .i64 0)) x (updT P fr ⟨n, 0, p, file, [], 0, 0, 0⟩) (P fr).next fi := hW.put fr hc.2 ⟨n, 0, p, file, [], 0, 0, 0⟩
        have op := only8 (i := fr) oW (fun _ => rfl) (.string (st n)) (.int .i64 0) (.int .i64 (p : Int)) (.bool file) (.string ⟨#[]⟩) (.int .i64 0) (.int .i64 0) (.int .i64 0)
        have Hp := hide hp
        have Op := hide op
        clear hp op hW oW
        go_upto_region 14 with fail
        generalize (((((((WW.setCell ⟨x, fr * 8, none⟩ (.string (st n))).setCell ⟨x, fr * 8 + 1, none⟩ (.int .i64 0)).setCell ⟨x, fr * 8 + 2, none⟩ (.int .i64 (p : Int))).setCell ⟨x, fr * 8 + 3, none⟩ (.bool file)).setCell ⟨x, fr * 8 + 4, none⟩ (.string ⟨#[]⟩)).setCell ⟨x, fr * 8 + 5, none⟩ (.int .i64 0)).setCell ⟨x, fr * 8 + 6, none⟩ (.int .i64 0)).setCell ⟨x, fr * 8 + 7, none⟩ (.int .i64 0) = W2 at *
        clear z0 z1 z2 z3 z4 z5 z6 z7
        have hx2 := (unhide Hp).lt
        by_cases hb0 : b = 0
        · have t1 := (unhide Hp).ch d hd
          have t2 := (unhide Hp).fz (d * 8 + 1)
          have hq := (unhide Hp).setChild d hd fr
          have hdu : updT P fr ⟨n, 0, p, file, [], 0, 0, 0⟩ d = P d := updT_other _ _ _ _ (fun e => hcd e.symm)
          rw [hdu] at t1 hq
          have Hq := hide hq
          have oq := hide ((unhide Op).setCell (p := ⟨x, d * 8 + 1, none⟩) (fun _ => rfl) (.int .i64 (fr : Int)))
          have e0 : ((b : Int) == 0) = true := by rw [hb0]; rfl
          have Hb0 := hide hb0
          clear hq hdu hb0
          go_wp2_with fail
          go_ret
          rw [unhide HX0 (by rw [unhide HspG]; exact unhide Hb0), unhide HspG]
          exact ⟨rfl, unhide Hq, unhide oq⟩
        · obtain ⟨hb49, hbf⟩ := unhide Hne0 (by rw [unhide HspG]; exact hb0)
          rw [unhide HspG] at hb49 hbf
          have hb49' : b < 49 := hb49
          have hbf' : b ≠ fr := hbf
          have t1 := (unhide Hp).nx b hb49'
          have t2 := (unhide Hp).fz (b * 8 + 2)
          have hq := (unhide Hp).setNext b hb49' fr
          have hdu : updT P fr ⟨n, 0, p, file, [], 0, 0, 0⟩ b = P b := updT_other _ _ _ _ hbf'
          rw [hdu] at t1 hq
          have Hq := hide hq
          have oq := hide ((unhide Op).setCell (p := ⟨x, b * 8 + 2, none⟩) (fun _ => rfl) (.int .i64 (fr : Int)))
          have e0 : ((b : Int) == 0) = false := by simp; omega
          have b1 : (b : Int) < 49 := by omega
          have Hb0 := hide hb0
          clear hq hdu hb0 hb49 hbf
          go_wp2_with fail
          go_ret
          rw [unhide HX1 (by rw [unhide HspG]; exact unhide Hb0), unhide HspG]
          exact ⟨rfl, unhide Hq, unhide oq⟩
      · have hspG' : sp = r.spot (keyF n file) p := by rw [hspG]; simp only [Fo.spot]; rw [if_neg hbl]
        have HspG := hide hspG'
        have e1 : (Op.bytesLess (n' ++ [47]) (keyF n file) || (n' ++ [47]) == keyF n file) = true := by
          rcases bl_total (n' ++ [47]) (keyF n file) with e | e | e
          · have e' : Op.bytesLess (n' ++ [47]) (keyF n file) = true := e
            rw [e']; rfl
          · rw [e]; simp
          · exact absurd e hbl
        have e2 : Op.bytesLess (n' ++ [47]) (keyF n file) = true ∨ (Op.bytesLess (n' ++ [47]) (keyF n file) = false ∧ ((n' ++ [47]) == keyF n file) = true) := by
          cases h1 : Op.bytesLess (n' ++ [47]) (keyF n file) with
          | true => exact .inl rfl
          | false => rw [h1] at e1; exact .inr ⟨rfl, by simpa using e1⟩
        clear hspG hspG' hbl e1
        generalize keyF n file = key at *
        rcases e2 with e2 | ⟨e2, e3⟩
        · go_wp2_with fail
          go_quiet (first | (go_at_call 52; refine Calls.quiet_of_same ((unhide C2) _)))
          have hoW := ho.drewO nq
          have hbk : (wr.drewN nq).cell? ⟨x, p * 8 + 2, none⟩ = some (.int .i64 (q : Int)) := b2
          generalize wr.drewN nq = WW at *
          have hxW : x < WW.heap.size := Nat.lt_of_lt_of_le hx1 hoW.size
          clear b0 b2 b3 hr C2 ho
          go_wp2_with fail
          go_roundw
          case rel => exact ⟨i + 1, p, q, r, rfl, rfl, by go_num, unhide H4, by omega, unhide HspG, unhide Hnmr, hoW⟩
          case measure => simp [intOf]; omega
        · go_wp2_with fail
          go_quiet (first | (go_at_call 52; refine Calls.quiet_of_same ((unhide C2) _)))
          have hoW := ho.drewO nq
          have hbk : (wr.drewN nq).cell? ⟨x, p * 8 + 2, none⟩ = some (.int .i64 (q : Int)) := b2
          generalize wr.drewN nq = WW at *
          have hxW : x < WW.heap.size := Nat.lt_of_lt_of_le hx1 hoW.size
          clear b0 b2 b3 hr C2 ho
          go_wp2_with fail
          go_roundw
          case rel => exact ⟨i + 1, p, q, r, rfl, rfl, by go_num, unhide H4, by omega, unhide HspG, unhide Hnmr, hoW⟩
          case measure => simp [intOf]; omega
end
end Go.Proofs.Qxb6500418a
