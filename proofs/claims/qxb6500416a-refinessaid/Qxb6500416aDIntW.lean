/-
  OWN WORK. THE POOL OF LINES: intern, the walk.
-/
import Derived.Test.Qxb6500416aDInt
namespace Go.Proofs.Qxb6500416a
open Go.RowKit Go.PlainAid
set_option linter.unusedSimpArgs false
set_option linter.unusedVariables false

theorem and7 (n : Nat) : bits .and .i64 (n : Int) 7 = ((n % 8 : Nat) : Int) := by
  have hm : (BitVec.ofInt 64 7).toNat = 2 ^ 3 - 1 := by decide
  have hk : (BitVec.ofInt 64 (n : Int) &&& BitVec.ofInt 64 7).toNat = ((n : Int) % ((2 ^ 64 : Nat) : Int)).toNat % 2 ^ 3 := by
    rw [BitVec.toNat_and, BitVec.toNat_ofInt, hm, Nat.and_two_pow_sub_one_eq_mod]
  show IntKind.i64.wrap ((BitVec.ofInt 64 (n : Int) &&& BitVec.ofInt 64 7).toNat : Nat) = _
  rw [hk, IntKind.wrap_i64]
  omega
theorem buck_hash {a b : Str} (h : hashD a = hashD b) : buck a = buck b := by unfold buck; rw [h]
theorem sumV_new (L : List Str) (s : Str) : sumV L ++ [.int .i64 (hashD s : Int)] = sumV (L ++ [s]) := by simp [sumV]
theorem lineV_new (L : List Str) (s : Str) : lineV L ++ [.string (sb s)] = lineV (L ++ [s]) := by simp [lineV]
theorem nextV_new (L : List Str) (s : Str) : nextV L ++ [.int .i64 (lastB L (buck s) L.length : Int)] = nextV (L ++ [s]) := (next_new L s).symm
theorem EQ.fin {w0 W4 W : World} {e : Nat} {F : Nat → Prop} {hd : Nat → Nat} {lv sv nv : Value} {L : List Str} {s : Str} {bv hv k0 : Nat}
    (h4 : EQ w0 e F (updT hd bv (L.length + 1)) lv sv nv (lineV L ++ [.string (sb s)]) (sumV L ++ [.int .i64 (hv : Int)]) (nextV L ++ [.int .i64 (k0 : Int)]) W4) (hhs : hashD s = hv) (hbs : buck s = bv) (hk0 : lastB L bv L.length = k0)
    (hh : ∀ b, b < 8 → hd b = lastB L b L.length) (nd : L.Nodup) (ea : addL L s = L ++ [s]) (hW : Only (fun _ => False) W4 W) : EP W e (addL L s) (Ext F w0 W) ∧ Only F w0 W := by
  have h5 : EQ w0 e F (updT hd bv (L.length + 1)) lv sv nv (lineV (L ++ [s])) (sumV (L ++ [s])) (nextV (L ++ [s])) W4 := by
    rw [← lineV_new, ← sumV_new, ← nextV_new, hhs, hbs, hk0]
    exact h4
  have h6 := h5.close (fun b hb => by
    rw [head_new, hbs]
    by_cases eb : b = bv
    · rw [eb, updT_same, if_pos rfl]
    · rw [updT_other _ _ _ _ eb, if_neg (fun h => eb h.symm)]
      exact hh b hb) (by have := addL_nodup (s := s) nd; rw [ea] at this; exact this)
  have h7 := (h6.keep hW (fun _ _ h => h))
  have hs := hW.size
  refine And.intro (?_ : EP W e (addL L s) (Ext F w0 W)) (h4.ho.trans hW (fun _ _ h => h.elim))
  rw [ea]
  obtain ⟨q1, q2, q3, q4⟩ := h7
  obtain ⟨hd', l', s', n', p1, p2, p3, p4, p5, p6, p7⟩ := q1
  have hx : ∀ k, Ext F w0 W4 k → Ext F w0 W k := fun k hk => by
    rcases hk with hk | hk
    · exact .inl hk
    · exact .inr ⟨hk.1, by omega⟩
  exact ⟨⟨hd', l', s', n', p1, p2, p3, p4, p5, fun y hy => ⟨hx y (p6 y hy).1, (p6 y hy).2⟩, p7⟩, hx e q2, Ext.in h4.fi (Nat.le_trans h4.ho.size hs), q4⟩
section
variable {w : World} {e : Nat} {L : List Str} {F : Nat → Prop}
set_option maxRecDepth 100000 in
set_option maxHeartbeats 4000000 in
theorem dintern_any (h : EP w e L F) (s : Str) (hs : s.length ≤ 100000) (hL : L.length ≤ 100000) :
    Calls Try.prog 54 #[.pointer (some ⟨e, 0, none⟩), .string (sb s)] w fun x w' => x = .returned (.int .i64 (numL L s : Nat)) ∧ EP w' e (addL L s) (Ext F w w') ∧ Only F w w' := by
  obtain ⟨hd, lv, sv, nv, hQ, hh⟩ := h.open
  obtain ⟨la, lc, rfl⟩ : ∃ a c, lv = .slice a L.length c := by have := ownsRow_shape hQ.l; rw [lineV_len] at this; exact this
  obtain ⟨sa, sc, rfl⟩ : ∃ a c, sv = .slice a L.length c := by have := ownsRow_shape hQ.s; rw [sumV_len] at this; exact this
  obtain ⟨na, nc, rfl⟩ : ∃ a c, nv = .slice a L.length c := by have := ownsRow_shape hQ.n; rw [nextV_len] at this; exact this
  have C1a := dhashOf_any (sb s) (by rw [sb_size]; omega) w
  rw [ls_sb] at C1a
  have e7 := and7 (hashD s)
  have hlt := hashD_lt s
  have hb8 : buck s < 8 := Nat.mod_lt _ (by omega)
  have hbk : hashD s % 8 = buck s := rfl
  rw [hbk] at e7
  have b1 : (buck s : Int) < 8 := by omega
  obtain ⟨qh, fh⟩ := hQ.eat.head (buck s) hb8
  rw [hh _ hb8] at qh
  obtain ⟨q8, f8⟩ := hQ.eat.line_
  obtain ⟨q9, f9⟩ := hQ.eat.sum_
  obtain ⟨q10, f10⟩ := hQ.eat.next_
  have hel := hQ.eat.lt
  have HP : Hid (∀ (hm : s ∈ L), EP w e (addL L s) (Ext F w w)) := hide (fun hm => by
    have : addL L s = L := by unfold addL; rw [if_pos hm]
    rw [this]
    exact hQ.close hh h.nd)
  have HND := hide h.nd
  have HQ := hide hQ
  have Hh := hide hh
  have HW0 := hide (Walked.start L s)
  have C1 := hide C1a
  clear C1a
  have hle0 := lastB_le L (buck s) L.length
  obtain ⟨i0, hi0, hz0, hz1, hz2⟩ := info_parts Try.infoStr
  obtain ⟨j0, hj0, hy0, hy1, hy2⟩ := info_parts Try.dinfoInt
  generalize hhs : hashD s = hv at *
  generalize hbs : buck s = bv at *
  generalize hk0 : lastB L bv L.length = k0 at *
  have Hk0 := hide hk0
  have Hhs := hide hhs
  have Hbs := hide hbs
  clear hhs hbs hk0 hQ hh h hbk
  go_enter Try.func54, Try.ntmps54
  go_wp2_with fail
  refine (unhide C1).mono ?_
  rintro x w' ⟨rfl, rfl⟩
  go_wp2_with fail
  go_loop [7] (fun kv => ∃ n k : Nat, kv = .int .i64 k ∧ Walked L s n k ∧ k ≤ n) (fun kv => (intOf kv).toNat)
  case atStart => exact ⟨_, k0, rfl, unhide HW0, hle0⟩
  case round =>
    clear HW0 hle0
    obtain ⟨n, k, rfl, hW, hkn⟩ := hrel
    cases k with
    | zero =>
      have hout := hW.fin
      obtain ⟨en, ea⟩ := numL_new hout
      have a1 : decide ((0 : Int) < ((0 : Nat) : Int)) = false := by simp
      have own8 : w.ownsRow 0 9 1 _ _ _ := (unhide HQ).l
      rw [lineV_len] at own8
      have Hen := hide en
      have Hea := hide ea
      have Hout := hide hout
      clear hW hout en ea qh
      go_wp2_with (at_builtin; refine wpList_append2 _ rfl _ _ 49 rfl 9 i0 _ 1 16 Try.underlying49 hi0 hz0 hz1 hz2 rfl (by decide) _ _ _ rfl (own8.alloc _) ⟨w.heap.size, 0, none⟩ 1 1 [.string (sb s)] rfl rfl ?c1 ?c2 ?c3 ?c4 ?_)
      try (case c1 => exact news_ok _ _ _ _ rfl)
      case c2 => first | exact rfl | (intro u hu; simp at hu; rcases hu with rfl; rfl)
      case c3 => unfold maxLen; omega
      case c4 => omega
      intro lv' w1 hown' hgrow hwhere
      obtain ⟨la1, lc1, rfl⟩ := ownsRow_shape hown'
      have hm := (unhide HQ).midL hgrow
      obtain ⟨r8, g8⟩ := hm.line_
      have hml := hm.lt
      have hQ1 := (unhide HQ).pushL hown' (by rw [lineV_len]) hgrow hwhere
      have HQ1 := hide hQ1
      clear hm hown' hgrow hwhere own8 q8 f8 q9 f9 q10 f10 fh HQ hQ1
      go_upto_region 9 with fail
      generalize w1.setCell ⟨e, 8, none⟩ (.slice la1 (L.length + 1) lc1) = W1 at *
      clear r8 g8 hml
      obtain ⟨r9, g9⟩ := (unhide HQ1).eat.sum_
      have hml := (unhide HQ1).eat.lt
      have own9 : W1.ownsRow 0 3 1 _ _ _ := (unhide HQ1).s
      rw [sumV_len] at own9
      go_wp2_with (at_builtin; refine wpList_append2 _ rfl _ _ 50 rfl 3 j0 _ 1 8 Try.underlying50 hj0 hy0 hy1 hy2 rfl (by decide) _ _ _ rfl (own9.alloc _) ⟨W1.heap.size, 0, none⟩ 1 1 [.int .i64 (hv : Int)] rfl rfl ?d1 ?d2 ?d3 ?d4 ?_)
      try (case d1 => exact news_ok _ _ _ _ rfl)
      case d2 => first | exact rfl | (intro u hu; simp at hu; rcases hu with rfl; rfl)
      case d3 => unfold maxLen; omega
      case d4 => omega
      intro sv' w2 hown' hgrow hwhere
      obtain ⟨sa1, sc1, rfl⟩ := ownsRow_shape hown'
      have hm := (unhide HQ1).midS hgrow
      obtain ⟨r9', g9'⟩ := hm.sum_
      have hml2 := hm.lt
      have hQ2 := (unhide HQ1).pushS hown' (by rw [sumV_len]) hgrow hwhere
      have HQ2 := hide hQ2
      clear hm hown' hgrow hwhere own9 r9 g9 hml HQ1 hQ2
      go_upto_region 10 with fail
      generalize w2.setCell ⟨e, 9, none⟩ (.slice sa1 (L.length + 1) sc1) = W2 at *
      clear r9' g9' hml2
      have own10 : W2.ownsRow 0 3 1 _ _ _ := (unhide HQ2).n
      rw [nextV_len] at own10
      obtain ⟨r10, g10⟩ := (unhide HQ2).eat.next_
      obtain ⟨rh, gh⟩ := (unhide HQ2).eat.head bv hb8
      rw [unhide Hh bv hb8, unhide Hk0] at rh
      have hml := (unhide HQ2).eat.lt
      have hEd : EAt (W2.alloc (.cells #[.int .i64 (k0 : Int)] 3)).drew e hd _ _ _ := (unhide HQ2).eat.keep (((Only.refl (fun _ => False) W2).alloc _).drew) (fun h => h)
      obtain ⟨x10, y10⟩ := hEd.next_
      have nne := ownsRow_ne own10 (unhide HQ2).eat (by decide)
      have hne : (Value.slice na L.length nc).ownBlock ≠ some e := fun h => nne e h rfl
      have l5 : L.length + 1 ≤ maxLen := by unfold maxLen; omega
      have HPN := hide (fun v' w3 n x oG hown hn hwh => (unhide HQ2).pushN (w1 := w3) (v' := v') (x := x) (n := n) oG hown hn hwh)
      clear hEd nne
      go_region_law
        ((refine step_append_lies _ (by rfl) _ _ _ (by rfl) 0 3 j0 _ 1 8 Try.underlying50 hj0 hy0 hy1 hy2 rfl (by omega) (.slice na L.length nc) L.length (nextV L) (by rfl) ((own10.alloc _).drew) ⟨W2.heap.size, 0, none⟩ 1 1 [.int .i64 (k0 : Int)] (by rfl) (by rfl) (World.news_of_block (cs := #[.int .i64 (k0 : Int)]) (t := 3) (fr := (0, 0)) (heap_alloc_new W2 _)) (by simp [Value.oneCell']) (by omega) l5 (by omega) (by simp) (W2.heap.size + 1) (by simp) ?_; intro gg cap w3 hown1 hgrow hat hlt3; have y3 := (hgrow.cell_far ⟨e, 10, none⟩ (by simp; omega) (Ne.symm hne)).trans x10; have yz := (hgrow.frozen_far ⟨e, 10, none⟩ (by simp; omega) (Ne.symm hne)).trans y10))
      all_goals
        go_upto_region 11 with fail
        have oG : Only (fun y => (Value.slice na L.length nc).ownBlock = some y) W2 w3 := ((Only.refl (fun y => (Value.slice na L.length nc).ownBlock = some y) W2).alloc _).drew.grown hgrow (fun y hy _ => hy)
        have hQ3 := unhide HPN (.slice (some ⟨gg, 0, none⟩) (L.length + 1) cap) w3 (L.length + 1) _ oG hown1 (by rw [nextV_len]) (fun k hk => by
          simp [Value.ownBlock] at hk
          subst hk
          rcases hat with h | h
          · exact .inl h
          · exact .inr h)
        have HQ3 := hide hQ3
        clear hQ3 oG hown1 hgrow hat y3 yz x10 y10 r10 g10 rh gh hml HPN own10 hne hlt3
        generalize w3.setCell ⟨e, 10, none⟩ (.slice (some ⟨gg, 0, none⟩) (L.length + 1) cap) = W3 at *
        obtain ⟨s8, t8⟩ := (unhide HQ3).eat.line_
        obtain ⟨sh, th⟩ := (unhide HQ3).eat.head bv hb8
        have hml3 := (unhide HQ3).eat.lt
        have hQ4 := (unhide HQ3).setHead bv (L.length + 1) hb8
        have ec : ((L.length + 1 : Nat) : Int) = (L.length : Int) + 1 := by push_cast; rfl
        rw [ec] at hQ4
        obtain ⟨z8, _⟩ := hQ4.eat.line_
        have HQ4 := hide hQ4
        clear hQ4 HQ3 ec
        have hne8 : ¬ bv = 8 := by omega
        have hne8' : ¬ 8 = bv := by omega
        have HF := hide (fun (W : World) (hW : Only (fun _ => False) (W3.setCell ⟨e, bv, none⟩ (.int .i64 ((L.length : Int) + 1))) W) => EQ.fin (unhide HQ4) (unhide Hhs) (unhide Hbs) (unhide Hk0) (unhide Hh) (unhide HND) (unhide Hea) hW)
        clear HQ4
        go_region
        all_goals
          go_wp2_with fail
          go_ret
          refine ⟨by rw [unhide Hen]; first | rfl | (congr 2; omega), unhide HF _ ?_⟩
          first
          | exact Only.refl _ _
          | exact (Only.refl _ _).drew
          | exact (Only.refl _ _).drewO _
    | succ k =>
      obtain ⟨hk, hbk, hnx⟩ := hW.at
      obtain ⟨gl, cl, gs, cs, gn, cn, e1, e2, e3, c1, c2, c3, l1, l2, l3⟩ := (unhide HQ).cells k hk
      obtain ⟨rfl, rfl⟩ : la = some ⟨gl, 0, none⟩ ∧ lc = cl := by simpa using e1
      obtain ⟨rfl, rfl⟩ : sa = some ⟨gs, 0, none⟩ ∧ sc = cs := by simpa using e2
      obtain ⟨rfl, rfl⟩ : na = some ⟨gn, 0, none⟩ ∧ nc = cn := by simpa using e3
      have hkl : k ≤ 100000 := by omega
      have a1 : decide ((0 : Int) < ((k + 1 : Nat) : Int)) = true := decide_eq_true (by omega)
      have a2 : ((k + 1 : Nat) : Int) - 1 = (k : Int) := by omega
      have a3 : (k : Int) < (L.length : Int) := by omega
      have Hnx := hide hnx
      have hlb := lastB_le L (buck L[k]) k
      by_cases he : L[k] = s
      · obtain ⟨en, ea⟩ := numL_at (unhide HND) hk he
        have HE := hide (unhide HP (he ▸ List.getElem_mem hk))
        rw [he] at c1 c2
        rw [unhide Hhs] at c2
        have t1 : ((hv : Int) == (hv : Int)) = true := by simp
        have t2 := str_eq (sb s)
        have Hen := hide en
        clear hW hnx he hbk e1 e2 e3 en ea hlb Hnx
        go_wp2_with fail
        go_ret
        exact ⟨by rw [unhide Hen]; rfl, unhide HE, Only.refl _ _⟩
      · have HN := hide (hnx he)
        by_cases hh : hashD L[k] = hv
        · rw [hh] at c2
          have t1 : ((hv : Int) == (hv : Int)) = true := by simp
          have t2 : ((sb L[k]).toList == (sb s).toList) = false := by rw [beqB, ls_sb, ls_sb, decide_eq_false he]
          clear hW hnx he hbk e1 e2 e3 hh Hnx
          generalize lastB L (buck L[k]) k = k' at *
          generalize sb L[k] = x at *
          go_wp2_with fail
          go_round
          case rel => exact ⟨k, k', rfl, unhide HN, hlb⟩
          case measure => simp [intOf]; omega
        · have t1 : ((hashD L[k] : Int) == (hv : Int)) = false := by simp; omega
          clear hW hnx he hbk e1 e2 e3 hh Hnx
          generalize lastB L (buck L[k]) k = k' at *
          generalize hashD L[k] = hx at *
          generalize sb L[k] = x at *
          go_wp2_with fail
          go_round
          case rel => exact ⟨k, k', rfl, unhide HN, hlb⟩
          case measure => simp [intOf]; omega
end
end Go.Proofs.Qxb6500416a
