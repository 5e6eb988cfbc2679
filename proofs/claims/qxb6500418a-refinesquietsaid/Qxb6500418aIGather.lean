/-
  OWN WORK. THE INDEX: gather.
-/
import Derived.Test.Qxb6500418aIRows
namespace Go.Proofs.Qxb6500418a
open Go.RowKit Go.PlainAid
set_option linter.unusedSimpArgs false
set_option linter.unusedVariables false

theorem st_app (a b : Str) : st a ++ st b = st (a ++ b) := ls_inj (by rw [ls_cat, ls_st, ls_st, ls_st])
theorem cat_run (a b : Str) (h : a.length + b.length ≤ 100000) : binOp .add 9 (.string (st a)) (.string (st b)) = pure (.string (st (a ++ b))) := by
  rw [← st_app]
  simp [binOp, Op.stringOp]
  intro h'
  exfalso
  have h1 := st_size a
  have h2 := st_size b
  omega
theorem mkFl_parts (p d : Str) (m : Int) : (mkFl p d m).path = st p ∧ (mkFl p d m).data = st d ∧ (mkFl p d m).mode = m := ⟨rfl, rfl, rfl⟩

theorem RI.step {S : Nat → Prop} {w : World} {ov v' : Value} {outl out2 : List Fl} {wr w' : World} (h : RI S w ov outl wr) (k : RI (fun k => ov.ownBlock = some k) wr v' out2 w') : RI S w v' out2 w' := by
  have hs := h.ho.size
  refine ⟨k.own, fun y hy => ?_, h.ho.trans k.ho (fun i hi e => (h.hb i e).resolve_right (by omega))⟩
  rcases k.hb y hy with e | e
  · exact h.hb y e
  · exact .inr (by omega)

section
variable {x : Nat} {P : Nat → Nd} {fr fi : Nat}
set_option maxRecDepth 100000 in
set_option maxHeartbeats 4000000 in
theorem gather_any (n : Nat) : ∀ {w : World} (h : IAt w x P fr fi) (hn : n ≤ 6) (d : Nat) (hd : d < 49) (K : Fo) (hl : Lay P K (P d).child) (hs : K.ids.length ≤ 48) (hh : K.hgt ≤ n) (hsh : K.Short) (pre : Str) (hpre : pre.length + 13 * n ≤ 1000) (ov : Value) (outl : List Fl) (hown : OwnR w ov outl) (hx : ov.ownBlock ≠ some x) (hlen : outl.length + (K.gather pre).length ≤ 1000),
    Calls Try.prog 48 #[.pointer (some ⟨x, 0, none⟩), .int .i64 d, .string (st pre), .int .i64 n, ov] w fun e w' => ∃ v', e = .returned v' ∧ RI (fun k => ov.ownBlock = some k) w v' (outl ++ K.gather pre) w' := by
  induction n using Nat.strongRecOn with
  | ind n IH =>
    intro w h hn d hd K hl hs hh hsh pre hpre ov outl hown hx hlen
    obtain ⟨i0, hi0, hz0, hz1, hz2⟩ := info_parts Try.infoRow
    have hxl := h.lt
    have c1 := h.ch d hd
    have d1 : (d : Int) < 49 := by omega
    have H := hide h
    have HR : Hid (RI (fun k => ov.ownBlock = some k) w ov outl w) := hide ⟨hown, fun y hy => .inl hy, Only.refl _ _⟩
    have Hl := hide hl
    have Hsh := hide hsh
    have HIH := hide IH
    have hT : ∃ T, outl ++ K.gather pre = T := ⟨_, rfl⟩
    obtain ⟨T, hT⟩ := hT
    have hT1 : T.length ≤ 1000 := by rw [← hT]; simp; omega
    rw [hT]
    have HT := hide hT
    have hsb := sibs_ids K
    clear h hl hsh IH hT hown hlen
    generalize hp0 : (P d).child = p0 at *
    clear hp0
    go_enter Try.func48, Try.ntmps48
    go_wp2_with fail
    go_loopw [4, 11, 12] (fun ov1 cv nv wr => ∃ (i p : Nat) (G : Fo) (out1 : List Fl), cv = .int .i64 p ∧ nv = .int .i64 i ∧ Lay P G p ∧ i + G.sibs ≤ 48 ∧ G.ids.length ≤ 48 ∧ G.hgt ≤ n ∧ G.Short ∧ T = out1 ++ G.gather pre ∧ RI (fun k => ov.ownBlock = some k) w ov1 out1 wr) (fun _ _ nv _ => (49 - intOf nv).toNat)
    case atStart => exact ⟨0, p0, K, outl, rfl, rfl, unhide Hl, by omega, hs, hh, unhide Hsh, (unhide HT).symm, unhide HR⟩
    case round =>
      clear Hl Hsh HT HR c1
      obtain ⟨i, p, G, out1, rfl, rfl, hG, hi, hGs, hGh, hGsh, hTG, hRI⟩ := hrel
      have a1 : decide ((i : Int) < 49) = true := by simp; omega
      have h := (unhide H).keep hRI.ho hx
      have hxr := h.lt
      cases G with
      | nil =>
        have hp0 : p = 0 := hG
        have p2 : ((p : Int) != 0) = false := by rw [hp0]; rfl
        have hTe : T = out1 := by rw [hTG]; simp [Fo.gather]
        have HTe := hide hTe
        have HRI := hide hRI
        clear hG hp0 hTG hTe hRI h
        go_wp2_with fail
        go_ret
        rw [unhide HTe]
        exact ⟨_, rfl, unhide HRI⟩
      | file c' n' d' m' r =>
        obtain ⟨rfl, h2, h3, h4⟩ := hG
        obtain ⟨⟨z0, _⟩, ⟨z1, _⟩, ⟨z2, _⟩, ⟨z3, _⟩, ⟨z4, _⟩, ⟨z5, _⟩, ⟨z6, _⟩, ⟨z7, _⟩⟩ := h.all p h2.2
        generalize hq0 : (P p).next = q at *
        rw [h3] at z0 z1 z3 z4 z5 z6 z7
        have z1 : wr.cell? ⟨x, p * 8 + 1, none⟩ = some (.int .i64 0) := z1
        have p1 : (p : Int) < 49 := by omega
        have p2 : ((p : Int) != 0) = true := by simp; omega
        simp only [Fo.sibs] at hi
        simp only [Fo.ids, List.length_cons] at hGs
        simp only [Fo.hgt] at hGh
        have hTl := hTG
        have hcat := cat_run pre n' (by have := hGsh.1; omega)
        have hol : out1.length + 1 ≤ 1000 := by
          have := congrArg List.length hTG
          simp [Fo.gather] at this
          omega
        obtain ⟨tb, htb⟩ : ∃ tb, tb = wr.heap.size := ⟨_, rfl⟩
        have htb1 : wr.heap.size ≤ tb := by omega
        have hxt : x ≠ tb := by omega
        have r8 := Has.new' wr #[.string (st n'), .int .i64 0, .int .i64 (q : Int), .bool true, .string (st d'), .int .i64 m', .int .i64 (d'.length : Int), .int .i64 (hashL d' : Int)] 46 tb htb
        have o8 : Only (fun _ => False) wr (wr.alloc (.cells #[.string (st n'), .int .i64 0, .int .i64 (q : Int), .bool true, .string (st d'), .int .i64 m', .int .i64 (d'.length : Int), .int .i64 (hashL d' : Int)] 46)) := (Only.refl _ wr).alloc _
        have Hst : Hid (Lay P r q ∧ r.Short ∧ T = (out1 ++ [mkFl (pre ++ n') d' m']) ++ r.gather pre) := hide ⟨h4, hGsh.2, by rw [hTG]; simp [Fo.gather]⟩
        have HR8 := hide r8
        have HO8 := hide o8
        have HRI := hide hRI
        clear r8 o8 hRI h3 h4 hGsh hTG hTl hq0 h
        go_upto_region 6 with fail
        rw [← htb]
        clear htb
        have hR8 := (unhide HRI).quiet (unhide HO8)
        generalize (wr.alloc (.cells #[.string (st n'), .int .i64 0, .int .i64 (q : Int), .bool true, .string (st d'), .int .i64 m', .int .i64 (d'.length : Int), .int .i64 (hashL d' : Int)] 46)) = W8 at *
        have r8 := unhide HR8
        have htl := r8.lt
        have y0 := r8.cell 0
        have y3 := r8.cell 3
        have y4 := r8.cell 4
        have y5 := r8.cell 5
        have y6 := r8.cell 6
        have y7 := r8.cell 7
        have own8 : W8.ownsRow 0 86 5 _ _ _ := hR8.own
        have HRI8 := hide hR8
        clear hR8 r8 HRI HO8 z0 z1 z2 z3 z4 z5 z6 z7
        go_wp2_with (at_builtin; refine wpList_append2 _ rfl _ _ 83 rfl 86 i0 _ 5 56 Try.underlying83 hi0 hz0 hz1 hz2 rfl (by decide) _ _ _ rfl (own8.alloc _) ⟨W8.heap.size, 0, none⟩ 1 1 [.string (st (pre ++ n')), .string (st d'), .int .i64 m', .int .i64 (d'.length : Int), .int .i64 (hashL d' : Int)] rfl rfl ?c1 ?c2 ?c3 ?c4 ?_)
        try (case c1 => exact news_ok _ _ _ _ rfl)
        case c2 => first | exact ⟨rfl, rfl, rfl, rfl, rfl⟩ | (intro u hu; simp at hu; rcases hu with rfl | rfl | rfl | rfl | rfl <;> rfl)
        case c3 => unfold maxLen; omega
        case c4 => omega
        intro v4 w4 hown' hgrow hwhere
        have h4 := (unhide HRI8).push (mkFl (pre ++ n') d' m') hown' (by first | rfl | omega | (simp; omega)) hgrow hwhere
        have o4 := ((Only.refl _ W8).alloc _).grown (S := fun k => Value.ownBlock _ = some k) hgrow (fun k hk _ => hk)
        have r4 := (unhide HR8).keep o4 (fun e => ownsRow_ne own8 (unhide HR8) (by decide) tb e rfl)
        have y2 := r4.cell 2
        have ht4 := r4.lt
        have H4 := hide h4
        clear hown' hgrow hwhere own8 HRI8 h4 o4 r4 y0 y3 y4 y5 y6 y7 HR8
        go_wp2_with fail
        go_roundw
        case rel =>
          obtain ⟨s1, s2, s3⟩ := unhide Hst
          exact ⟨i + 1, q, r, _, rfl, by go_num, s1, by omega, by omega, by omega, s2, s3, unhide H4⟩
        case measure => simp [intOf]; omega
      | dir c' n' k' r =>
        obtain ⟨rfl, h2, h3, hk, h4⟩ := hG
        obtain ⟨⟨z0, _⟩, ⟨z1, _⟩, ⟨z2, _⟩, ⟨z3, _⟩, ⟨z4, _⟩, ⟨z5, _⟩, ⟨z6, _⟩, ⟨z7, _⟩⟩ := h.all p h2.2
        have HK0 := hide hk
        generalize hq0 : (P p).next = q at *
        generalize hch : (P p).child = ch at *
        rw [h3] at z0 z3 z4 z5 z6 z7
        have z4 : wr.cell? ⟨x, p * 8 + 4, none⟩ = some (.string ⟨#[]⟩) := z4
        have z6 : wr.cell? ⟨x, p * 8 + 6, none⟩ = some (.int .i64 0) := z6
        have z7 : wr.cell? ⟨x, p * 8 + 7, none⟩ = some (.int .i64 0) := z7
        have p1 : (p : Int) < 49 := by omega
        have p2 : ((p : Int) != 0) = true := by simp; omega
        simp only [Fo.sibs] at hi
        simp only [Fo.ids, List.length_cons, List.length_append] at hGs
        simp only [Fo.hgt] at hGh
        have hn12 := hGsh.1
        obtain ⟨tb, htb⟩ : ∃ tb, tb = wr.heap.size := ⟨_, rfl⟩
        have htb1 : wr.heap.size ≤ tb := by omega
        have hxt : x ≠ tb := by omega
        have r8 := Has.new' wr #[.string (st n'), .int .i64 (ch : Int), .int .i64 (q : Int), .bool false, .string ⟨#[]⟩, .int .i64 0, .int .i64 0, .int .i64 0] 46 tb htb
        have o8 : Only (fun _ => False) wr (wr.alloc (.cells #[.string (st n'), .int .i64 (ch : Int), .int .i64 (q : Int), .bool false, .string ⟨#[]⟩, .int .i64 0, .int .i64 0, .int .i64 0] 46)) := (Only.refl _ wr).alloc _
        have hR8 := hRI.quiet o8
        have h8 := h.keep o8 (fun h => h)
        have HR8 := hide r8
        have HRI8 := hide hR8
        have Htb := hide htb
        by_cases hn1 : 1 < n
        · obtain ⟨n1, hn2⟩ : ∃ n1, n1 + 1 = n := ⟨n - 1, by omega⟩
          have b1 : (1 : Int) < (n : Int) := by omega
          have b2 : (n : Int) - 1 = (n1 : Int) := by omega
          have b3 : IntKind.i64.wrap (n1 : Int) = (n1 : Int) := by rw [IntKind.wrap_i64]; omega
          have hcat := cat_run pre n' (by omega)
          have hcat2 : binOp .add 9 (.string (st (pre ++ n'))) (.string ⟨#[47]⟩) = pure (.string (st (pre ++ n' ++ [47]))) := cat_run (pre ++ n') [47] (by simp; omega)
          have hlen2 : out1.length + (k'.gather (pre ++ n' ++ [47])).length ≤ 1000 := by
            have := congrArg List.length hTG
            simp only [Fo.gather, List.length_append] at this
            omega
          have hpre2 : (pre ++ n' ++ [47]).length + 13 * n1 ≤ 1000 := by simp; omega
          have hx8 : Value.ownBlock u4 ≠ some x := fun e => by
            rcases hRI.hb x e with e2 | e2
            · exact hx e2
            · omega
          have C1 := (unhide HIH n1 (by omega) h8 (by omega) p h2.2 k' (by rw [hch]; exact hk) (by omega) (by omega) hGsh.2.1 (pre ++ n' ++ [47]) hpre2 _ out1 hR8.own hx8 hlen2)
          rw [List.append_assoc pre n' [47]] at C1
          have C1 := hide C1
          have Hst : Hid (Lay P r q ∧ r.Short ∧ T = (out1 ++ k'.gather (pre ++ (n' ++ [47]))) ++ r.gather pre) := hide ⟨h4, hGsh.2.2, by rw [hTG]; simp [Fo.gather]⟩
          clear r8 o8 hRI h3 h4 hGsh hTG hq0 hch h h8 hR8 hk HK0 hn2 hlen2 hpre2 hn1
          go_upto_region 6 with fail
          rw [← unhide Htb]
          clear Htb htb
          generalize (wr.alloc (.cells #[.string (st n'), .int .i64 (ch : Int), .int .i64 (q : Int), .bool false, .string ⟨#[]⟩, .int .i64 0, .int .i64 0, .int .i64 0] 46)) = W8 at *
          have r8 := unhide HR8
          have htl := r8.lt
          have y0 := r8.cell 0
          have y3 := r8.cell 3
          clear r8 z0 z1 z2 z3 z4 z5 z6 z7
          go_wp2_with fail
          refine (unhide C1).mono ?_
          rintro e w4 ⟨v4, rfl, hR4⟩
          have h4 := (unhide HRI8).step hR4
          have r4 := (unhide HR8).keep hR4.ho (fun e => ownsRow_ne (unhide HRI8).own (unhide HR8) (by decide) tb e rfl)
          have y2 := r4.cell 2
          have ht4 := r4.lt
          have H4 := hide h4
          clear h4 r4 hR4 y0 y3 HR8 HRI8 C1
          go_wp2_with fail
          go_roundw
          case rel =>
            obtain ⟨s1, s2, s3⟩ := unhide Hst
            exact ⟨i + 1, q, r, _, rfl, by go_num, s1, by omega, by omega, by omega, s2, s3, unhide H4⟩
          case measure => simp [intOf]; omega
        · have b1 : ¬ (1 : Int) < (n : Int) := by omega
          have b2 : decide ((1 : Int) < (n : Int)) = false := by simp; omega
          have hk0 : k' = .nil := hgt_zero (by omega)
          have Hst : Hid (Lay P r q ∧ r.Short ∧ T = out1 ++ r.gather pre) := hide ⟨h4, hGsh.2.2, by rw [hTG, hk0]; simp [Fo.gather]⟩
          clear r8 o8 hRI h3 h4 hGsh hTG hq0 hch h h8 hR8 hk HK0 hk0 hn1
          go_upto_region 6 with fail
          rw [← unhide Htb]
          clear Htb htb
          generalize (wr.alloc (.cells #[.string (st n'), .int .i64 (ch : Int), .int .i64 (q : Int), .bool false, .string ⟨#[]⟩, .int .i64 0, .int .i64 0, .int .i64 0] 46)) = W8 at *
          have r8 := unhide HR8
          have htl := r8.lt
          have y2 := r8.cell 2
          have y3 := r8.cell 3
          clear r8 z0 z1 z2 z3 z4 z5 z6 z7
          go_wp2_with fail
          go_roundw
          case rel =>
            obtain ⟨s1, s2, s3⟩ := unhide Hst
            exact ⟨i + 1, q, r, _, rfl, by go_num, s1, by omega, by omega, by omega, s2, s3, unhide HRI8⟩
          case measure => simp [intOf]; omega
end
end Go.Proofs.Qxb6500418a
