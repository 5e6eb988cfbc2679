/-
  OWN WORK. THE LAW OF THE INDEX: the walk.
-/
import Derived.Test.Qxb6500418aILD
import Derived.Deep.CutBlock
namespace Go.Proofs.Qxb6500418a
open Go.RowKit Go.PlainAid
set_option linter.unusedSimpArgs false
set_option linter.unusedVariables false

theorem ilground_any (w : World) : Calls Try.prog 7 #[] w fun e w' => (∃ v, e = .returned v) ∧ Only (fun _ => False) w w' := by
  have o := (Only.refl (fun _ => False) w).alloc (.cells #[] 28)
  go_enter Try.func7, Try.ntmps7
  go_wp2_with fail
  refine bodyPost_ret (v := .agg #[]) (by simp [results, Try.results7, go_sem]) rfl ?_
  exact ⟨⟨_, rfl⟩, o⟩

set_option maxRecDepth 100000 in
set_option maxHeartbeats 16000000 in
theorem ilwalk_any (ad : Option Addr) (len cap : Nat) (ops : List OpD) (quiet : Bool) (w : World) (hops : OpsAt w ad len ops) (hlen : len ≤ 4398046511104) :
    Calls Try.prog 6 #[.slice ad len cap, .bool quiet] w fun e w' => (∃ v, e = .returned (.tuple #[.int .i64 (-1), v])) ∧ Below w.heap.size w w' := by
  obtain ⟨i0, hi0, hz0, hz1, hz2⟩ := info_parts Try.infoFile
  go_enter Try.func6, Try.ntmps6
  go_wp2_with fail
  refine (ilground_any _).mono ?_
  rintro e w1 ⟨⟨gv, rfl⟩, ho1⟩
  go_wp2_with fail
  refine (inew_any _).mono ?_
  rintro e w2 ⟨x, rfl, hx, h2, ho2⟩
  have s1 := ho1.size
  have s2 := ho2.size
  have hxl := h2.lt
  go_wp2_with fail
  refine (xnew_any _).mono ?_
  rintro e w3 ⟨rfl, h3, ho3⟩
  have s3 := ho3.size
  have ho13 := (ho1.trans ho2 (fun _ _ h => h)).trans ho3 (fun _ _ h => h)
  have j3 : JX w3 x w2.heap.size [] (Ext (fun _ => False) w2 w3) := ⟨h2.keep ho3 (fun h => h), h3, fun e => by rcases e with e | e; exact e.elim; omega⟩
  have hI3 : LWI w x w2.heap.size [] (Ext (fun _ => False) w2 w3) (.slice none 0 0) [] (.slice none 0 0) [] w3 := by
    refine ⟨j3, OwnF.nil _, OwnF.nil _, by simp, by simp, fun y hy => by simp [Value.ownBlock] at hy, fun y hy => by simp [Value.ownBlock] at hy, fun y hy => by simp [Value.ownBlock] at hy, by omega, fun k hk => ?_, Only.bel (Below.refl _ _) ho13 (fun _ h => h.elim)⟩
    rcases hk with e | e
    · exact e.elim
    · omega
  have HI3 := hide hI3
  have C4 := hide (ilalike_any j3 ⟨#[]⟩)
  clear hI3 j3 h2 h3 ho1 ho2 ho3 ho13
  generalize w2.heap.size = m at *
  go_upto_if 18 with fail
  go_cut [] (fun wx => Only (fun _ => False) w3 wx)
  case first =>
    cases quiet with
    | true =>
      refine wp_cond_false rfl ?_
      go_wp2_with fail
      go_meet
      exact Only.refl _ _
    | false =>
      refine wp_cond_true rfl ?_
      go_wp2_with fail
      refine (unhide C4).mono ?_
      rintro e w7 ⟨rfl, ho7⟩
      go_wp2_with fail
      go_meet
      exact ho7
  case rest =>
  have HI4 := hide ((unhide HI3).quiet hcut)
  clear HI3 C4 hcut
  go_wp2_with fail
  go_loopw [8, 9, 11] (fun hv kv iv wr => ∃ (k : Nat) (L : List Fl) (H : Nat → Prop) (lh lw : List Fl), k ≤ len ∧ iv = .int .i64 k ∧ LWI w x m L H hv lh kv lw wr) (fun _ _ iv _ => len - (intOf iv).toNat)
  case atStart => exact ⟨0, _, _, _, _, Nat.zero_le _, rfl, unhide HI4⟩
  case round =>
    clear HI4
    obtain ⟨k, L, H, lh, lw, hk, rfl, hwi⟩ := hrel
    by_cases hkl : k < len
    · obtain ⟨hol, hoa⟩ := hops
      obtain ⟨ab, aoff, rfl, hcells⟩ := hoa (by omega)
      obtain ⟨y0, y1, y2, y3, y4, y5, hsz⟩ := hcells k (by omega)
      clear hcells hoa
      have hbel := hwi.bel
      have hab : ab < w.heap.size := World.block_lt_of_cell? w ⟨ab, aoff + k * 6, none⟩ y0
      rw [← hbel.cell (p := ⟨ab, aoff + k * 6, none⟩) hab] at y0
      rw [← hbel.cell (p := ⟨ab, aoff + k * 6 + 1, none⟩) hab] at y1
      rw [← hbel.cell (p := ⟨ab, aoff + k * 6 + 2, none⟩) hab] at y2
      rw [← hbel.cell (p := ⟨ab, aoff + k * 6 + 3, none⟩) hab] at y3
      rw [← hbel.cell (p := ⟨ab, aoff + k * 6 + 4, none⟩) hab] at y4
      rw [← hbel.cell (p := ⟨ab, aoff + k * 6 + 5, none⟩) hab] at y5
      generalize ops[k]'(by omega) = o at *
      obtain ⟨ok, oa, oo2, oc, os, ot⟩ := o
      simp only at y0 y1 y2 y3 y4 y5 hsz
      have hkI : (k : Int) < (len : Int) := by omega
      have hkM : decide ((k : Int) < 4398046511104) = true := by simp; omega
      have oo : Only (fun _ => False) wr (wr.alloc (.cells #[.int .i64 ok, .int .i64 oa, .int .i64 oo2, .int .i64 oc, .string os, .string ot] 37)) := (Only.refl _ wr).alloc _
      obtain ⟨ob, hob⟩ : ∃ ob, ob = wr.heap.size := ⟨_, rfl⟩
      have ko := Has.new' wr #[.int .i64 ok, .int .i64 oa, .int .i64 oo2, .int .i64 oc, .string os, .string ot] 37 ob hob
      have hwi0 := hwi.quiet oo
      have hobx : ob ≠ x := by have := hwi.j.ix.lt; omega
      have hobH : ¬ H ob := fun e => by have := hwi.j.xa.inn ob e; omega
      have n1 : ∀ y, u8.ownBlock = some y → ob ≠ y := fun y hy => by have := own_lt hwi.hh y hy; omega
      have n2 : ∀ y, u9.ownBlock = some y → ob ≠ y := fun y hy => by have := own_lt hwi.hk y hy; omega
      have Hob := hide hob
      have KO := hide ko
      have HW := hide hwi0
      clear hwi hbel oo ko hwi0 hob
      go_upto_block 2 with fail
      rw [← unhide Hob]
      clear Hob
      generalize (wr.alloc (.cells #[.int .i64 ok, .int .i64 oa, .int .i64 oo2, .int .i64 oc, .string os, .string ot] 37)) = W0 at *
      have ko := unhide KO
      have hol := ko.lt
      have q0 := ko.cell 0
      have q1 := ko.cell 1
      have q2 := ko.cell 2
      have q3 := ko.cell 3
      have q4 := ko.cell 4
      have q5 := ko.cell 5
      clear ko y0 y1 y2 y3 y4 y5
      go_cut [8, 9, 13] (fun hv' kv' sv wx => sv = .bool true ∧ Has wx ob #[.int .i64 ok, .int .i64 oa, .int .i64 oo2, .int .i64 oc, .string os, .string ot] 37 ∧ ∃ (L' : List Fl) (H' : Nat → Prop) (lh' lw' : List Fl), LWI w x m L' H' hv' lh' kv' lw' wx)
      case first =>
        by_cases k1 : ok = 1
        · subst k1
          as_aux_lemma =>
          have C := sameSet_any (unhide HW).j ⟨os, ot, oa⟩
          dsimp only at C
          have C := hide C
          go_wp2_with fail
          refine (unhide C).mono ?_
          rintro e w1 ⟨rfl, hp⟩
          go_wp2_with fail
          go_meet
          obtain ⟨L', H', hq⟩ := (unhide HW).op hp
          exact ⟨rfl, (unhide HW).op_keep hp (unhide KO) hobx hobH, L', H', _, _, hq⟩
        have b1 : (ok == 1) = false := by simpa using k1
        by_cases k2 : ok = 2
        · subst k2
          as_aux_lemma =>
          have C := hide (sameDel_any (unhide HW).j os)
          go_wp2_with fail
          refine (unhide C).mono ?_
          rintro e w1 ⟨rfl, hp⟩
          go_wp2_with fail
          go_meet
          obtain ⟨L', H', hq⟩ := (unhide HW).op hp
          exact ⟨rfl, (unhide HW).op_keep hp (unhide KO) hobx hobH, L', H', _, _, hq⟩
        have b2 : (ok == 2) = false := by simpa using k2
        by_cases k3 : ok = 3
        · subst k3
          as_aux_lemma =>
          have C := hide (sameGet_any (unhide HW).j os)
          go_wp2_with fail
          refine (unhide C).mono ?_
          rintro e w1 ⟨rfl, ho⟩
          go_wp2_with fail
          go_meet
          exact ⟨rfl, (unhide KO).keep ho (fun h => h), _, _, _, _, ((unhide HW).quiet ho)⟩
        have b3 : (ok == 3) = false := by simpa using k3
        by_cases k4 : ok = 4
        · subst k4
          as_aux_lemma =>
          obtain ⟨a1, cap1, rfl⟩ := ownsRow_shape (unhide HW).hh
          obtain ⟨a2, cap2, rfl⟩ := ownsRow_shape (unhide HW).hk
          by_cases a0 : oa = 0
          · subst a0
            have own1 : W0.ownsRow 0 40 3 _ _ _ := (unhide HW).hh
            by_cases l8 : lh.length ≤ 8
            · have d8 : decide ((lh.length : Int) ≤ 8) = true := by simp; omega
              go_wp2_with (at_builtin; refine wpList_append2 _ rfl _ _ 34 rfl 40 i0 _ 3 40 Try.underlying34 hi0 hz0 hz1 hz2 rfl (by decide) _ _ _ rfl (own1.alloc _) ⟨W0.heap.size, 0, none⟩ 1 1 [.string os, .string ot, .int .i64 oo2] rfl rfl ?c1 ?c2 ?c3 ?c4 ?_)
              try (case c1 => exact news_ok _ _ _ _ rfl)
              case c2 => first | exact ⟨rfl, rfl, rfl⟩ | (intro u hu; simp at hu; rcases hu with rfl | rfl | rfl <;> rfl)
              case c3 => unfold maxLen; omega
              case c4 => omega
              intro v4 w4 hown' hgrow hwhere
              have h4 := (unhide HW).row l8 ⟨os, ot, oo2⟩ hown' rfl hgrow hwhere
              have o4 := ((Only.refl _ W0).alloc _).grown (S := fun k => Value.ownBlock _ = some k) hgrow (fun k hk _ => hk)
              have r4 := (unhide KO).keep o4 (fun e => n1 ob e rfl)
              have z1 := r4.cell 1
              have H4 := hide h4
              have R4 := hide r4
              clear hown' hgrow hwhere own1 h4 o4 r4
              go_wp2_with fail
              go_meet
              exact ⟨rfl, unhide R4, _, _, _, _, (unhide H4)⟩
            · have d8 : decide ((lh.length : Int) ≤ 8) = false := by simp; omega
              go_wp2_with fail
              go_meet
              exact ⟨rfl, unhide KO, _, _, _, _, unhide HW⟩
          · have e0 : (oa == 0) = false := by simpa using a0
            by_cases a1 : oa = 1
            · subst a1
              have own1 : W0.ownsRow 0 40 3 _ _ _ := (unhide HW).hk
              by_cases l8 : lw.length ≤ 8
              · have d8 : decide ((lw.length : Int) ≤ 8) = true := by simp; omega
                go_wp2_with (at_builtin; refine wpList_append2 _ rfl _ _ 34 rfl 40 i0 _ 3 40 Try.underlying34 hi0 hz0 hz1 hz2 rfl (by decide) _ _ _ rfl (own1.alloc _) ⟨W0.heap.size, 0, none⟩ 1 1 [.string os, .string ot, .int .i64 oo2] rfl rfl ?c1 ?c2 ?c3 ?c4 ?_)
                try (case c1 => exact news_ok _ _ _ _ rfl)
                case c2 => first | exact ⟨rfl, rfl, rfl⟩ | (intro u hu; simp at hu; rcases hu with rfl | rfl | rfl <;> rfl)
                case c3 => unfold maxLen; omega
                case c4 => omega
                intro v4 w4 hown' hgrow hwhere
                have h4 := ((unhide HW).swap).row l8 ⟨os, ot, oo2⟩ hown' rfl hgrow hwhere
                have o4 := ((Only.refl _ W0).alloc _).grown (S := fun k => Value.ownBlock _ = some k) hgrow (fun k hk _ => hk)
                have r4 := (unhide KO).keep o4 (fun e => n2 ob e rfl)
                have z1 := r4.cell 1
                have H4 := hide h4
                have R4 := hide r4
                clear hown' hgrow hwhere own1 h4 o4 r4
                go_wp2_with fail
                go_meet
                exact ⟨rfl, unhide R4, _, _, _, _, (unhide H4).swap⟩
              · have d8 : decide ((lw.length : Int) ≤ 8) = false := by simp; omega
                go_wp2_with fail
                go_meet
                exact ⟨rfl, unhide KO, _, _, _, _, unhide HW⟩
            · have e1 : (oa == 1) = false := by simpa using a1
              go_wp2_with fail
              go_meet
              exact ⟨rfl, unhide KO, _, _, _, _, unhide HW⟩
        have b4 : (ok == 4) = false := by simpa using k4
        by_cases k5 : ok = 5
        · subst k5
          as_aux_lemma =>
          have C := hide (sameLoad_any (unhide HW).j _ lh (unhide HW).hh (unhide HW).l1 (fun y hy => ((unhide HW).s1 y hy).2))
          go_wp2_with fail
          refine (unhide C).mono ?_
          rintro e w1 ⟨rfl, hp⟩
          go_wp2_with fail
          go_meet
          obtain ⟨L', H', hq⟩ := (unhide HW).op hp
          exact ⟨rfl, (unhide HW).op_keep hp (unhide KO) hobx hobH, L', H', _, _, hq.no1⟩
        have b5 : (ok == 5) = false := by simpa using k5
        by_cases k6 : ok = 6
        · subst k6
          as_aux_lemma =>
          have C := hide (sameStatus_any (unhide HW).j _ _ lh lw (unhide HW).hh (unhide HW).hk (unhide HW).l1 (unhide HW).l2 (oc != 0))
          go_wp2_with fail
          refine (unhide C).mono ?_
          rintro e w1 ⟨rfl, ho⟩
          go_wp2_with fail
          go_meet
          exact ⟨rfl, (unhide KO).keep ho (fun h => h), _, _, _, _, ((unhide HW).quiet ho).no1.no2⟩
        have b6 : (ok == 6) = false := by simpa using k6
        by_cases k7 : ok = 7
        · subst k7
          as_aux_lemma =>
          have C := hide (sameList_any (unhide HW).j (oc != 0))
          go_wp2_with fail
          refine (unhide C).mono ?_
          rintro e w1 ⟨rfl, ho⟩
          go_wp2_with fail
          go_meet
          exact ⟨rfl, (unhide KO).keep ho (fun h => h), _, _, _, _, ((unhide HW).quiet ho)⟩
        have b7 : (ok == 7) = false := by simpa using k7
        by_cases k8 : ok = 8
        · subst k8
          as_aux_lemma =>
          have C := hide (icheck_any (unhide HW).j.ix)
          go_wp2_with fail
          refine (unhide C).mono ?_
          rintro e w1 ⟨rfl, ho⟩
          go_wp2_with fail
          go_meet
          exact ⟨rfl, (unhide KO).keep ho (fun h => h), _, _, _, _, ((unhide HW).quiet ho)⟩
        have b8 : (ok == 8) = false := by simpa using k8
        go_wp2_with fail
        go_meet
        exact ⟨rfl, unhide KO, _, _, _, _, unhide HW⟩
      case rest =>
      obtain ⟨rfl, ko', L', H', lh', lw', hw'⟩ := hcut
      have q4 := ko'.cell 4
      have hol' := ko'.lt
      have HW' := hide hw'
      clear HW KO q0 q1 q2 q3 q5 hol
      cases quiet with
      | true =>
        clear hw' ko'
        go_wp2_with fail
        go_roundw
        case rel => exact ⟨k + 1, _, _, _, _, by omega, by go_num, unhide HW'⟩
        case measure => simp [intOf]; omega
      | false =>
        have C8 := hide (ilalike_any hw'.j os)
        clear hw' ko'
        go_wp2_with fail
        refine (unhide C8).mono ?_
        rintro e w8 ⟨rfl, ho8⟩
        have HW8 := hide ((unhide HW').quiet ho8)
        clear ho8 HW' C8
        go_wp2_with fail
        go_roundw
        case rel => exact ⟨k + 1, _, _, _, _, by omega, by go_num, unhide HW8⟩
        case measure => simp [intOf]; omega
    · have hkI : decide ((k : Int) < (len : Int)) = false := by simp; omega
      have hb := hwi.bel
      clear hwi
      by_cases hl8 : len < 4398046511104
      · have hl9 : decide ((len : Int) < 4398046511104) = true := by simp; omega
        go_wp2_with fail
        go_ret2
        exact ⟨⟨_, rfl⟩, hb⟩
      · have hl9 : decide ((len : Int) < 4398046511104) = false := by simp; omega
        go_wp2_with fail
        go_ret2
        exact ⟨⟨_, rfl⟩, hb⟩
end Go.Proofs.Qxb6500418a
