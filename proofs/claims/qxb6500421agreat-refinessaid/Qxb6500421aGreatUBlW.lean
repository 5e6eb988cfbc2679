/-
  OWN WORK. THE TREE MODEL: build, walked.
-/
import Derived.Test.Qxb6500421aGreatUBl2
import Derived.Test.Qxb6500421aGreatTBlW
import Derived.Deep.RegionHeldLaw
namespace Go.Proofs.Qxb6500421aGreat
open Go.RowKit Go.PlainAid
set_option linter.unusedSimpArgs false
set_option linter.unusedVariables false

theorem EntsIn.at_ {w : World} {a : Option Addr} {cap : Nat} {l : List En} (h : EntsIn w (.slice a l.length cap) l) (hn : 0 < l.length) : ∃ g, a = some ⟨g, 0, none⟩ ∧ ∀ i (h : i < l.length), w.cell? ⟨g, i * 3, none⟩ = some (.string (sb l[i].path)) ∧ w.cell? ⟨g, i * 3 + 1, none⟩ = some (.int .i64 l[i].id) ∧ w.cell? ⟨g, i * 3 + 2, none⟩ = some (.int .i64 l[i].mode) := by
  obtain ⟨a', cap', e, h2⟩ := h
  obtain ⟨rfl, rfl⟩ : a = a' ∧ cap = cap' := by simpa using e
  exact h2 hn
section
variable {m rt : Nat} {hist : Value}
set_option maxRecDepth 100000 in
set_option maxHeartbeats 4000000 in
theorem ubuild_any : ∀ (n : Nat) (w : World) (J : Nat → Sl) (H : Nat → Prop) (lv : Value) (l : List En), UAt w m J rt hist H → Inv J → EntsIn w lv l → (∀ y, lv.ownBlock = some y → y ≠ m) → Fine l → Deep n l → 1 ≤ n → Blobs J l →
      Calls Tryz.prog 94 #[.pointer (some ⟨m, 0, none⟩), lv] w fun e w' => e = .returned (.tuple #[.int .i64 ((bld n J l).2.1 : Nat), .int .i64 ((bld n J l).2.2 : Nat)]) ∧ ∃ H', UAt w' m (bld n J l).1 rt hist H' ∧ (∀ y, H' y → H y ∨ w.heap.size ≤ y) ∧ Only (fun y => y = m) w w' := by
  intro n
  induction n with
  | zero => intros; omega
  | succ n ih =>
    intro w J H lv l hU hInv hE hlv hf hd h1n hb
    have hB0 : UBI w m J rt hist H l n 0 (.slice none 0 0) l J [] H w := ⟨hU, hInv, fun y hy => .inl hy, Only.refl _ _, rfl, Nat.zero_le _, ⟨[], rfl, RowsOk.nil J⟩, rfl, OwnI.nil w, fun y hy => by simp [Value.ownBlock] at hy, hb⟩
    have hl8 := hf.cnt
    have HB0 := hide hB0
    obtain ⟨la, lc, rfl⟩ := hE.shape
    have hmw := hU.lt
    have HE := hide hE
    have Hlv := hide hlv
    have Hf := hide hf
    have Hd := hide hd
    have IH := hide ih
    clear hU hInv hE hlv hf hd hb hB0 ih
    go_enter Tryz.func94, Tryz.ntmps94
    go_wp2_with fail
    go_loopw [6, 7] (fun kv iv wr => ∃ (i : Nat) (rem : List En) (J1 : Nat → Sl) (acc : List Rw) (H1 : Nat → Prop), iv = .int .i64 i ∧ UBI w m J rt hist H l n i kv rem J1 acc H1 wr) (fun _ iv _ => l.length - (intOf iv).toNat)
    case atStart => exact ⟨0, l, J, [], H, rfl, unhide HB0⟩
    case round =>
      clear HB0
      obtain ⟨i, rem, J1, acc, H1, rfl, hI⟩ := hrel
      have hacc := hI.len (unhide Hf)
      obtain ⟨oa, oc, hov⟩ := ownsRow_shape hI.buf
      subst hov
      have hws := hI.only.size
      have hmwr := hI.uat.lt
      have hidl : (idsR acc).length = acc.length := by simp [idsR]
      have hE1 : EntsIn wr (.slice la l.length lc) l := (unhide HE).keep hI.only (unhide Hlv)
      cases rem with
      | nil =>
        have hie : i = l.length := by
          have := congrArg List.length hI.rng
          simp at this
          have := hI.le
          omega
        have a1 : decide ((i : Int) < (l.length : Int)) = false := decide_eq_false (by omega)
        have a1n : decide (i < l.length) = false := decide_eq_false (by omega)
        obtain ⟨hbq, hRok⟩ := hI.done
        have HI := hide hI
        have HRok := hide hRok
        have Hbq := hide hbq
        have HE1 := hide hE1
        rw [hidl]
        have Hidl := hide hidl
        clear hI hRok hbq hE1 hie hidl
        generalize hW : wr = W at *
        clear hW
        go_wp2_with fail
        go_loopw [13] (fun kv wx => ∃ k : Nat, 1 ≤ k ∧ k ≤ 49 ∧ kv = .int .i64 k ∧ (∀ j, In j → j < k → ¬ (liveS (J1 j) = true ∧ (J1 j).kd = 2 ∧ (J1 j).lst = l)) ∧ Only (fun _ => False) W wx) (fun kv _ => (49 - intOf kv).toNat)
        case atStart => exact ⟨1, by omega, by omega, rfl, fun j hj hlt => by have := hj.1; omega, Only.refl _ _⟩
        case round =>
          obtain ⟨k, hk1, hk, rfl, hno, ho⟩ := hrel
          have Hno := hide hno
          clear hno
          have hM := (unhide HI).uat.quiet ho
          have hox := ho.size
          by_cases hk8 : k < 49
          · have hin : In k := ⟨hk1, by omega⟩
            have b1 : decide ((k : Int) ≤ 48) = true := by simp; omega
            have b2 : (k : Int) < 49 := by omega
            obtain ⟨dv, lv2, kv2, hc⟩ := hM.cells hin
            have z1 := hc.c1.1
            have z3 := hc.c3.1
            have C1 := ulive_any hM k
            rw [liveJ_nat hin] at C1
            have hstep : (¬ (liveS (J1 k) = true ∧ (J1 k).kd = 2 ∧ (J1 k).lst = l)) → ∀ j, In j → j < k + 1 → ¬ (liveS (J1 j) = true ∧ (J1 j).kd = 2 ∧ (J1 j).lst = l) := by
              intro hn j hj hlt
              by_cases e : j = k
              · subst e; exact hn
              · exact unhide Hno j hj (by omega)
            cases hl : liveS (J1 k) with
            | false =>
              rw [hl] at C1
              have C1 := hide C1
              have Hnext := hide (hstep (by rw [hl]; simp))
              clear hstep hl hM hc
              go_wp2_with fail
              refine (unhide C1).mono ?_
              rintro e w1 ⟨rfl, rfl⟩
              go_wp2_with fail
              go_roundw
              case rel => exact ⟨k + 1, by omega, by omega, by go_num, unhide Hnext, ho⟩
              case measure => simp [intOf]; omega
            | true =>
              rw [hl] at C1
              have C1 := hide C1
              by_cases hkd : (J1 k).kd = 2
              · rw [hkd] at z1
                have C2 := usameList_any lv2 (.slice la l.length lc) (J1 k).lst l hc.lb ((unhide HE1).keep ho (fun _ _ h => h)) (by have := hc.l8; omega)
                by_cases hd : (J1 k).lst = l
                · rw [decide_eq_true hd] at C2
                  have C2 := hide C2
                  have hP : finJ J1 l acc = (J1, k, 0) := by unfold finJ; rw [findT_at hin hl hkd hd (unhide Hno)]
                  have HP := hide ((unhide Hbq).trans hP)
                  clear hd hl hkd hM hc hP hstep
                  go_wp2_with fail
                  refine (unhide C1).mono ?_
                  rintro e w1 ⟨rfl, rfl⟩
                  go_wp2_with fail
                  refine (unhide C2).mono ?_
                  rintro e w1 ⟨rfl, ho2⟩
                  go_wp2_with fail
                  go_ret2
                  rw [unhide HP]
                  have o3 := ho.trans ho2 (fun _ _ h => h)
                  exact ⟨rfl, H1, (unhide HI).uat.quiet o3, (unhide HI).hext, (unhide HI).only.trans o3 (fun _ _ h => h.elim)⟩
                · rw [decide_eq_false hd] at C2
                  have C2 := hide C2
                  have Hnext := hide (hstep (fun h => hd h.2.2))
                  clear hstep hl hM hc hd hkd
                  go_wp2_with fail
                  refine (unhide C1).mono ?_
                  rintro e w1 ⟨rfl, rfl⟩
                  go_wp2_with fail
                  refine (unhide C2).mono ?_
                  rintro e w1 ⟨rfl, ho2⟩
                  go_wp2_with fail
                  go_roundw
                  case rel => exact ⟨k + 1, by omega, by omega, by go_num, unhide Hnext, ho.trans ho2 (fun _ _ h => h)⟩
                  case measure => simp [intOf]; omega
              · have Hnext := hide (hstep (fun h => hkd h.2.1))
                clear hstep
                generalize (J1 k).kd = kd at *
                have e1 : ((kd : Int) == 2) = false := ne_intO (by omega)
                clear hl hM hc hkd
                go_wp2_with fail
                refine (unhide C1).mono ?_
                rintro e w1 ⟨rfl, rfl⟩
                go_wp2_with fail
                go_roundw
                case rel => exact ⟨k + 1, by omega, by omega, by go_num, unhide Hnext, ho⟩
                case measure => simp [intOf]; omega
          · obtain rfl : k = 49 := by omega
            have hF : findT J1 l = none := findT_no (fun j hj => unhide Hno j hj (by have := hj.2; omega))
            have C3 := ulowest_any hM
            cases hlw : lowJ J1 with
            | none =>
              have e0 : lowN J1 = 0 := by unfold lowN; rw [hlw]
              have hP : finJ J1 l acc = (J1, 0, 5) := by unfold finJ; rw [hF]; simp only; rw [hlw]
              have HP := hide ((unhide Hbq).trans hP)
              rw [e0] at C3
              have C3 := hide C3
              clear hF hlw e0 hP hM Hno
              go_wp2_with fail
              refine (unhide C3).mono ?_
              rintro e w1 ⟨rfl, rfl⟩
              go_wp2_with fail
              go_ret2
              rw [unhide HP]
              exact ⟨rfl, H1, (unhide HI).uat.quiet ho, (unhide HI).hext, (unhide HI).only.trans ho (fun _ _ h => h.elim)⟩
            | some i2 =>
              obtain ⟨hin, h0, _⟩ := lowJ_some hlw
              have e0 : lowN J1 = i2 := by unfold lowN; rw [hlw]
              have hP : finJ J1 l acc = (updT J1 i2 ⟨1, 2, encs acc, l, acc⟩, i2, 0) := by unfold finJ; rw [hF]; simp only; rw [hlw]
              have HP := hide ((unhide Hbq).trans hP)
              rw [e0] at C3
              have C3 := hide C3
              have b2 : (i2 : Int) < 49 := by have := hin.2; omega
              have b3 : ((i2 : Int) == 0) = false := ne_intO (by have := hin.1; omega)
              have HM := hide hM
              have hmx := hM.lt
              have C1 := hide (fun (wx : World) (hx : Only (fun _ => False) wr wx) => ucopyList_any (.slice la l.length lc) l (((unhide HE1).keep ho (fun _ _ h => h)).keep hx (fun _ _ h => h)) (by omega))
              clear hF hlw e0 hP Hno hM
              go_wp2_with fail
              refine (unhide C3).mono ?_
              rintro e w1 ⟨rfl, rfl⟩
              go_upto_region 26 with fail
              go_region_with (go_at_call 48; refine ((unhide C1) _ ?_).mono ?_; exact (Only.refl (fun _ => False) _).drew; rintro e w2 ⟨v2, rfl, q1, q2, q3⟩; obtain ⟨va, vc, rfl⟩ := ownsRow_shape q1; have oR : Only (fun _ => False) wr w2 := (Only.refl (fun _ => False) _).drew.trans q3 (fun _ _ h => h); have HM2 := hide ((unhide HM).quiet oR); obtain ⟨dv, lv2, kv2, hc⟩ := (unhide HM2).cells hin; have z0 := hc.c0; have z1 := hc.c1; have z2 := hc.c2; have z3 := hc.c3; have z4 := hc.c4; have hmx2 := (unhide HM2).lt; have Q1 := hide q1; have Q2 := hide q2; have OR := hide oR; clear q1 q2 q3 hc oR)
              all_goals
                go_wp2_with fail
                go_ret2
                rw [unhide HP]
                refine ⟨rfl, fun y => H1 y ∨ (Value.slice oa acc.length oc).ownBlock = some y ∨ (Value.slice va l.length vc).ownBlock = some y, ?_, ?_, ?_⟩
                · have oWx : Only (fun _ => False) W w2 := ho.trans (unhide OR) (fun _ _ h => h)
                  have bk : OwnI w2 (.slice oa (idsR acc).length oc) (idsR acc) := (unhide HI).buf.keep oWx (fun _ _ h => h)
                  have hwx := oWx.size
                  have hbb := (unhide HI).bb
                  rw [unhide Hidl] at hbb bk
                  have hkl : kidL ⟨1, 2, encs acc, l, acc⟩ = idsR acc := rfl
                  have key := UAt.put ((unhide HM2).mono (G := fun y => H1 y ∨ (Value.slice oa acc.length oc).ownBlock = some y ∨ (Value.slice va l.length vc).ownBlock = some y) (fun y hy => .inl hy) (fun y hy => by
                    rcases hy with hy | hy | hy
                    · exact (unhide HM2).inn y hy
                    · have h1 := ownsRow_lt (unhide HI).buf y (by rw [unhide Hidl]; exact hy)
                      omega
                    · exact ownsRow_lt (unhide Q1) y hy)) hin ⟨1, 2, .slice none 0 0, .slice va l.length vc, .slice oa acc.length oc⟩ ⟨1, 2, encs acc, l, acc⟩ ⟨rfl, rfl, nil_bytes w2 _, (unhide Q1).in_, by rw [hkl]; exact OwnI.in_ bk, by simp [mD], by show l.length ≤ 8; omega, by rw [hkl, unhide Hidl]; exact hacc⟩ (fun g hg => by
                      rcases hg with hg | hg | hg
                      · simp [Value.ownBlock] at hg
                      · refine ⟨.inr (.inr hg), ?_⟩
                        have := unhide Q2 g hg
                        simp at this
                        omega
                      · exact ⟨.inr (.inl hg), (hbb g hg).2.1⟩)
                  exact key
                · intro y hy
                  have hbb := (unhide HI).bb
                  rw [unhide Hidl] at hbb
                  rcases hy with hy | hy | hy
                  · exact (unhide HI).hext y hy
                  · exact .inr (hbb y hy).1
                  · have := unhide Q2 y hy
                    simp at this
                    exact .inr (by omega)
                · exact (only5 (m := m) (i := i2) (((unhide HI).only.trans ho (fun _ _ h => h.elim)).trans (unhide OR) (fun _ _ h => h.elim)) (fun _ => rfl) ⟨1, 2, .slice none 0 0, .slice va l.length vc, .slice oa acc.length oc⟩)
      | cons e r =>
        have hid8 : (idsR acc).length ≤ 8 := by omega
        clear hidl
        have hil : i < l.length := by
          have := congrArg List.length hI.rng
          simp at this
          omega
        have hli : l[i] = e := by
          have := hI.rng
          rw [List.drop_eq_getElem_cons hil] at this
          exact (List.cons.inj this).1
        have hel := hI.mem e (by simp)
        have hlen12 := (unhide Hf).len e hel
        have a1 : decide ((i : Int) < (l.length : Int)) = true := decide_eq_true (by omega)
        have a1n : decide (i < l.length) = true := decide_eq_true hil
        have a2 : (i : Int) < (l.length : Int) := by omega
        have HE1 := hide hE1
        obtain ⟨g, rfl, hcell⟩ := hE1.at_ (by omega)
        obtain ⟨c0, c1, c2⟩ := hcell i hil
        rw [hli] at c0 c1 c2
        have hgl : g < wr.heap.size := World.block_lt_of_cell? wr _ c0
        have hgm : g ≠ m := unhide Hlv g rfl
        have hgw : g < w.heap.size := by
          obtain ⟨g5, e6, h6⟩ := (unhide HE).at_ (by omega)
          have h7 := World.block_lt_of_cell? w _ (h6 i hil).1
          simp at e6
          subst e6
          exact h7
        have C1 := uslash_any (sb e.path) (by rw [sb_size]; omega) wr
        rw [ls_sb, slashI_zero] at C1
        have hgo : ∀ y, (Value.slice oa (idsR acc).length oc).ownBlock = some y → y ≠ g := fun y hy e => by have := (hI.bb y hy).1; omega
        cases hc : cutS e.path with
        | none =>
          rw [hc] at C1
          simp only at C1
          have C1 := hide C1
          have HF := hide (fun (v' : Value) (w1 : World) (hown : OwnI w1 v' (idsR acc ++ [e.id])) (ho : Only (fun y => (Value.slice oa (idsR acc).length oc).ownBlock = some y) wr w1) (hwhere : ∀ y, v'.ownBlock = some y → (Value.slice oa (idsR acc).length oc).ownBlock = some y ∨ wr.heap.size ≤ y) => hI.file (unhide Hf) hc hown ho hwhere)
          have hown := hI.buf
          have hsn := iV_snoc (idsR acc) e.id
          have Hsn := hide hsn
          have hl2 : (idsR acc ++ [e.id]).length = (idsR acc).length + 1 := by simp
          have Hl2 := hide hl2
          unfold OwnI at hown
          clear hI hli hel hlen12 hcell hc hsn hl2 hgo hE1
          generalize sb e.path = ep at *
          generalize e.id = eid at *
          generalize iV (idsR acc) = xs at *
          obtain ⟨i0, hi0, hz0, hz1, hz2⟩ := info_parts Tryz.infoIntU
          go_wp2_with fail
          refine (unhide C1).mono ?_
          rintro y w0 ⟨rfl, rfl⟩
          go_wp2_with (at_builtin; refine wpList_append2 _ rfl _ _ 55 rfl 3 i0 _ 1 8 Tryz.underlying55 hi0 hz0 hz1 hz2 rfl (by decide) _ _ _ rfl (hown.alloc _) ⟨wr.heap.size, 0, none⟩ 1 1 [.int .i64 eid] rfl rfl ?c1 ?c2 ?c3 ?c4 ?_)
          try (case c1 => exact news_ok _ _ _ _ rfl)
          case c2 => intro u hu; simp at hu; subst hu; rfl
          case c3 => unfold maxLen; omega
          case c4 => omega
          intro v' w4 hown' hgrow hwhere
          have o4 : Only (fun y => (Value.slice oa (idsR acc).length oc).ownBlock = some y) wr w4 := ((Only.refl (fun y => (Value.slice oa (idsR acc).length oc).ownBlock = some y) wr).alloc _).grown hgrow (fun b hb _ => hb)
          have HN := hide (unhide HF v' w4 (by unfold OwnI; rw [unhide Hl2, unhide Hsn]; exact hown') o4 (fun y hy => by
            rcases hwhere y hy with e | e
            · exact .inl e
            · try simp at e
              exact .inr (by omega)))
          clear hown' hgrow hwhere o4 HF
          go_wp2_with fail
          go_roundw
          case rel => exact ⟨i + 1, r, J1, _, H1, by go_num, unhide HN⟩
          case measure => simp [intOf]; omega
        | some ab =>
          obtain ⟨a, b⟩ := ab
          rw [hc] at C1
          simp only at C1
          obtain ⟨hcp, hca⟩ := cutS_some.1 hc
          obtain ⟨hmem, hrs, hjle⟩ := hI.group hc
          obtain ⟨sub, hsub⟩ : ∃ sub, sub = ((e :: r).takeWhile (hasP a)).map (strip (a.length + 1)) := ⟨_, rfl⟩
          rw [← hsub] at hmem
          obtain ⟨hfs, ha0, ha12, _, hsne⟩ := (unhide Hf).sub hmem
          have hds := (unhide Hd).sub hmem
          have hm1 : 1 ≤ n := by
            obtain ⟨x, q, hx⟩ := List.exists_cons_of_ne_nil hsne
            have := hds x (by rw [hx]; simp)
            omega
          have hx2 := sb_pfx hcp
          have Kb : a.length + 1 ≤ (sb e.path).size := by rw [sb_size, hcp]; simp
          obtain ⟨gl, hgl2⟩ : ∃ gl, gl = ((e :: r).takeWhile (hasP a)).length := ⟨_, rfl⟩
          have hlat : ∀ k (hk : k < (e :: r).length) (h2 : i + k < l.length), l[i + k] = (e :: r)[k] := fun k hk h2 => by
            have h0 := List.getElem_of_eq hI.rng (i := k) (by rw [hI.rng]; exact hk)
            rw [List.getElem_drop] at h0
            exact h0
          have hlenR : (e :: r).length = l.length - i := by rw [← hI.rng, List.length_drop]
          have hstep : ∀ p, i ≤ p → p < i + gl → ∃ h2 : p < l.length, hasP a l[p] = true ∧ ((e :: r).take (p + 1 - i)).map (strip (a.length + 1)) = ((e :: r).take (p - i)).map (strip (a.length + 1)) ++ [strip (a.length + 1) l[p]] := fun p hip hp => by
            obtain ⟨k, rfl⟩ : ∃ k, p = i + k := ⟨p - i, by omega⟩
            have hk : k < gl := by omega
            rw [hgl2] at hk
            obtain ⟨h1, h2⟩ := takeW_step hk
            have hl : i + k < l.length := by omega
            have e1 : i + k - i = k := by omega
            have e2 : i + k + 1 - i = k + 1 := by omega
            refine ⟨hl, by rw [hlat k h1 hl]; exact h2, ?_⟩
            rw [e1, e2, List.take_succ_eq_append_getElem h1, hlat k h1 hl, List.map_append]
            rfl
          have hstop : ∀ p, p = i + gl → p < l.length → ∃ h2 : p < l.length, hasP a l[p] = false := fun p hp hlt => by
            have h1 : gl < (e :: r).length := by omega
            subst hp
            refine ⟨hlt, ?_⟩
            rw [hlat gl h1 hlt]
            subst hgl2
            exact takeW_stop h1
          rw [← hgl2] at hrs hjle
          have hBk := bld_ok n J1 sub hI.inv hfs hds (hI.blb.sub hmem)
          obtain ⟨JB, idn, ern, hbq⟩ : ∃ JB idn ern, bld n J1 sub = (JB, idn, ern) := ⟨_, _, _, rfl⟩
          have CB := hide (fun (W : World) (sv : Value) (hW : Only (fun _ => False) wr W) (hsv : EntsIn W sv sub) (hnm : ∀ y, sv.ownBlock = some y → y ≠ m) => unhide IH W J1 H1 sv sub (hI.uat.quiet hW) hI.inv hsv hnm hfs hds hm1 (hI.blb.sub hmem))
          rw [hbq] at CB hBk
          have hern : ern = 0 ∨ (ern = 5 ∧ idn = 0) := hBk.err
          have HD := hide (fun (w1 w2 : World) (v' : Value) (H2 : Nat → Prop) (he : ern = 0) (hU : UAt w1 m JB rt hist H2) (hx : ∀ y, H2 y → H1 y ∨ wr.heap.size ≤ y) (ho1 : Only (fun y => y = m) wr w1) (hown : OwnI w2 v' (idsR acc ++ [(idn : Int)])) (ho : Only (fun y => (Value.slice oa (idsR acc).length oc).ownBlock = some y) w1 w2) (hwhere : ∀ y, v'.ownBlock = some y → (Value.slice oa (idsR acc).length oc).ownBlock = some y ∨ w1.heap.size ≤ y) => (by
            have := hI.dir (w1 := w1) (w2 := w2) (v' := v') (H2 := H2) (unhide Hf) hc hsub (by rw [hbq]; exact hBk) (by rw [hbq]; exact he) (by rw [hbq]; exact hU) hx ho1 (by rw [hbq]; exact hown) ho hwhere
            rw [hbq, ← hgl2] at this
            exact this : UBI w m J rt hist H l n (i + gl) v' ((e :: r).dropWhile (hasP a)) JB (acc ++ [⟨true, 0, idn, a⟩]) H2 w2))
          have HFl := hide (fun (he : ern ≠ 0) => (by
            have := hI.fail hc hsub (by rw [hbq]; exact he)
            rw [hbq] at this
            exact this : bld (n + 1) J l = (JB, 0, ern)))
          have HI := hide hI
          have Hstep := hide hstep
          have Hstop := hide hstop
          have C1 := hide C1
          have hsubl : ((e :: r).take gl).map (strip (a.length + 1)) = sub := by
            rw [hsub, hgl2]
            congr 1
            conv => lhs; arg 2; rw [← List.takeWhile_append_dropWhile (p := hasP a) (l := e :: r)]
            exact List.take_left
          have Hsubl := hide hsubl
          have hgl8 : gl ≤ 8 := by omega
          have hpm : ∀ x : En, hasP a x = preB (ls (sb (a ++ [47]))) (ls (sb x.path)) := fun x => by rw [ls_sb, ls_sb]; rfl
          have Hpm := hide hpm
          have hgl1 : 1 ≤ gl := by rw [hgl2, List.takeWhile_cons, if_pos (hasP_cut hc)]; simp
          have Hlx := hide (fun (k : Nat) (h2 : k < l.length) => (unhide Hf).len l[k] (List.getElem_mem h2))
          clear hcp hca hmem hrs hsub hfs ha0 hsne hds hm1 hgl2 hlat hlenR hstep hstop hBk hbq hI hsubl hpm hlen12 hli hel hcell hc c1 c2 hE1
          generalize (e :: r).dropWhile (hasP a) = rem2 at *
          generalize (e :: r) = er at *
          generalize hP : sb e.path = P at *
          clear hP
          generalize hK : a.length = K at *
          have hpz : (sb (a ++ [47])).size ≤ 1000000 := by rw [sb_size]; simp; omega
          generalize hpf : sb (a ++ [47]) = pfx at *
          clear hpf
          have HK := hide hK
          clear hK
          have kneg : decide ((K : Int) < 0) = false := decide_eq_false (by omega)
          have k1 : (K : Int) + 1 ≤ (P.size : Int) := by omega
          have k2 : (0 : Int) ≤ (K : Int) + 1 := by omega
          have k3 : ((K : Int) + 1).toNat = K + 1 := by omega
          go_wp2_with fail
          refine (unhide C1).mono ?_
          rintro y w0 ⟨rfl, rfl⟩
          generalize hWW : wr = W at *
          clear hWW
          have S0 := hide (EI.start (OwnE.nil W))
          go_wp2_with fail
          go_loopw [7, 10] (fun pv sv wx => ∃ p : Nat, pv = .int .i64 p ∧ i ≤ p ∧ p ≤ i + gl ∧ EI W (.slice none 0 0) sv ((er.take (p - i)).map (strip (K + 1))) wx) (fun pv _ _ => l.length + 1 - (intOf pv).toNat)
          case atStart => exact ⟨i, rfl, by omega, by omega, by simpa using unhide S0⟩
          case round =>
            clear S0
            obtain ⟨p, rfl, hp1, hp2, hS⟩ := hrel
            have oX : Only (fun _ => False) W wr := hS.ho.mono (fun y _ h => by simp [Value.ownBlock] at h)
            have hxs := oX.size
            have hgx : g < wr.heap.size := by omega
            obtain ⟨g2, hg2, hcell⟩ := ((unhide HE1).keep oX (fun _ _ h => h)).at_ (by omega)
            obtain rfl : g = g2 := by simpa using hg2
            have OX := hide oX
            by_cases hpl : p < i + gl
            · obtain ⟨h2, hhp, htk⟩ := unhide Hstep p hp1 hpl
              obtain ⟨y0, y1, y2⟩ := hcell p h2
              have hl12 := unhide Hlx p h2
              have hC := hasPrefix_any (sb l[p].path) pfx wr
              rw [← unhide Hpm l[p], hhp] at hC
              have C2 := hide hC
              have hrest := sb_rest hhp
              rw [unhide HK] at hrest
              obtain ⟨hr1, hr2⟩ := hrest
              have hr3 : K + 1 ≤ (sb l[p].path).size := by rw [sb_size]; exact hr2
              have b1 : decide ((p : Int) < (l.length : Int)) = true := decide_eq_true (by omega)
              have b1n : decide (p < l.length) = true := decide_eq_true h2
              have b2 : (p : Int) < (l.length : Int) := by omega
              have Htk := hide htk
              have Hr1 := hide hr1
              have hlen8 : ((er.take (p - i)).map (strip (K + 1))).length ≤ 8 := by simp; omega
              have hgb : u10.ownBlock ≠ some g := fun e => by
                rcases hS.hb g e with e | e
                · simp [Value.ownBlock] at e
                · omega
              obtain ⟨sa, scp, hsv⟩ := ownsRow_shape hS.own
              subst hsv
              have HS := hide hS
              have own4 : wr.ownsRow 0 67 3 (.slice sa ((er.take (p - i)).map (strip (K + 1))).length scp) ((er.take (p - i)).map (strip (K + 1))).length (enCells ((er.take (p - i)).map (strip (K + 1)))) := hS.own
              clear hhp htk hcell hC hr1 hS oX hr2
              have Hf3 : Hid ((strip (K + 1) l[p]).id = l[p].id ∧ (strip (K + 1) l[p]).mode = l[p].mode) := hide ⟨rfl, rfl⟩
              generalize strip (K + 1) l[p] = f at *
              generalize hOT : (er.take (p - i)).map (strip (K + 1)) = OT at *
              have HOT := hide hOT
              clear hOT
              generalize sb l[p].path = P2 at *
              generalize l[p].id = pid at *
              generalize l[p].mode = pmo at *
              have hwk : IntKind.i64.wrap ((K : Int) + 1) = (K : Int) + 1 := by rw [IntKind.wrap_i64]; omega
              have j1 : (K : Int) + 1 ≤ (P2.size : Int) := by omega
              go_wp2_with fail
              refine (unhide C2).mono ?_
              rintro y w0 ⟨rfl, rfl⟩
              obtain ⟨i0, hi0, hz0, hz1, hz2⟩ := info_parts Tryz.infoEntry
              have l5 : OT.length + 1 ≤ maxLen := by unfold maxLen; omega
              have oD2 : Only (fun _ => False) wr (wr.alloc (.cells #[.string (P2.extract (K + 1) P2.size), .int .i64 pid, .int .i64 pmo] 67)).drew := ((Only.refl (fun _ => False) wr).alloc _).drew
              have hb2 := oD2.block g hgx (fun h => h)
              have x0 := (World.cell?_of_block (a := ⟨g, p * 3, none⟩) hb2).trans y0
              have x1 := (World.cell?_of_block (a := ⟨g, p * 3 + 1, none⟩) hb2).trans y1
              have x2 := (World.cell?_of_block (a := ⟨g, p * 3 + 2, none⟩) hb2).trans y2
              clear hb2 oD2 C2
              go_upto_region 11 with fail
              go_region_held_law (fun w' => w'.cell? ⟨g, p * 3, none⟩ = some (.string P2) ∧ w'.cell? ⟨g, p * 3 + 1, none⟩ = some (.int .i64 pid) ∧ w'.cell? ⟨g, p * 3 + 2, none⟩ = some (.int .i64 pmo)) (first | exact ⟨y0, y1, y2⟩ | exact ⟨x0, x1, x2⟩ | exact ⟨q0, q1, q2⟩ | go_keep)
                (first | (refine step_append_lies _ (by rfl) _ _ _ (by rfl) 0 67 i0 _ 3 32 Tryz.underlying37 hi0 hz0 hz1 hz2 rfl (by omega) (.slice sa OT.length scp) OT.length (enCells OT) (by rfl) ((own4.alloc _).drew) ⟨wr.heap.size, 0, none⟩ 1 1 [.string (P2.extract (K + 1) P2.size), .int .i64 pid, .int .i64 pmo] (by rfl) (by rfl) (World.news_of_block (cs := #[.string (P2.extract (K + 1) P2.size), .int .i64 pid, .int .i64 pmo]) (t := 67) (fr := (0, 0)) (heap_alloc_new wr _)) (by simp [Value.oneCell']) (by omega) l5 (by omega) (by simp) (wr.heap.size + 1) (by simp) ?_; intro gg cap3 w3 hown1 hgrow hat hlt3; have q0 := (hgrow.cell_far ⟨g, p * 3, none⟩ (by simp; omega) (Ne.symm hgb)).trans x0; have q1 := (hgrow.cell_far ⟨g, p * 3 + 1, none⟩ (by simp; omega) (Ne.symm hgb)).trans x1; have q2 := (hgrow.cell_far ⟨g, p * 3 + 2, none⟩ (by simp; omega) (Ne.symm hgb)).trans x2))
              all_goals
                have oG : Only (fun y => (Value.slice sa OT.length scp).ownBlock = some y) wr w3 := ((Only.refl (fun y => (Value.slice sa OT.length scp).ownBlock = some y) wr).alloc _).drew.grown hgrow (fun y hy _ => hy)
                have hown2 : w3.ownsRow 0 67 3 (.slice (some ⟨gg, 0, none⟩) (OT.length + 1) cap3) (OT.length + 1) (enCells OT ++ [.string (sb f.path), .int .i64 f.id, .int .i64 f.mode]) := by
                  rw [← (unhide Hr1), (unhide Hf3).1, (unhide Hf3).2]
                  exact hown1
                have HE2 := hide ((unhide HS).push (f := f) hown2 oG (fun q hq => by
                  have hkk : gg = q := by simpa [Value.ownBlock] using hq
                  subst hkk
                  rcases hat with h | h
                  · exact .inl h
                  · exact .inr (by omega)))
                clear hown1 hown2 oG hgrow hat q0 q1 q2
                go_wp2_with fail
                go_roundw
                case rel => exact ⟨p + 1, by go_num, by omega, by omega, by rw [unhide Htk]; exact unhide HE2⟩
                case measure => simp [intOf]; omega
            · have hpe : p = i + gl := by omega
              have hsub2 : (er.take (p - i)).map (strip (K + 1)) = sub := by
                have e1 : p - i = gl := by omega
                rw [e1]
                exact unhide Hsubl
              rw [hsub2] at hS
              have hsown := hS.own
              have hsb := hS.hb
              obtain ⟨sa, scp, hsv⟩ := ownsRow_shape hsown
              subst hsv
              have CB2 := hide (unhide CB wr _ oX hsown.in_ (fun y hy e => by
                rcases hsb y hy with h | h
                · simp [Value.ownBlock] at h
                · omega))
              have hown : OwnI wr (.slice oa (idsR acc).length oc) (idsR acc) := (unhide HI).buf.keep oX (fun _ _ h => h)
              have hmx : m < wr.heap.size := by omega
              have Hown := hide hown
              have Hpe := hide hpe
              have hoxs := oX.size
              have Hcell := hide hcell
              clear hS hsown hsb hown hsub2 CB oX hcell hpe
              go_upto_region 10 with fail
              go_cut [57] (fun v wx => v = .bool false ∧ wr = wx)
              case first =>
                by_cases hpl2 : p < l.length
                · obtain ⟨h2, hhp⟩ := unhide Hstop p (unhide Hpe) hpl2
                  obtain ⟨y0, _, _⟩ := unhide Hcell p h2
                  have hl12 := unhide Hlx p h2
                  have hC := hasPrefix_any (sb l[p].path) pfx wr
                  rw [← unhide Hpm l[p], hhp] at hC
                  have C2 := hide hC
                  have b1 : decide ((p : Int) < (l.length : Int)) = true := decide_eq_true (by omega)
                  have b1n : decide (p < l.length) = true := decide_eq_true h2
                  have b2 : (p : Int) < (l.length : Int) := by omega
                  clear hhp hC
                  generalize sb l[p].path = P2 at *
                  go_wp2_with fail
                  refine (unhide C2).mono ?_
                  rintro y w0 ⟨rfl, rfl⟩
                  go_wp2_with fail
                  go_meet
                  exact ⟨rfl, rfl⟩
                · have b1 : decide ((p : Int) < (l.length : Int)) = false := decide_eq_false (by omega)
                  have b1n : decide (p < l.length) = false := decide_eq_false hpl2
                  go_wp2_with fail
                  go_meet
                  exact ⟨rfl, rfl⟩
              case rest =>
              obtain ⟨rfl, rfl⟩ := hcut
              go_wp2_with fail
              refine (unhide CB2).mono ?_
              rintro y w1 ⟨rfl, H2, hU2, hx2', ho2⟩
              have hs2 := ho2.size
              have ho12 : Only (fun y => y = m) W w1 := ((unhide OX).mono (T := fun y => y = m) (fun _ _ h => h.elim)).trans ho2 (fun _ _ h => h)
              have hxx : ∀ y, H2 y → H1 y ∨ W.heap.size ≤ y := fun y hy => by
                rcases hx2' y hy with e | e
                · exact .inl e
                · exact .inr (by omega)
              by_cases h0 : ern = 0
              · subst h0
                have hown : OwnI w1 (.slice oa (idsR acc).length oc) (idsR acc) := (unhide Hown).keep ho2 (fun y hy e => ((unhide HI).bb y hy).2.1 e)
                have hsn := iV_snoc (idsR acc) (idn : Int)
                have Hsn := hide hsn
                have hl2 : (idsR acc ++ [(idn : Int)]).length = (idsR acc).length + 1 := by simp
                have Hl2 := hide hl2
                have HD2 := hide (fun (w2 : World) (v' : Value) hown ho hwhere => unhide HD w1 w2 v' H2 rfl hU2 hxx ho12 hown ho hwhere)
                unfold OwnI at hown
                clear hU2 hx2' ho2 ho12 hxx hsn hl2 HD CB2 Hown
                generalize iV (idsR acc) = xs at *
                obtain ⟨i0, hi0, hz0, hz1, hz2⟩ := info_parts Tryz.infoIntU
                go_wp2_with (at_builtin; refine wpList_append2 _ rfl _ _ 55 rfl 3 i0 _ 1 8 Tryz.underlying55 hi0 hz0 hz1 hz2 rfl (by decide) _ _ _ rfl (hown.alloc _) ⟨w1.heap.size, 0, none⟩ 1 1 [.int .i64 (idn : Int)] rfl rfl ?c1 ?c2 ?c3 ?c4 ?_)
                try (case c1 => exact news_ok _ _ _ _ rfl)
                case c2 => intro u hu; simp at hu; subst hu; rfl
                case c3 => unfold maxLen; omega
                case c4 => omega
                intro v' w4 hown' hgrow hwhere
                have o4 : Only (fun y => (Value.slice oa (idsR acc).length oc).ownBlock = some y) w1 w4 := ((Only.refl (fun y => (Value.slice oa (idsR acc).length oc).ownBlock = some y) w1).alloc _).grown hgrow (fun b hb _ => hb)
                have HN := hide (unhide HD2 w4 v' (by unfold OwnI; rw [unhide Hl2, unhide Hsn]; exact hown') o4 (fun y hy => by
                  rcases hwhere y hy with e | e
                  · exact .inl e
                  · try simp at e
                    exact .inr (by omega)))
                clear hown' hgrow hwhere o4 HD2
                go_wp2_with fail
                go_roundw
                case rel => exact ⟨i + gl, _, JB, _, H2, by rw [unhide Hpe], unhide HN⟩
                case measure => have := unhide Hpe; simp [intOf]; omega
              · have e1 : ((ern : Int) != 0) = true := by simp; omega
                have Hfl := hide (unhide HFl h0)
                have RU := hide hU2
                have RX : Hid (∀ y, H2 y → H y ∨ w.heap.size ≤ y) := hide (fun y hy => by
                  rcases hxx y hy with e | e
                  · exact (unhide HI).hext y e
                  · exact .inr (by omega))
                have RO := hide ((unhide HI).only.trans ho12 (fun _ _ h => h))
                clear hU2 hx2' ho2 ho12 hxx CB2 HD
                go_wp2_with fail
                go_ret2
                rw [unhide Hfl]
                exact ⟨rfl, H2, unhide RU, unhide RX, unhide RO⟩
end
end Go.Proofs.Qxb6500421aGreat
