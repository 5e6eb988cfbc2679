/-
  OWN WORK. THE TREE: flat, walked.
-/
import Derived.Test.Qxb6500417aGreatTFlt
namespace Go.Proofs.Qxb6500417aGreat
open Go.RowKit Go.PlainAid
set_option linter.unusedSimpArgs false
set_option linter.unusedVariables false

def flR (n : Nat) (J : Nat → Sl) (p : Str) (r : Rw) : List En := if r.dir = true then flatP n J r.id (p ++ r.name ++ [47]) else [⟨p ++ r.name, r.id, r.mode⟩]
theorem flat_pref (f : Rw → List En) (l : List Rw) (k : Nat) : ((l.take k).flatMap f).length ≤ (l.flatMap f).length := by
  conv => rhs; rw [← List.take_append_drop k l]
  rw [List.flatMap_append, List.length_append]
  omega
theorem RelL.mem {J : Nat → Sl} : ∀ {ts : List Tp} {rs : List Rw}, RelL J ts rs → ∀ r ∈ rs, ∃ t ∈ ts, RelT J t r
  | [], [], _, r, hr => by simp at hr
  | t :: ts, x :: rs, h, r, hr => by
    rcases List.mem_cons.1 hr with e | e
    · subst e; exact ⟨t, by simp, h.1⟩
    · obtain ⟨t', h1, h2⟩ := RelL.mem h.2 r e
      exact ⟨t', by simp [h1], h2⟩
  | [], _ :: _, h, _, _ => h.elim
  | _ :: _, [], h, _, _ => h.elim
section
variable {t s d rt : Nat} {D B : Nat → Nat} {recs : List Rec} {J : Nat → Sl} {F : Nat → Prop}
set_option maxRecDepth 100000 in
set_option maxHeartbeats 4000000 in
theorem tflat_any : ∀ (n : Nat) (w : World) (i : Nat) (pre : Str) (ov : Value) (out : List En) (dn : Int), dn = (n : Int) → TS w t s d D B recs J rt F → In i → liveS (J i) = true → (J i).kd = 2 → Deep n (J i).lst → OwnE w ov out → (∀ y, ov.ownBlock = some y → y ≠ t ∧ y ≠ s ∧ ¬ F y) → out.length + 8 * n ≤ 1000 → pre.length + 13 * n ≤ 1000 →
      Calls Tryz.prog 196 #[.pointer (some ⟨t, 0, none⟩), .int .i64 i, .string (sb pre), .int .i64 dn, ov] w fun e w' => ∃ v', e = .returned v' ∧ EI w ov v' (out ++ flatP n J i pre) w' := by
  intro n
  induction n with
  | zero =>
    intro w i pre ov out dn hdn hT hi hl hk hd hO hov hlen hpl
    subst hdn
    have RR := hide (EI.start hO)
    clear hT hd hO hov
    go_enter Tryz.func196, Tryz.ntmps196
    go_wp2_with fail
    go_ret
    exact ⟨_, rfl, by simpa [flatP] using unhide RR⟩
  | succ n ih =>
    intro w i pre ov out dn hdn hT hi hl hk hd hO hov hlen hpl
    subst hdn
    obtain ⟨ob, hOS, hR⟩ := hT.ex
    have hst := liveS_ne hl
    have ht := hT.inv.tr i hi hst hk
    have hel := encs_bound ht.wf
    have h8 := ht.len
    have hwf := ht.wf
    have hle : (encs (J i).rws).length ≤ 1000 := by omega
    have CG := get_in hOS i hi (by rw [hR.live hi]; exact hl) (encs (J i).rws).length (by rw [(hR i hi).2.2, ht.dat])
    rw [(hR i hi).2.2, ht.dat] at CG
    have CG := hide CG
    have hfl : (flatP (n + 1) J i pre).length ≤ 8 := by
      rw [flatP_eq hT.inv (n + 1) i hi hst hk hd, List.length_map]
      exact ht.fine.cnt
    have hkids : ∀ r ∈ (J i).rws, r.dir = true → In r.id ∧ liveS (J r.id) = true ∧ (J r.id).kd = 2 ∧ Deep n (J r.id).lst := fun r hr hdir => by
      obtain ⟨tt, h1, h2⟩ := ht.rel.mem r hr
      have h3 := hT.inv.lv i hi hl r hr
      cases tt with
      | f e => rw [h2.1] at hdir; cases hdir
      | d a sub => exact ⟨h3.1, h3.2, h2.2.2.2.1, by rw [h2.2.2.2.2]; exact hd.sub h1⟩
    have c0 := hT.tab.store.1
    have HT := hide hT
    have HO := hide hO
    have Hov := hide hov
    have Hwf := hide hwf
    have Hfl := hide hfl
    have Hkids := hide hkids
    have IH := hide ih
    obtain ⟨oa, oc, hov2⟩ := ownsRow_shape hO
    subst hov2
    have dpos : decide ((n : Int) + 1 ≤ 0) = false := decide_eq_false (by omega)
    clear hT hOS hR ht hel hwf hO hov hfl hkids ih hd hl hk hst
    go_enter Tryz.func196, Tryz.ntmps196
    go_wp2_with fail
    refine (unhide CG).mono ?_
    rintro y w1 ⟨rfl, hh1, ho1⟩
    have CR := hide (rows_any (has_bytes hh1) (unhide Hwf) hle (fun g n cap e => by simp at e; omega))
    have O1 := hide ho1
    clear hh1 ho1 CG
    go_wp2_with fail
    refine (unhide CR).mono ?_
    rintro y w2 ⟨v2, rfl, hRI⟩
    obtain ⟨ra, rc, rfl, hcell⟩ := hRI.own.in_
    have Hty : Hid (∀ g, ra = some ⟨g, 0, none⟩ → ∃ c, Has w2 g c 194) := hide (fun g e => by
      subst e
      rcases hRI.own.2 with ⟨he, _⟩ | ⟨g', cap', cur, he, _, hh, _⟩
      · simp at he
      · obtain ⟨rfl, _⟩ : g = g' ∧ rc = cap' := by simpa using he
        exact ⟨cur, hh⟩)
    have O12 := hide ((unhide O1).trans hRI.ho (fun _ _ h => h))
    have hO2 : OwnE w2 (.slice oa out.length oc) out := (unhide HO).keep (unhide O12) (fun _ _ h => h)
    have HO2 := hide hO2
    have hT2 := (unhide HT).quiet (unhide O12)
    have HT2 := hide hT2
    obtain ⟨z1, z2, z3⟩ := hT2.ts_lt
    have Hcell := hide hcell
    have hf0 : flatP (n + 1) J i pre = (J i).rws.flatMap (flR n J pre) := rfl
    rw [hf0] at Hfl
    have Hf0 := hide hf0
    clear hf0
    have S0 := hide (EI.start hO2)
    clear hRI hcell hO2 hT2 CR HT HO O1
    generalize hrs : (J i).rws = rs at *
    clear hrs
    go_wp2_with fail
    go_loopw [4, 15] (fun bv iv wr => ∃ k : Nat, iv = .int .i64 k ∧ k ≤ rs.length ∧ EI w2 (.slice oa out.length oc) bv (out ++ (rs.take k).flatMap (flR n J pre)) wr) (fun _ iv _ => rs.length - (intOf iv).toNat)
    case atStart => exact ⟨0, rfl, by omega, by simpa using unhide S0⟩
    case round =>
      clear S0
      obtain ⟨k, rfl, hk, hI⟩ := hrel
      by_cases hkl : k < rs.length
      · obtain ⟨g, rfl, hc⟩ := unhide Hcell (by omega)
        obtain ⟨v0, v1, v2, v3⟩ := hc k hkl
        obtain ⟨cg, hgh⟩ := unhide Hty g rfl
        have hgl := hgh.lt
        have hgo : ¬ (Value.slice oa out.length oc).ownBlock = some g := fun e => ownsRow_ne (unhide HO2) hgh (by decide) g e rfl
        have hblk := hI.ho.block g hgl hgo
        have hws := hI.ho.size
        have hgw : g < wr.heap.size := by omega
        have y0 := (World.cell?_of_block (a := ⟨g, k * 4, none⟩) hblk).trans v0
        have y1 := (World.cell?_of_block (a := ⟨g, k * 4 + 1, none⟩) hblk).trans v1
        have y2 := (World.cell?_of_block (a := ⟨g, k * 4 + 2, none⟩) hblk).trans v2
        have y3 := (World.cell?_of_block (a := ⟨g, k * 4 + 3, none⟩) hblk).trans v3
        have htk : (rs.take (k + 1)).flatMap (flR n J pre) = (rs.take k).flatMap (flR n J pre) ++ flR n J pre rs[k] := by
          rw [List.take_succ_eq_append_getElem hkl, List.flatMap_append]
          simp
        have hpl2 := flat_pref (flR n J pre) rs k
        have hfl2 := unhide Hfl
        have hlen2 : (out ++ (rs.take k).flatMap (flR n J pre)).length + 8 * n ≤ 1000 := by rw [List.length_append]; omega
        have hwfk := unhide Hwf rs[k] (List.getElem_mem hkl)
        have hn12 := hwfk.n12
        have hi1 := hwfk.i1
        have hi48 := hwfk.i48
        have hTr := (unhide HT2).keep hI.ho (fun e => (unhide Hov t e).1 rfl) (fun e => (unhide Hov s e).2.1 rfl) (fun y hy e => (unhide Hov y e).2.2 hy)
        have hbv : ∀ y, u4.ownBlock = some y → y ≠ t ∧ y ≠ s ∧ ¬ F y := fun y hy => by
          rcases hI.hb y hy with e | e
          · exact unhide Hov y e
          · exact ⟨by omega, by omega, fun hF => by have := z3 y hF; omega⟩
        have a1 : decide ((k : Int) < (rs.length : Int)) = true := decide_eq_true (by omega)
        have a1n : decide (k < rs.length) = true := decide_eq_true hkl
        have a2 : (k : Int) < (rs.length : Int) := by omega
        have hkid := unhide Hkids rs[k] (List.getElem_mem hkl)
        obtain ⟨ba, bc, hbv2⟩ := ownsRow_shape hI.own
        subst hbv2
        have oD : Only (fun _ => False) wr wr.drew := (Only.refl _ wr).drew
        have HI := hide hI
        have Htk := hide htk
        have HTr := hide hTr
        have Hbv := hide hbv
        clear hc hI htk hTr hbv hblk hgh hwfk hpl2 hfl2 v0 v1 v2 v3
        generalize rs[k] = r at *
        obtain ⟨rd, rm, ri, rn⟩ := r
        simp only at y0 y1 y2 y3 hn12 hi1 hi48 hkid
        have s1 : (sb pre).size ≤ 1000 := by rw [sb_size]; omega
        have s2 : (sb rn).size ≤ 1000 := by rw [sb_size]; omega
        cases rd with
        | true =>
          obtain ⟨q1, q2, q3, q4⟩ := hkid rfl
          have C := unhide IH wr.drew ri (pre ++ rn ++ [47]) _ _ (n : Int) rfl ((unhide HTr).quiet oD) q1 q2 q3 q4 ((unhide HI).own.keep oD (fun _ _ h => h)) (unhide Hbv) hlen2 (by simp; omega)
          have es : sb pre ++ sb rn ++ ⟨#[47]⟩ = sb (pre ++ rn ++ [47]) := ls_inj (by rw [ls_cat, ls_cat, ls_sb, ls_sb, ls_sb]; simp [ls])
          rw [← es] at C
          have C := hide C
          have HN := hide (fun (v' : Value) (w3 : World) (m : List En) hE => (unhide HI).trans (m := m) (EI.first (w := wr) oD hE) (v' := v') (w' := w3))
          have hfr : flR n J pre ⟨true, rm, ri, rn⟩ = flatP n J ri (pre ++ rn ++ [47]) := rfl
          rw [hfr] at Htk
          clear hkid q1 q2 q3 q4 es hfr HI HTr Hbv oD
          generalize flatP n J ri (pre ++ rn ++ [47]) = FL at *
          generalize hOT : out ++ (rs.take k).flatMap (flR n J pre) = OT at *
          have HOT := hide hOT
          have s3 : (sb pre ++ sb rn).size ≤ 2000 := by rw [← ls_len, ls_cat, List.length_append, ls_len, ls_len]; omega
          clear hOT
          go_upto_region 9 with fail
          go_region_with (go_at_call 196; refine (unhide C).mono ?_; rintro y w3 ⟨v', rfl, hE⟩)
          all_goals
            have HE := hide (unhide HN v' w3 _ hE)
            clear hE
            go_wp2_with fail
            go_roundw
            case rel => exact ⟨k + 1, by go_num, by omega, by rw [unhide Htk, ← List.append_assoc, unhide HOT]; exact unhide HE⟩
            case measure => simp [intOf]; omega
        | false =>
          obtain ⟨i0, hi0, hz0, hz1, hz2⟩ := info_parts Tryz.infoEntry
          have es := sb_cat pre rn
          have hfr : flR n J pre ⟨false, rm, ri, rn⟩ = [⟨pre ++ rn, (ri : Int), (rm : Int)⟩] := rfl
          rw [hfr] at Htk
          have s3 : (sb pre ++ sb rn).size ≤ 2000 := by rw [← ls_len, ls_cat, List.length_append, ls_len, ls_len]; omega
          have own4 : wr.ownsRow 0 184 3 (.slice ba (out ++ (rs.take k).flatMap (flR n J pre)).length bc) (out ++ (rs.take k).flatMap (flR n J pre)).length (enCells (out ++ (rs.take k).flatMap (flR n J pre))) := (unhide HI).own
          have Hes := hide es
          have hgb : (Value.slice ba (out ++ (rs.take k).flatMap (flR n J pre)).length bc).ownBlock ≠ some g := fun e => by
            rcases (unhide HI).hb g e with e | e
            · exact hgo e
            · omega
          clear hkid hfr es HTr Hbv hgo
          generalize hOT : out ++ (rs.take k).flatMap (flR n J pre) = OT at *
          have HOT := hide hOT
          clear hOT
          have l5 : OT.length + 1 ≤ maxLen := by unfold maxLen; omega
          have oD2 : Only (fun _ => False) wr (wr.alloc (.cells #[.string (sb pre ++ sb rn), .int .i64 (ri : Int), .int .i64 (rm : Int)] 184)).drew := ((Only.refl (fun _ => False) wr).alloc _).drew
          have hb2 := oD2.block g hgw (fun h => h)
          have x1 := (World.cell?_of_block (a := ⟨g, k * 4 + 1, none⟩) hb2).trans y1
          have x2 := (World.cell?_of_block (a := ⟨g, k * 4 + 2, none⟩) hb2).trans y2
          have x3 := (World.cell?_of_block (a := ⟨g, k * 4 + 3, none⟩) hb2).trans y3
          clear hb2 oD2
          go_upto_region 10 with fail
          go_region_held_law (fun w' => w'.cell? ⟨g, k * 4 + 1, none⟩ = some (.int .i64 (rm : Int)) ∧ w'.cell? ⟨g, k * 4 + 2, none⟩ = some (.int .i64 (ri : Int)) ∧ w'.cell? ⟨g, k * 4 + 3, none⟩ = some (.string (sb rn))) (first | exact ⟨y1, y2, y3⟩ | exact ⟨x1, x2, x3⟩ | exact ⟨q1, q2, q3⟩ | go_keep)
            (first | (refine step_append_lies _ (by rfl) _ _ _ (by rfl) 0 184 i0 _ 3 32 Tryz.underlying181 hi0 hz0 hz1 hz2 rfl (by omega) (.slice ba OT.length bc) OT.length (enCells OT) (by rfl) ((own4.alloc _).drew) ⟨wr.heap.size, 0, none⟩ 1 1 [.string (sb pre ++ sb rn), .int .i64 (ri : Int), .int .i64 (rm : Int)] (by rfl) (by rfl) (World.news_of_block (cs := #[.string (sb pre ++ sb rn), .int .i64 (ri : Int), .int .i64 (rm : Int)]) (t := 184) (fr := (0, 0)) (heap_alloc_new wr _)) (by simp [Value.oneCell']) (by omega) l5 (by omega) (by simp) (wr.heap.size + 1) (by simp) ?_; intro gg cap3 w3 hown1 hgrow hat hlt3; have q1 := (hgrow.cell_far ⟨g, k * 4 + 1, none⟩ (by simp; omega) (Ne.symm hgb)).trans x1; have q2 := (hgrow.cell_far ⟨g, k * 4 + 2, none⟩ (by simp; omega) (Ne.symm hgb)).trans x2; have q3 := (hgrow.cell_far ⟨g, k * 4 + 3, none⟩ (by simp; omega) (Ne.symm hgb)).trans x3))
          all_goals
            have oG : Only (fun y => (Value.slice ba OT.length bc).ownBlock = some y) wr w3 := ((Only.refl (fun y => (Value.slice ba OT.length bc).ownBlock = some y) wr).alloc _).drew.grown hgrow (fun y hy _ => hy)
            rw [unhide Hes] at hown1
            have HE := hide ((unhide HI).push (f := ⟨pre ++ rn, (ri : Int), (rm : Int)⟩) hown1 oG (fun q hq => by
              have hkk : gg = q := by simpa [Value.ownBlock] using hq
              subst hkk
              rcases hat with h | h
              · exact .inl h
              · exact .inr (by omega)))
            clear hown1 oG hgrow hat q1 q2 q3
            go_wp2_with fail
            go_roundw
            case rel => exact ⟨k + 1, by go_num, by omega, by rw [unhide Htk, ← List.append_assoc, unhide HOT]; exact unhide HE⟩
            case measure => simp [intOf]; omega
      · have a1 : decide ((k : Int) < (rs.length : Int)) = false := decide_eq_false (by omega)
        have a1n : decide (k < rs.length) = false := decide_eq_false hkl
        have ek : k = rs.length := by omega
        rw [ek, List.take_length] at hI
        have RR := hide (EI.first (unhide O12) hI)
        clear hI ek
        go_wp2_with fail
        go_ret
        exact ⟨_, rfl, by rw [unhide Hf0]; exact unhide RR⟩
end
end Go.Proofs.Qxb6500417aGreat
