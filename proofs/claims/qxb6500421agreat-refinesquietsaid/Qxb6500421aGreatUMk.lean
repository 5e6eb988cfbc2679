/-
  OWN WORK. THE TREE: Members, the model's.
-/
import Derived.Test.Qxb6500421aGreatUMbr
namespace Go.Proofs.Qxb6500421aGreat
open Go.RowKit Go.PlainAid
set_option linter.unusedSimpArgs false
set_option linter.unusedVariables false


def markU (n : Nat) (J : Nat → Sl) (i : Nat) (s : Nat → Bool) : Nat → Bool := if (J i).kd = 2 then markP n J i s else setB s i
theorem markU_rows {J : Nat → Sl} (n : Nat) {ts : List Tp} {rs : List Rw} (h : RelL J ts rs) (s : Nat → Bool) : rs.foldl (mkR n J) s = rs.foldl (fun s r => markU n J r.id s) s := by
  have key : ∀ r ∈ rs, ∀ s, mkR n J s r = markU n J r.id s := fun r hr s => by
    obtain ⟨tt, _, h2⟩ := h.mem r hr
    cases tt with
    | f e => unfold mkR markU; rw [if_neg (by rw [h2.1]; simp), if_neg (by rw [h2.2.2.2.2]; simp)]
    | d a sub => unfold mkR markU; rw [if_pos h2.1, if_pos h2.2.2.2.1]
  clear h
  induction rs generalizing s with
  | nil => rfl
  | cons r rs ih =>
    rw [List.foldl_cons, List.foldl_cons, key r (by simp), ih _ (fun x hx => key x (by simp [hx]))]
section
variable {m rt : Nat} {J : Nat → Sl} {hist : Value} {H : Nat → Prop}
set_option maxRecDepth 100000 in
set_option maxHeartbeats 4000000 in
theorem umarkId_any (g : Nat) (hgH : ¬ H g) (hI : Inv J) : ∀ (n : Nat) (w : World) (i : Nat) (sn : Nat → Bool), UAt w m J rt hist H → In i → (J i).st ≠ 0 → ((J i).kd = 2 → 1 ≤ n ∧ Deep n (J i).lst) → SeenAt w g sn →
      Calls Tryz.prog 98 #[.pointer (some ⟨m, 0, none⟩), .int .i64 i, .slice (some ⟨g, 0, none⟩) 49 49] w fun e w' => e = .returned (.tuple #[]) ∧ SeenAt w' g (markU n J i sn) ∧ Only (fun y => y = g) w w' := by
  intro n
  induction n with
  | zero =>
    intro w i sn hT hi hst hd hS
    have hk2 : (J i).kd ≠ 2 := fun e => by have := (hd e).1; omega
    have e0 : markU 0 J i sn = setB sn i := by unfold markU; rw [if_neg hk2]
    rw [e0]
    have hi48 : (i : Int) < 49 := by have := hi.2; omega
    have hi49 : i < 49 := by have := hi.2; omega
    have c := hS.cell i hi49
    obtain ⟨dv, lv, kv, hc⟩ := hT.cells hi
    have hrw := (hI.nt i hi hst hk2).2
    have hkl : kidL (J i) = [] := by unfold kidL; rw [hrw]; rfl
    have hkb := hc.kb
    rw [hkl] at hkb
    obtain ⟨ka, kc, rfl, _⟩ := hkb
    have hmg : m ≠ g := fun e => hgH (e ▸ hT.own)
    have ck := hc.c4.1
    simp only [List.length_nil] at ck
    by_cases hb : sn i = true
    · rw [setB_id hb]
      rw [hb] at c
      have HS := hide hS
      clear hT hS hc
      go_enter Tryz.func98, Tryz.ntmps98
      go_wp2_with fail
      refine bodyPost_ret (v := .tuple #[]) (by simp [results, Tryz.results98, go_sem]) rfl ?_
      exact ⟨rfl, unhide HS, Only.refl _ _⟩
    · have hb' : sn i = false := by simpa using hb
      rw [hb'] at c
      have o1 : Only (fun y => y = g) w (w.setCell ⟨g, i, none⟩ (.bool true)) := only1 i _
      have HS := hide (hS.set i)
      have O1 := hide o1
      have ck2 : (w.setCell ⟨g, i, none⟩ (.bool true)).cell? ⟨m, i * 5 + 4, none⟩ = some (.slice ka 0 kc) := (World.cell?_of_block (o1.block m hT.lt hmg)).trans ck
      have hml := hT.lt
      clear hT hS hc o1
      go_enter Tryz.func98, Tryz.ntmps98
      go_upto_region 2 with fail
      generalize w.setCell ⟨g, i, none⟩ (.bool true) = w0 at *
      go_wp2_with fail
      go_loopw [6] (fun iv wr => iv = .int .i64 0 ∧ wr = w0) (fun iv _ => (0 : Nat))
      case atStart => exact ⟨rfl, rfl⟩
      case round =>
        obtain ⟨rfl, rfl⟩ := hrel
        go_wp2_with fail
        go_end0
        exact ⟨rfl, unhide HS, unhide O1⟩
  | succ n ih =>
    intro w i sn hT hi hst hd hS
    have hi48 : (i : Int) < 49 := by have := hi.2; omega
    have hi49 : i < 49 := by have := hi.2; omega
    have c := hS.cell i hi49
    have hmg : m ≠ g := fun e => hgH (e ▸ hT.own)
    by_cases hb : sn i = true
    · have e0 : markU (n + 1) J i sn = sn := by
        unfold markU
        split
        · unfold markP; rw [if_pos hb]
        · exact setB_id hb
      rw [e0]
      rw [hb] at c
      have HS := hide hS
      clear hT hS e0 hb ih
      go_enter Tryz.func98, Tryz.ntmps98
      go_wp2_with fail
      refine bodyPost_ret (v := .tuple #[]) (by simp [results, Tryz.results98, go_sem]) rfl ?_
      exact ⟨rfl, unhide HS, Only.refl _ _⟩
    · have hfold : markU (n + 1) J i sn = (J i).rws.foldl (fun s r => markU n J r.id s) (setB sn i) := by
        by_cases hk2 : (J i).kd = 2
        · unfold markU
          rw [if_pos hk2]
          have ht := hI.tr i hi hst hk2
          have e0 : markP (n + 1) J i sn = (J i).rws.foldl (mkR n J) (setB sn i) := by unfold markP; rw [if_neg hb]; rfl
          rw [e0]
          exact markU_rows n ht.rel _
        · unfold markU
          rw [if_neg hk2, (hI.nt i hi hst hk2).2]
          rfl
      rw [hfold]
      have hkids : ∀ r ∈ (J i).rws, In r.id ∧ (J r.id).st ≠ 0 ∧ ((J r.id).kd = 2 → 1 ≤ n ∧ Deep n (J r.id).lst) := fun r hr => by
        have h3 := hI.kid hi hst hr
        have hk2 : (J i).kd = 2 := by
          by_cases e : (J i).kd = 2
          · exact e
          · rw [(hI.nt i hi hst e).2] at hr; simp at hr
        have ht := hI.tr i hi hst hk2
        obtain ⟨tt, h1, h2⟩ := ht.rel.mem r hr
        refine ⟨h3.1, h3.2, fun e => ?_⟩
        cases tt with
        | f e' => rw [h2.2.2.2.2] at e; cases e
        | d a sub =>
          have hdn := (hd hk2).2.sub h1
          rw [h2.2.2.2.2]
          refine ⟨?_, hdn⟩
          have hne := (ht.fine.sub h1).2.2.2.2
          obtain ⟨x, xs, hx⟩ := List.exists_cons_of_ne_nil hne
          have := hdn x (by rw [hx]; simp)
          omega
      obtain ⟨dv, lv, kv, hc⟩ := hT.cells hi
      have hkl : kidL (J i) = (J i).rws.map (fun r => (r.id : Int)) := rfl
      have hk8 := hc.k8
      have hkb := hc.kb
      have hb' : sn i = false := by simpa using hb
      rw [hb'] at c
      have o1 : Only (fun y => y = g) w (w.setCell ⟨g, i, none⟩ (.bool true)) := only1 i _
      have HT1 := hide (hT.keep o1 (fun k hk e => hgH (e ▸ hk)))
      have HS1 := hide (hS.set i)
      have O1 := hide o1
      have hmw := hT.lt
      have hgo : ∀ y, kv.ownBlock = some y → y ≠ g := fun y hy e => hgH (e ▸ (hc.own y (.inr (.inr hy))).1)
      have hkb1 := hkb.keep o1 hgo
      obtain ⟨ka, kc, rfl, hcell⟩ := hkb1
      have ck := (World.cell?_of_block (a := ⟨m, i * 5 + 4, none⟩) (o1.block m hT.lt hmg)).trans hc.c4.1
      have Hcell := hide hcell
      have Hkids := hide hkids
      have IH := hide ih
      have Hgo := hide hgo
      have hlen : (kidL (J i)).length = (J i).rws.length := by rw [hkl]; simp
      rw [hlen] at ck hk8
      have hat : ∀ k (h1 : k < (kidL (J i)).length) (h2 : k < (J i).rws.length), (kidL (J i))[k] = ((J i).rws[k].id : Int) := fun k h1 h2 => by simp [kidL]
      have Hat := hide hat
      have Hlen := hide hlen
      clear hT hS hc hkids ih hkb hcell hfold hkl o1 hgo hlen hat hd hb hb'
      generalize kidL (J i) = kids at *
      generalize (J i).rws = rs at *
      go_enter Tryz.func98, Tryz.ntmps98
      go_upto_region 2 with fail
      generalize w.setCell ⟨g, i, none⟩ (.bool true) = w0 at *
      have hmw0 := (unhide HT1).lt
      go_wp2_with fail
      go_loopw [6] (fun iv wr => ∃ k : Nat, iv = .int .i64 k ∧ k ≤ rs.length ∧ SeenAt wr g ((rs.take k).foldl (fun s r => markU n J r.id s) (setB sn i)) ∧ Only (fun y => y = g) w0 wr) (fun iv _ => rs.length - (intOf iv).toNat)
      case atStart => exact ⟨0, rfl, by omega, unhide HS1, Only.refl _ _⟩
      case round =>
        obtain ⟨k, rfl, hk, hSk, ho⟩ := hrel
        have ckr := (World.cell?_of_block (a := ⟨m, i * 5 + 4, none⟩) (ho.block m hmw0 hmg)).trans ck
        have hws := ho.size
        by_cases hkl : k < rs.length
        · have hk2 : k < kids.length := by have := unhide Hlen; omega
          obtain ⟨q, rfl, hc⟩ := unhide Hcell (by omega)
          have v0 := hc k hk2
          have hql : q < w0.heap.size := World.block_lt_of_cell? w0 _ v0
          have hqg : q ≠ g := unhide Hgo q rfl
          have y0 := (World.cell?_of_block (a := ⟨q, k, none⟩) (ho.block q hql hqg)).trans v0
          rw [unhide Hat k hk2 hkl] at y0
          have htk : (rs.take (k + 1)).foldl (fun s r => markU n J r.id s) (setB sn i) = markU n J rs[k].id ((rs.take k).foldl (fun s r => markU n J r.id s) (setB sn i)) := by
            rw [List.take_succ_eq_append_getElem hkl, List.foldl_append]
            rfl
          obtain ⟨p1, p2, p3⟩ := unhide Hkids rs[k] (List.getElem_mem hkl)
          have C := hide (unhide IH wr rs[k].id _ ((unhide HT1).keep ho (fun k hk e => hgH (e ▸ hk))) p1 p2 p3 hSk)
          have a1 : decide ((k : Int) < (rs.length : Int)) = true := decide_eq_true (by omega)
          have a1n : decide (k < rs.length) = true := decide_eq_true hkl
          have a2 : (k : Int) < (rs.length : Int) := by omega
          have Htk := hide htk
          clear hc htk v0 p1 p2 p3 hSk
          generalize rs[k].id = ri at *
          generalize (rs.take k).foldl (fun s r => markU n J r.id s) (setB sn i) = sk at *
          go_wp2_with fail
          refine (unhide C).mono ?_
          rintro y w3 ⟨rfl, hS3, ho3⟩
          have HS3 := hide hS3
          have HO3 := hide (ho.trans ho3 (fun _ _ h => h))
          clear hS3 ho3 ho
          go_wp2_with fail
          go_roundw
          case rel => exact ⟨k + 1, by go_num, by omega, by rw [unhide Htk]; exact unhide HS3, unhide HO3⟩
          case measure => simp [intOf]; omega
        · have a1 : decide ((k : Int) < (rs.length : Int)) = false := decide_eq_false (by omega)
          have a1n : decide (k < rs.length) = false := decide_eq_false hkl
          have ek : k = rs.length := by omega
          rw [ek, List.take_length] at hSk
          have RS := hide hSk
          have RO := hide ((unhide O1).trans ho (fun _ _ h => h))
          clear hSk ek ho
          go_wp2_with fail
          go_end0
          exact ⟨rfl, unhide RS, unhide RO⟩
end
section
variable {w : World} {m rt : Nat} {J : Nat → Sl} {hist : Value} {H : Nat → Prop}
set_option maxRecDepth 100000 in
set_option maxHeartbeats 2000000 in
theorem umembers_any (h : UAt w m J rt hist H) (hI : Inv J) (id : Int) :
    Calls Tryz.prog 70 #[.pointer (some ⟨m, 0, none⟩), .int .i64 id] w fun e w' => ∃ v, e = .returned (.tuple #[v, .int .i64 (trE J id : Nat)]) ∧ II w v (mbL J id) w' := by
  have C0 := ulive_any h id
  by_cases he : trE J id = 0
  · obtain ⟨i, rfl, hi, hl, hk⟩ := trE_zero he
    have hL : mbL J (i : Int) = memL (markP 6 J i (fun _ => false)) 49 := by unfold mbL; rw [if_pos he]; simp
    rw [hL, he]
    rw [liveJ_nat hi, hl] at C0
    have S1 : SeenAt (w.alloc (.cells (tabV 49 (bF (fun _ => false))) 4)) w.heap.size (fun _ => false) := Has.new w _ _
    have o1 : Only (fun _ => False) w (w.alloc (.cells (tabV 49 (bF (fun _ => false))) 4)) := (Only.refl _ w).alloc _
    have hst := liveS_ne hl
    have C2 := umarkId_any (H := H) w.heap.size (fun hF => by have := h.inn _ hF; omega) hI 6 _ i (fun _ => false) (h.quiet o1) hi hst (fun _ => ⟨by omega, (hI.tr i hi hst hk).fine.deep⟩) S1
    have eU : markU 6 J i (fun _ => false) = markP 6 J i (fun _ => false) := by unfold markU; rw [if_pos hk]
    rw [eU] at C2
    obtain ⟨dv, lv, kv, hc⟩ := h.cells hi
    have ck := hc.c1.1
    rw [hk] at ck
    have hi48 : (i : Int) < 49 := by have := hi.2; omega
    have hmk := run_make_bools w
    have C0 := hide C0
    have C2 := hide C2
    have O1 := hide o1
    clear h hL he S1 o1 hc eU
    generalize markP 6 J i (fun _ => false) = sn at *
    generalize tabV 49 (bF (fun _ => false)) = zz at *
    go_enter Tryz.func70, Tryz.ntmps70
    go_wp2_with fail
    refine (unhide C0).mono ?_
    rintro e w1 ⟨rfl, rfl⟩
    go_wp2_with fail
    refine (unhide C2).mono ?_
    rintro e w2 ⟨rfl, hS2, ho2⟩
    have S2 := hide hS2
    have O2 : Hid (Only (fun _ => False) w w2) := hide ((unhide O1).trans ho2 (fun y hy e => by omega))
    clear hS2 ho2 C0 C2 O1 hmk
    generalize w.heap.size = g at *
    generalize w.alloc (.cells zz 4) = w1 at *
    have dummy : True := trivial

    go_wp2_with fail
    go_loopw [7, 8] (fun ov kv wr => ∃ k : Nat, 1 ≤ k ∧ k ≤ 49 ∧ kv = .int .i64 k ∧ OwnI wr ov (memL sn k) ∧ (∀ y, ov.ownBlock = some y → w2.heap.size ≤ y) ∧ Only (fun _ => False) w2 wr) (fun _ kv _ => (49 - intOf kv).toNat)
    case atStart => exact ⟨1, by omega, by omega, rfl, by rw [memL_one]; exact OwnI.nil w2, fun y hy => by simp [Value.ownBlock] at hy, Only.refl _ _⟩
    case round =>
      obtain ⟨k, hk1, hk, rfl, hown, hb, ho⟩ := hrel
      by_cases hk8 : k < 49
      · have hS := Has.keep (unhide S2) ho (fun h => h)
        have c := (SeenAt.cell hS k hk8).1
        have a1 : decide ((k : Int) ≤ 48) = true := by simp; omega
        have a2 : (k : Int) < 49 := by omega
        have hml := memL_len sn k
        have hsu : memL sn (k + 1) = memL sn k ++ (if k ≠ 0 ∧ sn k = true then [(k : Int)] else []) := rfl
        have hk0 : k ≠ 0 := by omega
        have hws := ho.size
        clear hS
        cases hsk : sn k with
        | false =>
          rw [hsk] at c hsu
          rw [if_neg (by simp), List.append_nil] at hsu
          rw [← hsu] at hown
          have Hown := hide hown
          clear hown hsu hsk
          go_wp2_with fail
          go_roundw
          case rel => exact ⟨k + 1, by omega, by omega, by go_num, unhide Hown, hb, ho⟩
          case measure => simp [intOf]; omega
        | true =>
          rw [hsk] at c hsu
          rw [if_pos ⟨hk0, rfl⟩] at hsu
          unfold OwnI at hown
          have Hsu := hide hsu
          have hsn := iV_snoc (memL sn k) (k : Int)
          rw [← hsu] at hsn
          have Hsn := hide hsn
          have Hb := hide hb
          have hl2 : (memL sn (k + 1)).length = (memL sn k).length + 1 := by rw [hsu]; simp
          have Hl2 := hide hl2
          clear hsu hsn hb hsk hl2
          generalize (memL sn k).length = L at *
          generalize iV (memL sn k) = xs at *
          obtain ⟨i0, hi0, hz0, hz1, hz2⟩ := info_parts Tryz.infoIntU
          go_wp2_with (at_builtin; refine wpList_append2 _ rfl _ _ 55 rfl 3 i0 _ 1 8 Tryz.underlying55 hi0 hz0 hz1 hz2 rfl (by decide) _ _ _ rfl (hown.alloc _) ⟨wr.heap.size, 0, none⟩ 1 1 [.int .i64 (k : Int)] rfl rfl ?c1 ?c2 ?c3 ?c4 ?_)
          try (case c1 => exact news_ok _ _ _ _ rfl)
          case c2 => intro u hu; simp at hu; subst hu; rfl
          case c3 => unfold maxLen; omega
          case c4 => omega
          intro v' w4 hown' hgrow hwhere
          have o4 : Only (fun _ => False) w2 w4 := (ho.alloc _).grown hgrow (fun b hb hlt => by have := unhide Hb b hb; omega)
          have Hw := hide hwhere
          have Ho := hide hown'
          clear hwhere hown'
          go_wp2_with fail
          go_roundw
          case rel =>
            refine ⟨k + 1, by omega, by omega, by go_num, ?_, ?_, o4⟩
            · unfold OwnI
              rw [unhide Hl2, unhide Hsn]
              exact unhide Ho
            · intro b hb'
              rcases unhide Hw b hb' with e | e
              · exact unhide Hb b e
              · try simp at e
                omega
          case measure => simp [intOf]; omega
      · obtain rfl : k = 49 := by omega
        have Ho := hide hown
        have Hb := hide hb
        have HO2 := hide ((unhide O2).trans ho (fun _ _ h => h))
        have hs2 := (unhide O2).size
        clear hown hb
        go_wp2_with fail
        refine bodyPost_ret (v := .tuple #[u7, .int .i64 0]) (by simp [results, Tryz.results70, go_sem]) rfl ?_
        exact ⟨_, rfl, unhide Ho, fun y hy => by have := unhide Hb y hy; omega, unhide HO2⟩
  · have hL : mbL J id = [] := by unfold mbL; rw [if_neg he]
    rw [hL]
    cases hl : liveJ J id with
    | false =>
      have e6 : trE J id = 6 := by unfold trE; rw [if_pos hl]
      rw [e6]
      rw [hl] at C0
      have C0 := hide C0
      clear h hL he e6
      go_enter Tryz.func70, Tryz.ntmps70
      go_wp2_with fail
      refine (unhide C0).mono ?_
      rintro e w1 ⟨rfl, rfl⟩
      go_wp2_with fail
      refine bodyPost_ret (v := .tuple #[.slice none 0 0, .int .i64 6]) (by simp [results, Tryz.results70, go_sem]) rfl ?_
      exact ⟨_, rfl, II.nil w⟩
    | true =>
      obtain ⟨i, rfl, hi, hls⟩ := liveJ_in hl
      have hk : (J i).kd ≠ 2 := fun e => he (by unfold trE; rw [hl]; simp [e])
      have e3 : trE J (i : Int) = 3 := by unfold trE; rw [hl]; simp [hk]
      rw [e3]
      rw [hl] at C0
      obtain ⟨dv, lv, kv, hc⟩ := h.cells hi
      have ck := hc.c1.1
      have hi48 : (i : Int) < 49 := by have := hi.2; omega
      have C0 := hide C0
      clear h hL he e3 hc
      generalize (J i).kd = kd at *
      have e2 : ((kd : Int) != 2) = true := by simp; omega
      go_enter Tryz.func70, Tryz.ntmps70
      go_wp2_with fail
      refine (unhide C0).mono ?_
      rintro e w1 ⟨rfl, rfl⟩
      go_wp2_with fail
      refine bodyPost_ret (v := .tuple #[.slice none 0 0, .int .i64 3]) (by simp [results, Tryz.results70, go_sem]) rfl ?_
      exact ⟨_, rfl, II.nil w⟩
end
end Go.Proofs.Qxb6500421aGreat
