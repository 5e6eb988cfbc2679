/-
  OWN WORK. THE TREE: mark.
-/
import Derived.Test.Qxb6500417aGreatTRd
namespace Go.Proofs.Qxb6500417aGreat
open Go.RowKit Go.PlainAid
set_option linter.unusedSimpArgs false
set_option linter.unusedVariables false

def bF (s : Nat → Bool) (i : Nat) : Value := .bool (s i)
def SeenAt (w : World) (g : Nat) (s : Nat → Bool) : Prop := Has w g (tabV 49 (bF s)) 4
theorem SeenAt.cell {w : World} {g : Nat} {s : Nat → Bool} (h : SeenAt w g s) (i : Nat) (hi : i < 49) : w.cell? ⟨g, i, none⟩ = some (.bool (s i)) ∧ w.frozen? ⟨g, i, none⟩ = false := by
  refine ⟨?_, Has.free h _⟩
  rw [Has.cell h, tabV_get _ _ _ hi]; rfl
theorem SeenAt.set {w : World} {g : Nat} {s : Nat → Bool} (h : SeenAt w g s) (i : Nat) : SeenAt (w.setCell ⟨g, i, none⟩ (.bool true)) g (setB s i) := by
  have := Has.setCell h i (.bool true)
  rw [tabV_set] at this
  unfold SeenAt
  rw [tabV_congr 49 (g := bF (setB s i))] at this
  · exact this
  · intro j hj
    unfold bF setB
    by_cases e : j = i
    · rw [if_pos e, if_pos e]
    · rw [if_neg e, if_neg e]
def mkR (n : Nat) (J : Nat → Sl) (s : Nat → Bool) (r : Rw) : Nat → Bool := if r.dir = true then markP n J r.id s else setB s r.id
section
variable {t s d rt : Nat} {D B : Nat → Nat} {recs : List Rec} {J : Nat → Sl} {F : Nat → Prop}
set_option maxRecDepth 100000 in
set_option maxHeartbeats 4000000 in
theorem tmark_any (g : Nat) (hgt : g ≠ t) (hgs : g ≠ s) (hgF : ¬ F g) : ∀ (n : Nat) (w : World) (i : Nat) (sn : Nat → Bool) (dn : Int), dn = (n : Int) → n ≤ 1000 → TS w t s d D B recs J rt F → In i → liveS (J i) = true → (J i).kd = 2 → SeenAt w g sn →
      Calls Tryz.prog 200 #[.pointer (some ⟨t, 0, none⟩), .int .i64 i, .int .i64 dn, .slice (some ⟨g, 0, none⟩) 49 49] w fun e w' => e = .returned (.tuple #[]) ∧ SeenAt w' g (markP n J i sn) ∧ Only (fun y => y = g) w w' := by
  intro n
  induction n with
  | zero =>
    intro w i sn dn hdn hn hT hi hl hk hS
    subst hdn
    have hi48 : (i : Int) < 49 := by have := hi.2; omega
    have hi49 : i < 49 := by have := hi.2; omega
    have c := (hS.cell i hi49).1
    have HS := hide hS
    have e0 : markP 0 J i sn = sn := rfl
    rw [e0]
    clear hT hS e0
    generalize sn i = b at *
    cases b with
    | true =>
      go_enter Tryz.func200, Tryz.ntmps200
      go_wp2_with fail
      refine bodyPost_ret (v := .tuple #[]) (by simp [results, Tryz.results200, go_sem]) rfl ?_
      exact ⟨rfl, unhide HS, Only.refl _ _⟩
    | false =>
      go_enter Tryz.func200, Tryz.ntmps200
      go_wp2_with fail
      refine bodyPost_ret (v := .tuple #[]) (by simp [results, Tryz.results200, go_sem]) rfl ?_
      exact ⟨rfl, unhide HS, Only.refl _ _⟩
  | succ n ih =>
    intro w i sn dn hdn hn hT hi hl hk hS
    subst hdn
    have hi48 : (i : Int) < 49 := by have := hi.2; omega
    have hi49 : i < 49 := by have := hi.2; omega
    have c := hS.cell i hi49
    by_cases hb : sn i = true
    · have e0 : markP (n + 1) J i sn = sn := by unfold markP; rw [if_pos hb]
      rw [e0]
      rw [hb] at c
      have HS := hide hS
      clear hT hS e0 hb ih
      go_enter Tryz.func200, Tryz.ntmps200
      go_wp2_with fail
      refine bodyPost_ret (v := .tuple #[]) (by simp [results, Tryz.results200, go_sem]) rfl ?_
      exact ⟨rfl, unhide HS, Only.refl _ _⟩
    · have e0 : markP (n + 1) J i sn = (J i).rws.foldl (mkR n J) (setB sn i) := by unfold markP; rw [if_neg hb]; rfl
      rw [e0]
      have hb' : sn i = false := by simpa using hb
      rw [hb'] at c
      have hst := liveS_ne hl
      have ht := hT.inv.tr i hi hst hk
      have hel := encs_bound ht.wf
      have h8 := ht.len
      have hwf := ht.wf
      have hle : (encs (J i).rws).length ≤ 1000 := by omega
      have hS1 := hS.set i
      have o1 : Only (fun y => y = g) w (w.setCell ⟨g, i, none⟩ (.bool true)) := only1 i _
      have hT1 := hT.keep o1 (fun e => hgt e.symm) (fun e => hgs e.symm) (fun k hk e => hgF (e ▸ hk))
      obtain ⟨ob, hOS, hR⟩ := hT1.ex
      have CG := get_in hOS i hi (by rw [hR.live hi]; exact hl) (encs (J i).rws).length (by rw [(hR i hi).2.2, ht.dat])
      rw [(hR i hi).2.2, ht.dat] at CG
      have CG := hide CG
      have hkids : ∀ r ∈ (J i).rws, In r.id ∧ liveS (J r.id) = true ∧ (r.dir = true → (J r.id).kd = 2) := fun r hr => by
        obtain ⟨tt, h1, h2⟩ := ht.rel.mem r hr
        have h3 := hT.inv.lv i hi hl r hr
        refine ⟨h3.1, h3.2, fun hdir => ?_⟩
        cases tt with
        | f e => rw [h2.1] at hdir; cases hdir
        | d a sub => exact h2.2.2.2.1
      have c0 := hT1.tab.store.1
      have dpos : decide ((n : Int) + 1 ≤ 0) = false := decide_eq_false (by omega)
      have HT1 := hide hT1
      have HS1 := hide hS1
      have O1 := hide o1
      have Hwf := hide hwf
      have Hkids := hide hkids
      have IH := hide ih
      clear hT hOS hR ht hel hwf hkids ih hl hk hst hS hS1 hT1 o1 hb hb' e0
      generalize (J i).rws = rs at *
      go_enter Tryz.func200, Tryz.ntmps200
      go_upto_region 2 with fail
      generalize w.setCell ⟨g, i, none⟩ (.bool true) = w0 at *
      go_wp2_with fail
      refine (unhide CG).mono ?_
      rintro y w1 ⟨rfl, hh1, ho1⟩
      have CR := hide (rows_any (has_bytes hh1) (unhide Hwf) hle (fun g n cap e => by simp at e; omega))
      have O01 := hide ho1
      clear hh1 ho1 CG
      go_wp2_with fail
      refine (unhide CR).mono ?_
      rintro y w2 ⟨v2, rfl, hRI⟩
      obtain ⟨ra, rc, rfl, hcell⟩ := hRI.own.in_
      have Hty : Hid (∀ g, ra = some ⟨g, 0, none⟩ → ∃ c, Has w2 g c 194) := hide (fun g e => by
        subst e
        rcases hRI.own.2 with ⟨he, _⟩ | ⟨g', cap', cur, he, _, hh, _⟩
        · simp at he
        · obtain ⟨rfl, _⟩ : g = g' ∧ rc = cap' := by simpa using he
          exact ⟨cur, hh⟩)
      have O02 := hide ((unhide O01).trans hRI.ho (fun _ _ h => h))
      have HT2 := hide ((unhide HT1).quiet (unhide O02))
      have hS2 : SeenAt w2 g (setB sn i) := Has.keep (unhide HS1) (unhide O02) (fun h => h)
      have HS2 := hide hS2
      have Hcell := hide hcell
      clear hRI hcell CR HT1 HS1 hS2 O01
      go_wp2_with fail
      go_loopw [12] (fun iv wr => ∃ k : Nat, iv = .int .i64 k ∧ k ≤ rs.length ∧ SeenAt wr g ((rs.take k).foldl (mkR n J) (setB sn i)) ∧ Only (fun y => y = g) w2 wr) (fun iv _ => rs.length - (intOf iv).toNat)
      case atStart => exact ⟨0, rfl, by omega, unhide HS2, Only.refl _ _⟩
      case round =>
        obtain ⟨k, rfl, hk, hI, ho⟩ := hrel
        by_cases hkl : k < rs.length
        · obtain ⟨q, rfl, hc⟩ := unhide Hcell (by omega)
          obtain ⟨v0, v1, v2, v3⟩ := hc k hkl
          obtain ⟨cg, hgh⟩ := unhide Hty q rfl
          have hql := hgh.lt
          have hqg : q ≠ g := Has.ne hgh (unhide HS2) (by decide)
          have hblk := ho.block q hql hqg
          have hws := ho.size
          have y0 := (World.cell?_of_block (a := ⟨q, k * 4, none⟩) hblk).trans v0
          have y2 := (World.cell?_of_block (a := ⟨q, k * 4 + 2, none⟩) hblk).trans v2
          have hqw : q < wr.heap.size := by omega
          have htk : (rs.take (k + 1)).foldl (mkR n J) (setB sn i) = mkR n J ((rs.take k).foldl (mkR n J) (setB sn i)) rs[k] := by
            rw [List.take_succ_eq_append_getElem hkl, List.foldl_append]
            rfl
          have hwfk := unhide Hwf rs[k] (List.getElem_mem hkl)
          have hkid := unhide Hkids rs[k] (List.getElem_mem hkl)
          have hi1 := hwfk.i1
          have hri48 := hwfk.i48
          have hTr := (unhide HT2).keep ho (fun e => hgt e.symm) (fun e => hgs e.symm) (fun k hk e => hgF (e ▸ hk))
          have a1 : decide ((k : Int) < (rs.length : Int)) = true := decide_eq_true (by omega)
          have a1n : decide (k < rs.length) = true := decide_eq_true hkl
          have a2 : (k : Int) < (rs.length : Int) := by omega
          have Htk := hide htk
          clear hc htk hblk hgh hwfk v0 v1 v2 v3 HS2
          generalize rs[k] = r at *
          generalize (rs.take k).foldl (mkR n J) (setB sn i) = sk at *
          obtain ⟨rd, rm, ri, rn⟩ := r
          simp only at y0 y2 hi1 hri48 hkid
          have b2 : (ri : Int) < 49 := by omega
          cases rd with
          | true =>
            obtain ⟨q1, q2, q3⟩ := hkid
            have C := hide (unhide IH wr ri sk (n : Int) rfl (by omega) hTr q1 q2 (q3 rfl) hI)
            clear q1 q2 q3 hTr hI
            go_wp2_with fail
            refine (unhide C).mono ?_
            rintro y w3 ⟨rfl, hS3, ho3⟩
            have HS3 := hide hS3
            have HO3 := hide (ho.trans ho3 (fun _ _ h => h))
            clear hS3 ho3 ho
            go_wp2_with fail
            go_roundw
            case rel => exact ⟨k + 1, by go_num, by omega, by rw [unhide Htk]; exact unhide HS3, unhide HO3⟩
            case measure => simp [intOf]; omega
          | false =>
            have c5 := hI.cell ri (by omega)
            have HS3 := hide (hI.set ri)
            have HO3 := hide (ho.setCell (p := ⟨g, ri, none⟩) (fun _ => rfl) (.bool true))
            have hgl := Has.lt hI
            clear hTr hI ho hkid
            generalize sk ri = b5 at *
            go_wp2_with fail
            go_roundw
            case rel => exact ⟨k + 1, by go_num, by omega, by rw [unhide Htk]; exact unhide HS3, unhide HO3⟩
            case measure => simp [intOf]; omega
        · have a1 : decide ((k : Int) < (rs.length : Int)) = false := decide_eq_false (by omega)
          have a1n : decide (k < rs.length) = false := decide_eq_false hkl
          have ek : k = rs.length := by omega
          rw [ek, List.take_length] at hI
          have RS := hide hI
          have RO := hide (((unhide O1).trans (unhide O02) (fun _ _ h => h.elim)).trans ho (fun _ _ h => h))
          clear hI ek ho
          go_wp2_with fail
          go_end0
          exact ⟨rfl, unhide RS, unhide RO⟩
end
end Go.Proofs.Qxb6500417aGreat
