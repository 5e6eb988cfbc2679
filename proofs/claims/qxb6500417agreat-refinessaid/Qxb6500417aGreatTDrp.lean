/-
  OWN WORK. THE TREE: Drop.
-/
import Derived.Test.Qxb6500417aGreatTPutW
namespace Go.Proofs.Qxb6500417aGreat
open Go.RowKit Go.PlainAid
set_option linter.unusedSimpArgs false
set_option linter.unusedVariables false

theorem has_bytes {w : World} {g n : Nat} {f : Nat → Nat} (h : Has w g (tabV n (u8f f)) 5) : BytesAt w (.slice (some ⟨g, 0, none⟩) n n) n f :=
  ⟨_, _, rfl, fun hn => ⟨g, rfl, fun j hj => by rw [Has.cell h, u8_get _ _ _ hj]⟩⟩
theorem nil_bytes (w : World) (f : Nat → Nat) : BytesAt w (.slice none 0 0) 0 f := ⟨_, _, rfl, fun h => by omega⟩
theorem drop_dead {s : Sl} : liveS (dropS s) = false := by
  unfold dropS
  split
  · rfl
  · simp [liveS, stS]
def dropJ (J : Nat → Sl) (i : Nat) : Nat → Sl := updT J i (dropS (J i))
theorem kindJ_drop (J : Nat → Sl) (i j : Nat) : kindJ (dropJ J i) j = updT (kindJ J) i 0 j := by
  unfold kindJ dropJ
  by_cases e : j = i
  · subst e
    rw [updJ_self, updT_same, drop_dead]
    simp
  · rw [updT_other _ _ _ _ e, updT_other _ _ _ _ e]
theorem cntJ_drop {J : Nat → Sl} {i : Nat} (hi : In i) (hl : liveS (J i) = true) (j : Nat) : ∀ n, cntJ (dropJ J i) j n + (if i < n then occ (J i).rws j else 0) = cntJ J j n
  | 0 => by simp [cntJ]
  | n + 1 => by
    have ih := cntJ_drop hi hl j n
    unfold cntJ
    by_cases e : n = i
    · have c1 : ¬ (n ≠ 0 ∧ liveS (dropJ J i n) = true) := fun hh => by
        have := hh.2
        unfold dropJ at this
        rw [e, updJ_self, drop_dead] at this
        cases this
      have c2 : n ≠ 0 ∧ liveS (J n) = true := ⟨by have := hi.1; omega, by rw [e]; exact hl⟩
      have c3 : ¬ i < n := by omega
      have c4 : i < n + 1 := by omega
      rw [if_neg c3] at ih
      rw [if_neg c1, if_pos c2, if_pos c4, ← ih, e]
    · have c0 : dropJ J i n = J n := updT_other _ _ _ _ e
      rw [c0]
      by_cases e2 : i < n
      · have c4 : i < n + 1 := by omega
        rw [if_pos e2] at ih
        rw [if_pos c4]; omega
      · have c4 : ¬ i < n + 1 := by omega
        rw [if_neg e2] at ih
        rw [if_neg c4]; omega
theorem cntJ_pos {J : Nat → Sl} (j : Nat) : ∀ n, 0 < cntJ J j n ↔ ∃ t, t < n ∧ t ≠ 0 ∧ liveS (J t) = true ∧ ∃ r ∈ (J t).rws, r.id = j
  | 0 => by simp [cntJ]
  | n + 1 => by
    have ih := cntJ_pos (J := J) j n
    have ho : 0 < occ (J n).rws j ↔ ∃ r ∈ (J n).rws, r.id = j := by
      unfold occ
      rw [List.count_pos_iff, List.mem_map]
    unfold cntJ
    constructor
    · intro h
      by_cases h1 : 0 < cntJ J j n
      · obtain ⟨t, a, b⟩ := ih.1 h1
        exact ⟨t, by omega, b⟩
      · by_cases c : n ≠ 0 ∧ liveS (J n) = true
        · rw [if_pos c] at h
          exact ⟨n, by omega, c.1, c.2, ho.1 (by omega)⟩
        · rw [if_neg c] at h; omega
    · rintro ⟨t, a, b, c, hr⟩
      by_cases e : t = n
      · subst e
        rw [if_pos ⟨b, c⟩]
        have := ho.2 hr
        omega
      · have := ih.2 ⟨t, by omega, b, c, hr⟩
        omega
theorem busy_iff {J : Nat → Sl} {i : Nat} : busy J i ↔ 0 < cntZ J i := by
  unfold cntZ busy
  have := cntJ_pos (J := J) i 49
  constructor
  · rintro ⟨t, ht, hl, hr⟩
    have h1 := ht.1
    have h2 := ht.2
    have := this.2 ⟨t, by omega, by omega, hl, hr⟩
    omega
  · intro h
    obtain ⟨t, a, b, c, hr⟩ := this.1 (by omega)
    exact ⟨t, ⟨by omega, by omega⟩, c, hr⟩
instance (J : Nat → Sl) (i : Nat) : Decidable (busy J i) := decidable_of_iff _ busy_iff.symm
theorem Rep.drop {ob : Nat → Ob} {J : Nat → Sl} (h : Rep ob J) {i : Nat} (hi : In i) : Rep (updT ob i (dropO (ob i))) (dropJ J i) := fun j hj => by
  unfold dropJ
  by_cases e : j = i
  · rw [e, updJ_self, updT_same]
    obtain ⟨h1, h2, h3⟩ := h i hi
    unfold dropS dropO
    rw [h1]
    split
    · exact ⟨rfl, rfl, rfl⟩
    · exact ⟨rfl, h2, h3⟩
  · rw [updT_other _ _ _ _ e, updT_other _ _ _ _ e]
    exact h j hj
section
variable {w w' : World} {t s d : Nat} {D B : Nat → Nat} {recs : List Rec} {J : Nat → Sl} {rt : Nat} {F : Nat → Prop}
def dropN (J : Nat → Sl) (id : Int) : Nat := if liveJ J id = false then 6 else if busy J id.toNat then 7 else 0
theorem tdrop_no (h : TS w t s d D B recs J rt F) (id : Int) (hl : liveJ J id = false) :
    Calls Tryz.prog 151 #[.pointer (some ⟨t, 0, none⟩), .int .i64 id] w fun e w' => e = .returned (.int .i64 6) ∧ w = w' := by
  have C := h.live_any id
  rw [hl] at C
  have C := hide C
  clear h hl
  go_enter Tryz.func151, Tryz.ntmps151
  go_wp2_with fail
  refine (unhide C).mono ?_
  rintro e w1 ⟨rfl, rfl⟩
  go_wp2_with fail
  go_ret
  exact ⟨rfl, rfl⟩
theorem tdrop_busy (h : TS w t s d D B recs J rt F) (i : Nat) (hi : In i) (hl : liveS (J i) = true) (hb : busy J i) :
    Calls Tryz.prog 151 #[.pointer (some ⟨t, 0, none⟩), .int .i64 i] w fun e w' => e = .returned (.int .i64 7) ∧ w = w' := by
  have C := h.live_any i
  rw [liveJ_nat hi, hl] at C
  have C := hide C
  have i48 := hi.2
  have c := (h.tab.count i (by omega)).1
  have hp : decide (0 < cntZ J i) = true := decide_eq_true (busy_iff.1 hb)
  have r49 : (i : Int) < 49 := by omega
  have htl := Has.lt h.tab
  clear h hl hb
  generalize cntZ J i = x at *
  go_enter Tryz.func151, Tryz.ntmps151
  go_wp2_with fail
  refine (unhide C).mono ?_
  rintro e w1 ⟨rfl, rfl⟩
  go_wp2_with fail
  go_ret
  exact ⟨rfl, rfl⟩
theorem TS.dropped (h : TS w t s d D B recs J rt F) {i : Nat} (hi : In i) (hl : liveS (J i) = true) (hb : ¬ busy J i) {ob : Nat → Ob} (hR : Rep ob J) {w2 w3 : World} (hO : OS w2 s d D B recs (updT ob i (dropO (ob i))) rt F) (hT : TAt w3 t s (kindJ J) (ctAdd (cntZ J) (-1) (J i).rws)) (ho : Only (fun y => y = t) w2 w3) : TS (w3.setCell ⟨t, 1 + i, none⟩ (.int .i64 0)) t s d D B recs (dropJ J i) rt F := by
  have i48 := hi.2
  have o1 := only1 (w := w3) (p := t) (1 + i) (.int .i64 0)
  have hN : TAt (w3.setCell ⟨t, 1 + i, none⟩ (.int .i64 0)) t s (updT (kindJ J) i 0) (ctAdd (cntZ J) (-1) (J i).rws) := hT.setKind i (by omega) 0
  refine ⟨hN.congr (fun j _ => kindJ_drop J i j) (fun j _ => ?_), ⟨_, (hO.keep ho (fun e => h.ts e.symm) (fun y hy e => h.tF (e ▸ hy))).keep o1 (fun e => h.ts e.symm) (fun y hy e => h.tF (e ▸ hy)), hR.drop hi⟩, h.inv.drop hi hl hb, h.ts, h.tF⟩
  have := cntJ_drop hi hl j 49
  rw [if_pos (by omega)] at this
  show (cntJ (dropJ J i) j 49 : Int) = (cntJ J j 49 : Int) + -1 * (occ (J i).rws j : Int)
  omega
set_option maxRecDepth 100000 in
set_option maxHeartbeats 2000000 in
theorem tdrop_in (h : TS w t s d D B recs J rt F) (i : Nat) (hi : In i) (hl : liveS (J i) = true) (hb : ¬ busy J i) :
    Calls Tryz.prog 151 #[.pointer (some ⟨t, 0, none⟩), .int .i64 i] w fun e w' => e = .returned (.int .i64 0) ∧ TS w' t s d D B recs (dropJ J i) rt F ∧ Only (fun y => y = t ∨ y = s) w w' := by
  obtain ⟨ob, hO, hR⟩ := h.ex
  have C := h.live_any i
  rw [liveJ_nat hi, hl] at C
  have C := hide C
  have i48 := hi.2
  have hlo : liveO (ob i) = true := by rw [hR.live hi]; exact hl
  have c := (h.tab.count i (by omega)).1
  have ck := (h.tab.kind i (by omega)).1
  rw [kindJ_live hi hl] at ck
  have c0 := h.tab.store.1
  have hp : decide (0 < cntZ J i) = false := decide_eq_false (fun e => hb (busy_iff.2 e))
  have r49 : (i : Int) < 49 := by omega
  have htl := Has.lt h.tab
  have hcl := fun j (hj : j < 49) => (⟨by have := h.inv.cntZ_le j; omega, by have := h.inv.cntZ_le j; omega⟩ : -100000 ≤ cntZ J j ∧ cntZ J j ≤ 100000)
  have CD := hide (fun (W : World) (hW : Only (fun _ => False) w W) => drop_in (hO.quiet hW) i hi hlo)
  have H := hide h
  have HR := hide hR
  have Hl := hide hl
  have Hb := hide hb
  have Hcl := hide hcl
  have hst := liveS_ne hl
  by_cases h2 : (J i).kd = 2
  · have ht := h.inv.tr i hi hst h2
    have hwf := ht.wf
    have hel := encs_bound hwf
    have h8 := ht.len
    have CG := get_in hO i hi hlo (encs (J i).rws).length (by rw [(hR i hi).2.2, ht.dat])
    rw [(hR i hi).2.2, ht.dat] at CG
    have CG := hide CG
    rw [h2] at ck
    have ck' : w.cell? ⟨t, 1 + i, none⟩ = some (.int .i64 2) := ck
    have CT := hide (fun (W W' : World) (hT : TAt W t s (kindJ J) (cntZ J)) v (hv : BytesAt W v (encs (J i).rws).length (dF (encs (J i).rws))) (hc : Capd v) => tally_any hT hv hc hwf (by omega) (-1) (.inr rfl) hcl)
    have hle : (encs (J i).rws).length ≤ 1000 := by omega
    clear h hO hR hl hb hlo ck h2 ht hwf h8 hcl hel
    generalize hrs : (J i).rws = rs at *
    have Hrs := hide hrs
    clear hrs
    generalize cntZ J i = x at *
    go_enter Tryz.func151, Tryz.ntmps151
    go_wp2_with fail
    refine (unhide C).mono ?_
    rintro e w0 ⟨rfl, rfl⟩
    go_wp2_with fail
    refine (unhide CG).mono ?_
    rintro e w1 ⟨rfl, hh1, ho1⟩
    have h1 := (unhide H).quiet ho1
    have c01 := h1.tab.store.1
    have htl1 := Has.lt h1.tab
    have CD1 := hide (unhide CD w1 ho1)
    have HH1 := hide hh1
    have O1 := hide ho1
    have hg : w.heap.size < w1.heap.size := hh1.lt
    have hnt : w.heap.size ≠ t := by omega
    have hns : w.heap.size ≠ s := by
      obtain ⟨ob', hO', _⟩ := (unhide H).ex
      obtain ⟨⟨_, _, _, _, _, hs', _⟩, _, _⟩ := hO'
      have := Has.lt hs'
      omega
    have H1 := hide h1
    clear h1 hh1 ho1 CG C c c0 ck'
    go_wp2_with fail
    refine (unhide CD1).mono ?_
    rintro e w2 ⟨rfl, hO2, ho2⟩
    have hT2 := (unhide H1).tab.keep ho2 (fun e => (unhide H1).ts e)
    have hb2 := has_bytes ((unhide HH1).keep ho2 hns)
    have CT2 := hide (unhide CT w2 w2 hT2 _ hb2 (fun g n cap e => by
      simp at e
      omega))
    have HO2 := hide hO2
    have O2 := hide (((unhide O1).mono (T := fun y => y = t ∨ y = s) (fun _ _ h => h.elim)).trans ho2 (fun y _ h => .inr h))
    clear hO2 ho2 hT2 hb2 CD CD1 CT
    go_wp2_with fail
    refine (unhide CT2).mono ?_
    rintro e w3 ⟨rfl, hT3, ho3⟩
    have q := hT3.kind i (by omega)
    have htl3 := Has.lt hT3
    have RR := hide (And.intro ((unhide H).dropped hi (unhide Hl) (unhide Hb) (unhide HR) (unhide HO2) (by rw [unhide Hrs]; exact hT3) ho3) (((unhide O2).trans ho3 (fun y _ h => .inl h)).trans (only1 (w := w3) (p := t) (1 + i) (.int .i64 0)) (fun y _ h => .inl h)))
    obtain ⟨q1, q2⟩ := q
    clear hT3 ho3 CT2
    go_wp2_with fail
    go_ret
    exact ⟨rfl, unhide RR⟩
  · have e2 : (((J i).kd : Int) == 2) = false := by simp; omega
    have hrs := (h.inv.nt i hi hst h2).2
    have Hrs := hide hrs
    have CT := hide (fun (W : World) (hT : TAt W t s (kindJ J) (cntZ J)) => tally_any (rs := []) hT (nil_bytes W _) (fun g n cap e => by simp at e) (by simp) (by simp [encs]) (-1) (.inr rfl) hcl)
    clear h hO hR hl hb hlo h2 hrs hcl
    generalize (J i).kd = kk at *
    generalize cntZ J i = x at *
    go_enter Tryz.func151, Tryz.ntmps151
    go_wp2_with fail
    refine (unhide C).mono ?_
    rintro e w0 ⟨rfl, rfl⟩
    have CD1 := hide (unhide CD w (Only.refl _ _))
    go_wp2_with fail
    refine (unhide CD1).mono ?_
    rintro e w2 ⟨rfl, hO2, ho2⟩
    have hT2 := (unhide H).tab.keep ho2 (fun e => (unhide H).ts e)
    have CT2 := hide (unhide CT w2 hT2)
    have HO2 := hide hO2
    have O2 := hide (ho2.mono (T := fun y => y = t ∨ y = s) (fun y _ h => .inr h))
    clear hO2 ho2 hT2 CD CD1 CT c c0 ck
    go_wp2_with fail
    refine (unhide CT2).mono ?_
    rintro e w3 ⟨rfl, hT3, ho3⟩
    have q := hT3.kind i (by omega)
    have htl3 := Has.lt hT3
    have RR := hide (And.intro ((unhide H).dropped hi (unhide Hl) (unhide Hb) (unhide HR) (unhide HO2) (by rw [unhide Hrs]; exact hT3) ho3) (((unhide O2).trans ho3 (fun y _ h => .inl h)).trans (only1 (w := w3) (p := t) (1 + i) (.int .i64 0)) (fun y _ h => .inl h)))
    obtain ⟨q1, q2⟩ := q
    clear hT3 ho3 CT2
    go_wp2_with fail
    go_ret
    exact ⟨rfl, unhide RR⟩
end
end Go.Proofs.Qxb6500417aGreat
