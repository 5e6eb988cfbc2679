/-
  OWN WORK. THE TREE MODEL: plain.
-/
import Derived.Test.Qxb6500421aGreatUCpy
namespace Go.Proofs.Qxb6500421aGreat
open Go.RowKit Go.PlainAid
set_option linter.unusedSimpArgs false
set_option linter.unusedVariables false

def upS (f : Sl → Sl) (J : Nat → Sl) (k : Nat) : Nat → Sl := fun i => if i < k then f (J i) else J i
theorem upS_at (f : Sl → Sl) (J : Nat → Sl) (k : Nat) : upS f J k k = J k := by simp [upS]
theorem upS_succ (f : Sl → Sl) (J : Nat → Sl) (k : Nat) : upS f J (k + 1) = updT (upS f J k) k (f (J k)) := by
  funext i
  unfold upS updT
  by_cases e : i = k
  · subst e; simp
  · by_cases h : i < k
    · have h2 : i < k + 1 := by omega
      simp [e, h, h2]
    · have h2 : ¬ i < k + 1 := by omega
      simp [e, h, h2]
theorem utrees_zero : Tryz.zeroCells61 = tabV 248 (ucell (fun _ => US.zero) 0 (.pointer none) (.slice none 0 0)) := by kernel_rfl
theorem utrees_new (rt : Nat) : Tryz.zeroCells61.setIfInBounds 245 (.int .i64 (rt : Int)) = tabV 248 (ucell (fun _ => US.zero) rt (.pointer none) (.slice none 0 0)) := by
  rw [utrees_zero, tabV_set]
  apply tabV_congr
  intro j hj
  by_cases e : j = 245
  · subst e; rfl
  · rw [if_neg e]; exact ucell_eq j hj (fun _ _ _ _ _ => rfl) (fun h => absurd h e) (fun _ => rfl) (fun _ => rfl)
theorem bytesAt_ofU {w : World} {g n : Nat} {x : Nat → Nat} (h : Has w g (tabV n (u8f x)) 5) : BytesAt w (.slice (some ⟨g, 0, none⟩) n n) n x := by
  refine ⟨_, _, rfl, fun hn => ⟨g, rfl, fun j hj => ?_⟩⟩
  rw [h.cell, u8_get _ _ _ hj]
theorem OwnI.in_ {w : World} {v : Value} {l : List Int} (h : OwnI w v l) : IntsIn w v l := by
  obtain ⟨a, cap, rfl⟩ := ownsRow_shape h
  refine ⟨a, cap, rfl, fun hn => ?_⟩
  rcases h.2 with ⟨he, h0⟩ | ⟨g, cap', cur, he, _⟩
  · omega
  · obtain ⟨rfl, _, _⟩ : a = some ⟨g, 0, none⟩ ∧ True ∧ cap = cap' := by simpa using he
    refine ⟨g, rfl, fun i hi => ?_⟩
    have hc := World.ownsRow.cells h (g := g) (by first | exact rfl | simp [Value.ownBlock])
    have b1 := hc i (.int .i64 l[i]) (by simp [iV, hi])
    rw [addr_add] at b1
    exact b1
theorem copyBytesU {w : World} (v : Value) (n : Nat) (x : Nat → Nat) (h : BytesAt w v n x) (hn : n ≤ 1000000) :
    Calls Tryz.prog 47 #[v] w fun e w' => ∃ g, e = .returned (.slice (some ⟨g, 0, none⟩) n n) ∧ w.heap.size ≤ g ∧ g < w'.heap.size ∧ BytesAt w' (.slice (some ⟨g, 0, none⟩) n n) n x ∧ Only (fun _ => False) w w' := by
  refine (copyBytes_any v n x h hn).mono ?_
  rintro e w' ⟨rfl, rfl⟩
  exact ⟨_, rfl, Nat.le_refl _, by simp, bytesAt_ofU (Has.new w _ _), (Only.refl _ w).alloc _⟩
/-- What plain's loop has copied. -/
structure UPI (w : World) (c : Nat) (J : Nat → Sl) (rt k : Nat) (wr : World) : Prop where
  ex : ∃ sl, UM wr c sl rt (.pointer none) (.slice none 0 0) ∧ ∀ i, In i → i < k → UOk wr (sl i) (J i) ∧ ∀ g, (sl i).blk g → c < g ∧ g < wr.heap.size
  ho : Only (fun _ => False) w wr

section
variable {w : World} {m : Nat} {J : Nat → Sl} {rt : Nat} {hist : Value} {H : Nat → Prop}

set_option maxRecDepth 100000 in
set_option maxHeartbeats 4000000 in
theorem uplain_any (h : UAt w m J rt hist H) :
    Calls Tryz.prog 24 #[.pointer (some ⟨m, 0, none⟩)] w fun e w' => e = .returned (.pointer (some ⟨w.heap.size, 0, none⟩)) ∧ UAt w' w.heap.size J rt (.slice none 0 0) (Ext (fun _ => False) w w') ∧ Only (fun _ => False) w w' := by
  have cr := h.rows.1.1
  have hml := h.lt
  have hz : UM (w.alloc (.cells (Tryz.zeroCells61.setIfInBounds 245 (.int .i64 (rt : Int))) 61)) w.heap.size (fun _ => US.zero) rt (.pointer none) (.slice none 0 0) := by
    have := Has.new w (Tryz.zeroCells61.setIfInBounds 245 (.int .i64 (rt : Int))) 61
    exact (congrArg (fun a => Has (w.alloc (.cells (Tryz.zeroCells61.setIfInBounds 245 (.int .i64 (rt : Int))) 61)) w.heap.size a 61) (utrees_new rt)).mp this
  have hI0 : UPI w w.heap.size J rt 1 (w.alloc (.cells (Tryz.zeroCells61.setIfInBounds 245 (.int .i64 (rt : Int))) 61)) := ⟨⟨_, hz, fun i hin hlt => by have := hin.1; omega⟩, (Only.refl _ w).alloc _⟩
  have HI0 := hide hI0
  have HM := hide h
  clear hI0 hz h
  go_enter Tryz.func24, Tryz.ntmps24
  go_wp2_with fail
  generalize w.alloc (.cells (Tryz.zeroCells61.setIfInBounds 245 (.int .i64 (rt : Int))) 61) = w0 at *
  generalize Tryz.zeroCells61.setIfInBounds 245 (.int .i64 (rt : Int)) = zc at *
  generalize hcc : w.heap.size = c at *
  have Hcc := hide hcc
  clear hcc
  go_loopw [4] (fun kv wr => ∃ k : Nat, 1 ≤ k ∧ k ≤ 49 ∧ kv = .int .i64 k ∧ UPI w c J rt k wr) (fun kv _ => (49 - intOf kv).toNat)
  case atStart => exact ⟨1, by omega, by omega, rfl, unhide HI0⟩
  case round =>
    clear HI0
    obtain ⟨k, hk1, hk, rfl, ⟨sc, hC, hcp⟩, ho⟩ := hrel
    by_cases hk8 : k < 49
    · have hin : In k := ⟨hk1, by omega⟩
      obtain ⟨dv, lv, kv, hc5⟩ := ((unhide HM).quiet ho).cells hin
      have a1 : decide ((k : Int) ≤ 48) = true := by simp; omega
      have a2 : (k : Int) < 49 := by omega
      have z0 := hc5.c0.1
      have z1 := hc5.c1.1
      have z2 := hc5.c2.1
      have z3 := hc5.c3.1
      have z4 := hc5.c4.1
      have hcl := Has.lt hC
      obtain ⟨da, dc, rfl, _⟩ := id hc5.db
      obtain ⟨la, lc, rfl, _⟩ := id hc5.lb
      obtain ⟨ka, kc, rfl, _⟩ := id hc5.kb
      have H5 := hide hc5
      have HC := hide hC
      have Hcp := hide hcp
      clear hc5 hC hcp
      generalize hst : (J k).st = st at *
      generalize hkd : (J k).kd = kd at *
      have Hst := hide hst.symm
      have Hkd := hide hkd.symm
      clear hst hkd
      have hW : Has (wr.alloc (.cells #[.int .i64 (st : Int), .int .i64 (kd : Int), .slice da (mD (J k)).length dc, .slice la (J k).lst.length lc, .slice ka (kidL (J k)).length kc] 57)) wr.heap.size #[.int .i64 (st : Int), .int .i64 (kd : Int), .slice da (mD (J k)).length dc, .slice la (J k).lst.length lc, .slice ka (kidL (J k)).length kc] 57 := Has.new wr _ _
      have oW : Only (fun _ => False) wr (wr.alloc (.cells #[.int .i64 (st : Int), .int .i64 (kd : Int), .slice da (mD (J k)).length dc, .slice la (J k).lst.length lc, .slice ka (kidL (J k)).length kc] 57)) := (Only.refl _ wr).alloc _
      have HW := hide hW
      have OW := hide oW
      clear hW oW
      go_upto_region 6 with fail
      generalize wr.alloc (.cells #[.int .i64 (st : Int), .int .i64 (kd : Int), .slice da (mD (J k)).length dc, .slice la (J k).lst.length lc, .slice ka (kidL (J k)).length kc] 57) = w1 at *
      have hcob : c < wr.heap.size := hcl
      have s1 := (unhide OW).size
      generalize hob : wr.heap.size = ob at *
      have Hob := hide hob
      clear hob
      have x2 := (unhide HW).cell 2
      have C1 := hide (copyBytesU (.slice da (mD (J k)).length dc) (mD (J k)).length (dF (mD (J k))) ((unhide H5).db.keep (unhide OW) (fun _ _ h => h)) (by have := (unhide H5).d180; omega))
      go_wp2_with fail
      refine (unhide C1).mono ?_
      rintro e w2 ⟨g2, rfl, q1, q2, q3, q4⟩
      have O2 := hide q4
      have B2 := hide q3
      have s2 := q4.size
      have W2 := hide (Has.keep (unhide HW) q4 (fun h => h))
      have x3 := (unhide W2).cell 3
      have L3 := (unhide H5).lb.keep ((unhide OW).trans q4 (fun _ _ h => h)) (fun _ _ h => h)
      have C3 := hide (ucopyList_any _ _ L3 (by have := (unhide H5).l8; omega))
      clear q3 q4 C1 L3 x2
      go_wp2_with fail
      refine (unhide C3).mono ?_
      rintro e w3 ⟨v3, rfl, q5, q6, q7⟩
      obtain ⟨a3, c3, rfl⟩ := ownsRow_shape q5
      have O3 := hide q7
      have B3 := hide q5
      have s3 := q7.size
      have W3 := hide (Has.keep (unhide W2) q7 (fun h => h))
      have x4 := (unhide W3).cell 4
      have L4 := ((unhide H5).kb.keep ((unhide OW).trans (unhide O2) (fun _ _ h => h)) (fun _ _ h => h)).keep q7 (fun _ _ h => h)
      have C4 := hide (ucopyInts_any _ _ L4 (by have := (unhide H5).k8; omega))
      have Q6 := hide q6
      clear q5 q6 q7 C3 L4 x3
      go_wp2_with fail
      refine (unhide C4).mono ?_
      rintro e w4 ⟨v4, rfl, q8, q9, qA⟩
      obtain ⟨a4, c4, rfl⟩ := ownsRow_shape q8
      have O4 := hide qA
      have B4 := hide q8
      have s4 := qA.size
      have W4 := hide (Has.keep (unhide W3) qA (fun h => h))
      have y0 := (unhide W4).cell 0
      have y1 := (unhide W4).cell 1
      have o14 : Only (fun _ => False) wr w4 := (((unhide OW).trans (unhide O2) (fun _ _ h => h)).trans (unhide O3) (fun _ _ h => h)).trans qA (fun _ _ h => h)
      have O14 := hide o14
      have hC4 := (unhide HC).keep o14 (fun h => h)
      have t0 := hC4.state k hk8
      have t1 := hC4.slot k 1 hk8 (by omega)
      have t2 := hC4.slot k 2 hk8 (by omega)
      have t3 := hC4.slot k 3 hk8 (by omega)
      have t4 := hC4.slot k 4 hk8 (by omega)
      simp only [usCell] at t1 t2 t3 t4
      have HC4 := hide hC4
      have Q9 := hide q9
      have hob2 : ob ≠ c := by omega
      clear q8 q9 qA C4 hC4 x4 o14
      generalize (sc k).st = e0 at *
      generalize (sc k).kd = e1 at *
      generalize (sc k).dv = e2 at *
      generalize (sc k).lv = e3 at *
      generalize (sc k).kv = e4 at *
      have hcw4 : c < w4.heap.size := by omega
      have hP : UPI w c J rt (k + 1) (put5 w4 c k ⟨st, kd, .slice (some ⟨g2, 0, none⟩) (mD (J k)).length (mD (J k)).length, .slice a3 (J k).lst.length c3, .slice a4 (kidL (J k)).length c4⟩).drew := by
        have hcw : ¬ c < w.heap.size := by have := unhide Hcc; omega
        have e1 := (unhide HC4).putSlot k hk8 ⟨st, kd, .slice (some ⟨g2, 0, none⟩) (mD (J k)).length (mD (J k)).length, .slice a3 (J k).lst.length c3, .slice a4 (kidL (J k)).length c4⟩
        have o1 : Only (fun x => x = c) w4 _ := only5 (i := k) (Only.refl (fun x => x = c) w4) (fun _ => rfl) ⟨st, kd, .slice (some ⟨g2, 0, none⟩) (mD (J k)).length (mD (J k)).length, .slice a3 (J k).lst.length c3, .slice a4 (kidL (J k)).length c4⟩
        have o2 := o1.drew
        have so2 := o2.size
        refine ⟨⟨_, Has.drew e1, fun i hin2 hlt => ?_⟩, (ho.trans (unhide O14) (fun _ _ h => h)).trans o2 (fun y hy e => absurd (e ▸ hy) hcw)⟩
        by_cases e : i = k
        · subst e
          rw [updT_same]
          have b2 := ((unhide B2).keep (unhide O3) (fun _ _ h => h)).keep (unhide O4) (fun _ _ h => h)
          have b3 := (unhide B3).in_.keep (unhide O4) (fun _ _ h => h)
          have b4 := (unhide B4).in_
          have h5 := unhide H5
          have lg : ∀ g, (Value.slice (some ⟨g2, 0, none⟩) (mD (J i)).length (mD (J i)).length).ownBlock = some g ∨ (Value.slice a3 (J i).lst.length c3).ownBlock = some g ∨ (Value.slice a4 (kidL (J i)).length c4).ownBlock = some g → c < g ∧ g < w4.heap.size := by
            intro g hg
            rcases hg with hg | hg | hg
            · have : g2 = g := by simpa [Value.ownBlock] using hg
              omega
            · have h1 := unhide Q6 g hg
              have h2 := ownsRow_lt (unhide B3) g hg
              omega
            · have h1 := unhide Q9 g hg
              have h2 := ownsRow_lt (unhide B4) g hg
              omega
          refine ⟨⟨unhide Hst, unhide Hkd, b2.keep o2 (fun g hg e => ?_), b3.keep o2 (fun g hg e => ?_), b4.keep o2 (fun g hg e => ?_), h5.d180, h5.l8, h5.k8⟩, fun g hg => ?_⟩
          · have := lg g (.inl hg); omega
          · have := lg g (.inr (.inl hg)); omega
          · have := lg g (.inr (.inr hg)); omega
          · have := lg g hg; omega
        · rw [updT_other _ _ _ _ e]
          obtain ⟨q1, q2⟩ := (unhide Hcp) i hin2 (by omega)
          refine ⟨(q1.keep (unhide O14) (fun _ _ h => h)).keep o2 (fun g hg e => by have := (q2 g hg).1; omega), fun g hg => ⟨(q2 g hg).1, ?_⟩⟩
          have := (q2 g hg).2
          have hh := unhide Hob
          omega
      have HP := hide hP
      clear hP
      go_upto_region 9 with fail
      go_region
      all_goals
        go_wp2_with fail
        go_roundw
        case rel => exact ⟨k + 1, by omega, by omega, by go_num, unhide HP⟩
        case measure => simp [intOf]; omega
    · obtain rfl : k = 49 := by omega
      go_wp2_with fail
      go_ret
      have hc := unhide Hcc
      have hwz := ho.size
      rw [hc]
      refine ⟨rfl, ⟨⟨sc, _, hC, fun i hin => ?_⟩, .inr ⟨by omega, Has.lt hC⟩, fun y hy => ?_⟩, ho⟩
      · obtain ⟨q1, q2⟩ := hcp i hin (by have := hin.2; omega)
        exact ⟨q1, fun g hg => ⟨.inr ⟨by have := (q2 g hg).1; omega, (q2 g hg).2⟩, by have := (q2 g hg).1; omega⟩⟩
      · rcases hy with hy | hy
        · exact hy.elim
        · exact hy.2
end
end Go.Proofs.Qxb6500421aGreat
