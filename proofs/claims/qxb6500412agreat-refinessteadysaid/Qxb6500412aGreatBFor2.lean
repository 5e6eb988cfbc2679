/-
  OWN WORK. THE B-TREE: a tree of the forest is turned. No program in sight.
-/
import Derived.Test.Qxb6500412aGreatBObs
namespace Go.Proofs.Qxb6500412aGreat
open Go.RowKit Go.PlainAid
set_option linter.unusedSimpArgs false
set_option linter.unusedVariables false

section
variable {N N' : Nat → Option ByteArray} {F : Fo}
theorem all8_apart {α : Type} {f : Option Root → List α} (hf : f none = []) {F : Fo} (nd : (all8 f F).Nodup) {i j : Nat} (hi : i < 8) (hj : j < 8) (hij : i ≠ j) {a : α} (h1 : a ∈ f (F i)) : a ∉ f (F j) := fun h2 => by
  obtain ⟨A, B, e1, e2⟩ := all8_upd f F hi
  have e3 := e2 none
  rw [hf] at e3
  have h3 : a ∈ A ++ ([] ++ B) := by
    rw [← e3]
    exact all8_in.mpr ⟨j, hj, by rw [upd_other _ _ (fun e => hij e.symm)]; exact h2⟩
  rw [e1] at nd
  obtain ⟨n1, n2, n3⟩ := List.nodup_append.mp nd
  obtain ⟨n4, n5, n6⟩ := List.nodup_append.mp n2
  simp at h3
  rcases h3 with h3 | h3
  · exact n3 a h3 a (by simp [h1]) rfl
  · exact n6 a h1 a h3 rfl
theorem FI.turn (I : FI N F) {i : Nat} (hi : i < 8) {ro : Option Root} (dir : ∃ d, N' 1 = some d ∧ Dir d (upd F i ro))
    (gd : ∀ r, ro = some r → Gd N' r.h bE none (lo0 r.h) r.t) (out : ∀ n, n ≠ 1 → n ∉ pgsR (F i) → n ∉ pgsR ro → N' n = N n) (gone : ∀ n, n ∈ pgsR (F i) → n ∉ pgsR ro → N' n = none)
    (new : ∀ n, n ∈ pgsR ro → n ∉ pgsR (F i) → N n = none) (nd : (pgsR ro).Nodup) (ct : (all8 entsR (upd F i ro)).length ≤ 64) : FI N' (upd F i ro) := by
  obtain ⟨nd1, nd2⟩ := List.nodup_cons.mp I.nd
  have hsome : ∀ n, n ∈ all8 pgsR F → ∃ b, N n = some b := fun n hn => by
    obtain ⟨j, hj, hn⟩ := all8_in.mp hn
    cases hF : F j with
    | none => rw [hF] at hn; simp [pgsR] at hn
    | some r => rw [hF] at hn; exact (I.gd j r hj hF).st.some n hn
  have h1s : ∃ b, N 1 = some b := by obtain ⟨d, hd, _⟩ := I.dir; exact ⟨d, hd⟩
  refine ⟨dir, fun j r hj hF => ?_, fun n b hb => ?_, ?_, ct⟩
  · by_cases e : j = i
    · subst e
      rw [upd_same] at hF
      exact gd r hF
    · rw [upd_other _ _ e] at hF
      have g := I.gd j r hj hF
      have hap : ∀ n, n ∈ pgs (r.h + 1) r.t → n ∉ pgsR (F i) := fun n hn h2 => by
        have := all8_apart (f := pgsR) rfl nd2 hi hj (fun e' => e e'.symm) h2
        rw [hF] at this
        exact this hn
      refine ⟨g.sz, g.bd, g.st.keep (fun n hn => ?_), g.nd, g.l2⟩
      refine out n ?_ (hap n hn) (fun h2 => ?_)
      · intro e1
        subst e1
        exact I.one hj hF hn
      · obtain ⟨b, hb⟩ := g.st.some n hn
        rw [new n h2 (hap n hn)] at hb
        cases hb
  · by_cases e1 : n = 1
    · exact .inl e1
    · refine .inr ?_
      by_cases h2 : n ∈ pgsR ro
      · exact all8_in.mpr ⟨i, hi, by rw [upd_same]; exact h2⟩
      · by_cases h3 : n ∈ pgsR (F i)
        · rw [gone n h3 h2] at hb; cases hb
        · rw [out n e1 h3 h2] at hb
          rcases I.us n b hb with h4 | h4
          · exact absurd h4 e1
          · obtain ⟨j, hj, hn⟩ := all8_in.mp h4
            have hji : j ≠ i := fun e => by subst e; exact h3 hn
            exact all8_in.mpr ⟨j, hj, by rw [upd_other _ _ hji]; exact hn⟩
  · obtain ⟨A, B, e1, e2⟩ := all8_upd pgsR F hi
    rw [e2 ro]
    have nd' := I.nd
    rw [e1] at nd'
    have hAB : ∀ n, n ∈ A ∨ n ∈ B ∨ n = 1 → ∃ b, N n = some b := fun n hn => by
      rcases hn with h3 | h3 | h3
      · exact hsome n (by rw [e1]; simp [h3])
      · exact hsome n (by rw [e1]; simp [h3])
      · subst h3; exact h1s
    have hro : ∀ n, n ∈ pgsR ro → n ∉ A ∧ n ∉ B ∧ n ≠ 1 := fun n hn => by
      by_cases h3 : n ∈ pgsR (F i)
      · have c := List.nodup_iff_count.mp nd' n
        simp only [List.count_cons, List.count_append] at c
        have c1 := List.count_pos_iff.mpr h3
        refine ⟨fun h4 => ?_, fun h4 => ?_, fun h4 => ?_⟩
        · have := List.count_pos_iff.mpr h4; omega
        · have := List.count_pos_iff.mpr h4; omega
        · subst h4; simp at c; omega
      · have h5 := new n hn h3
        refine ⟨fun h4 => ?_, fun h4 => ?_, fun h4 => ?_⟩
        · obtain ⟨b, hb⟩ := hAB n (.inl h4); rw [h5] at hb; cases hb
        · obtain ⟨b, hb⟩ := hAB n (.inr (.inl h4)); rw [h5] at hb; cases hb
        · obtain ⟨b, hb⟩ := hAB n (.inr (.inr h4)); rw [h5] at hb; cases hb
    refine List.nodup_iff_count.mpr (fun a => ?_)
    have c := List.nodup_iff_count.mp nd' a
    have c2 := List.nodup_iff_count.mp nd a
    simp only [List.count_cons, List.count_append] at c ⊢
    by_cases h3 : a ∈ pgsR ro
    · obtain ⟨q1, q2, q3⟩ := hro a h3
      have z1 := List.count_eq_zero.mpr q1
      have z2 := List.count_eq_zero.mpr q2
      have z3 : (1 == a) = false := by simp; exact fun e => q3 e.symm
      simp [z3]
      omega
    · have z1 := List.count_eq_zero.mpr h3
      omega
/-- The directory turned. -/
theorem byteAt_with (d : ByteArray) (i v : Nat) (hd : d.size = 128) (hi : i < 128) (hv : v < 256) (j : Nat) (hj : j < 128) : byteAt (withB d i v) j = if j = i then v else byteAt d j := by
  have hl : d.data.toList.length = 128 := by rw [Array.length_toList]; exact hd
  unfold byteAt
  rw [withB_list d i v hd]
  have e : d.data.toList.take i ++ UInt8.ofNat v :: d.data.toList.drop (i + 1) = d.data.toList.set i (UInt8.ofNat v) := by
    rw [List.set_eq_take_append_cons_drop, if_pos (by omega)]
  rw [e, List.getD_eq_getElem?_getD, List.getElem?_set]
  by_cases h : i = j
  · subst h
    rw [if_pos rfl, if_pos (by omega), if_pos rfl]
    simp
    omega
  · rw [if_neg h, if_neg (fun e => h e.symm), ← List.getD_eq_getElem?_getD]
theorem Dir.cnt {d : ByteArray} {G : Fo} (hd : d.size = 128) (hr : ∀ i, i < 8 → byteAt d i = pgR (G i)) (hc : (all8 entsR G).length < 256) : Dir (withB d 8 (all8 entsR G).length) G :=
  ⟨withB_size d 8 _ hd (by omega), fun i hi => by rw [byteAt_with d 8 _ hd (by omega) hc i (by omega), if_neg (by omega), hr i hi], by rw [byteAt_with d 8 _ hd (by omega) hc 8 (by omega), if_pos rfl]⟩
theorem Dir.root {d : ByteArray} (hd : Dir d F) {i : Nat} (hi : i < 8) {ro : Option Root} (hp : pgR ro < 256) : (withB d i (pgR ro)).size = 128 ∧ (∀ j, j < 8 → byteAt (withB d i (pgR ro)) j = pgR (upd F i ro j)) ∧ byteAt (withB d i (pgR ro)) 8 = (all8 entsR F).length := by
  refine ⟨withB_size d i _ hd.sz (by omega), fun j hj => ?_, ?_⟩
  · rw [byteAt_with d i _ hd.sz (by omega) hp j (by omega)]
    by_cases e : j = i
    · subst e; rw [if_pos rfl, upd_same]
    · rw [if_neg e, upd_other _ _ e, hd.rt j hj]
  · rw [byteAt_with d i _ hd.sz (by omega) hp 8 (by omega), if_neg (by omega), hd.ct]
/-- The numbers. -/
theorem len8 {α : Type} (f : Option Root → List α) (F : Fo) : (all8 f F).length = (f (F 0)).length + (f (F 1)).length + (f (F 2)).length + (f (F 3)).length + (f (F 4)).length + (f (F 5)).length + (f (F 6)).length + (f (F 7)).length := by
  have : List.range 8 = [0, 1, 2, 3, 4, 5, 6, 7] := rfl
  unfold all8
  rw [this]
  simp
  omega
theorem FI.thr (I : FI N F) {i : Nat} (hi : i < 8) : (pgsR (F i)).length ≤ 1 ∨ (pgsR (F i)).length + 1 ≤ (entsR (F i)).length := by
  cases hF : F i with
  | none => exact .inl (by simp [pgsR])
  | some r =>
    have g := I.gd i r hi hF
    by_cases h0 : r.h = 0
    · refine .inl ?_
      obtain ⟨h, t⟩ := r
      subst h0
      show (pgs 1 t).length ≤ 1
      rw [pgs_succ, show pgsL 0 (itT t) = [] from pgsL_zero _]
      simp
    · refine .inr ?_
      have hs : Sz (r.h + 1) 2 r.t := by
        have := g.sz
        unfold lo0 at this
        rw [if_neg h0] at this
        exact this
      have := Sz.thrift bE hs
      rw [ents_succ] at this
      exact this
theorem FI.room (I : FI N F) {i : Nat} (hi : i < 8) (ht : (all8 entsR F).length ≤ 63) : (1 :: all8 pgsR F).length + (entsR (F i)).length ≤ 71 + (pgsR (F i)).length := by
  have u0 : (pgsR (F 0)).length ≤ (entsR (F 0)).length + 1 := by have := I.thr (i := 0) (by omega); omega
  have u1 : (pgsR (F 1)).length ≤ (entsR (F 1)).length + 1 := by have := I.thr (i := 1) (by omega); omega
  have u2 : (pgsR (F 2)).length ≤ (entsR (F 2)).length + 1 := by have := I.thr (i := 2) (by omega); omega
  have u3 : (pgsR (F 3)).length ≤ (entsR (F 3)).length + 1 := by have := I.thr (i := 3) (by omega); omega
  have u4 : (pgsR (F 4)).length ≤ (entsR (F 4)).length + 1 := by have := I.thr (i := 4) (by omega); omega
  have u5 : (pgsR (F 5)).length ≤ (entsR (F 5)).length + 1 := by have := I.thr (i := 5) (by omega); omega
  have u6 : (pgsR (F 6)).length ≤ (entsR (F 6)).length + 1 := by have := I.thr (i := 6) (by omega); omega
  have u7 : (pgsR (F 7)).length ≤ (entsR (F 7)).length + 1 := by have := I.thr (i := 7) (by omega); omega
  have l1 := len8 pgsR F
  have l2 := len8 entsR F
  rw [List.length_cons]
  rcases (show i = 0 ∨ i = 1 ∨ i = 2 ∨ i = 3 ∨ i = 4 ∨ i = 5 ∨ i = 6 ∨ i = 7 by omega) with rfl | rfl | rfl | rfl | rfl | rfl | rfl | rfl <;> omega
theorem space8 {p0 p1 p2 p3 p4 p5 p6 p7 e0 e1 e2 e3 e4 e5 e6 e7 P E : Nat} (l1 : P = p0 + p1 + p2 + p3 + p4 + p5 + p6 + p7) (l2 : E = e0 + e1 + e2 + e3 + e4 + e5 + e6 + e7) (ct : E ≤ 64) (hz : (p0 = 0 ∧ e0 = 0) ∨ (p1 = 0 ∧ e1 = 0) ∨ (p2 = 0 ∧ e2 = 0) ∨ (p3 = 0 ∧ e3 = 0) ∨ (p4 = 0 ∧ e4 = 0) ∨ (p5 = 0 ∧ e5 = 0) ∨ (p6 = 0 ∧ e6 = 0) ∨ (p7 = 0 ∧ e7 = 0))
    (t0 : p0 ≤ 1 ∨ p0 + 1 ≤ e0) (t1 : p1 ≤ 1 ∨ p1 + 1 ≤ e1) (t2 : p2 ≤ 1 ∨ p2 + 1 ≤ e2) (t3 : p3 ≤ 1 ∨ p3 + 1 ≤ e3) (t4 : p4 ≤ 1 ∨ p4 + 1 ≤ e4) (t5 : p5 ≤ 1 ∨ p5 + 1 ≤ e5) (t6 : p6 ≤ 1 ∨ p6 + 1 ≤ e6) (t7 : p7 ≤ 1 ∨ p7 + 1 ≤ e7) : P + 1 < 71 := by
  have u0 : p0 ≤ e0 + 1 := by omega
  have u1 : p1 ≤ e1 + 1 := by omega
  have u2 : p2 ≤ e2 + 1 := by omega
  have u3 : p3 ≤ e3 + 1 := by omega
  have u4 : p4 ≤ e4 + 1 := by omega
  have u5 : p5 ≤ e5 + 1 := by omega
  have u6 : p6 ≤ e6 + 1 := by omega
  have u7 : p7 ≤ e7 + 1 := by omega
  rcases hz with hz | hz | hz | hz | hz | hz | hz | hz
  · skip
    rcases t0 with b0 | b0
    · skip
      rcases t1 with b1 | b1
      · skip
        rcases t2 with b2 | b2
        · skip
          rcases t3 with b3 | b3
          · skip
            rcases t4 with b4 | b4
            · skip
              rcases t5 with b5 | b5
              · skip
                rcases t6 with b6 | b6
                · skip
                  rcases t7 with b7 | b7
                  · skip
                    omega
                  · skip
                    omega
                · clear t7
                  omega
              · clear t6 t7
                omega
            · clear t5 t6 t7
              omega
          · clear t4 t5 t6 t7
            omega
        · clear t3 t4 t5 t6 t7
          omega
      · clear t2 t3 t4 t5 t6 t7
        omega
    · clear t1 t2 t3 t4 t5 t6 t7
      omega
  · skip
    rcases t0 with b0 | b0
    · skip
      rcases t1 with b1 | b1
      · skip
        rcases t2 with b2 | b2
        · skip
          rcases t3 with b3 | b3
          · skip
            rcases t4 with b4 | b4
            · skip
              rcases t5 with b5 | b5
              · skip
                rcases t6 with b6 | b6
                · skip
                  rcases t7 with b7 | b7
                  · skip
                    omega
                  · skip
                    omega
                · clear t7
                  omega
              · clear t6 t7
                omega
            · clear t5 t6 t7
              omega
          · clear t4 t5 t6 t7
            omega
        · clear t3 t4 t5 t6 t7
          omega
      · clear t2 t3 t4 t5 t6 t7
        omega
    · clear t1 t2 t3 t4 t5 t6 t7
      omega
  · skip
    rcases t0 with b0 | b0
    · skip
      rcases t1 with b1 | b1
      · skip
        rcases t2 with b2 | b2
        · skip
          rcases t3 with b3 | b3
          · skip
            rcases t4 with b4 | b4
            · skip
              rcases t5 with b5 | b5
              · skip
                rcases t6 with b6 | b6
                · skip
                  rcases t7 with b7 | b7
                  · skip
                    omega
                  · skip
                    omega
                · clear t7
                  omega
              · clear t6 t7
                omega
            · clear t5 t6 t7
              omega
          · clear t4 t5 t6 t7
            omega
        · clear t3 t4 t5 t6 t7
          omega
      · clear t2 t3 t4 t5 t6 t7
        omega
    · clear t1 t2 t3 t4 t5 t6 t7
      omega
  · skip
    rcases t0 with b0 | b0
    · skip
      rcases t1 with b1 | b1
      · skip
        rcases t2 with b2 | b2
        · skip
          rcases t3 with b3 | b3
          · skip
            rcases t4 with b4 | b4
            · skip
              rcases t5 with b5 | b5
              · skip
                rcases t6 with b6 | b6
                · skip
                  rcases t7 with b7 | b7
                  · skip
                    omega
                  · skip
                    omega
                · clear t7
                  omega
              · clear t6 t7
                omega
            · clear t5 t6 t7
              omega
          · clear t4 t5 t6 t7
            omega
        · clear t3 t4 t5 t6 t7
          omega
      · clear t2 t3 t4 t5 t6 t7
        omega
    · clear t1 t2 t3 t4 t5 t6 t7
      omega
  · skip
    rcases t0 with b0 | b0
    · skip
      rcases t1 with b1 | b1
      · skip
        rcases t2 with b2 | b2
        · skip
          rcases t3 with b3 | b3
          · skip
            rcases t4 with b4 | b4
            · skip
              rcases t5 with b5 | b5
              · skip
                rcases t6 with b6 | b6
                · skip
                  rcases t7 with b7 | b7
                  · skip
                    omega
                  · skip
                    omega
                · clear t7
                  omega
              · clear t6 t7
                omega
            · clear t5 t6 t7
              omega
          · clear t4 t5 t6 t7
            omega
        · clear t3 t4 t5 t6 t7
          omega
      · clear t2 t3 t4 t5 t6 t7
        omega
    · clear t1 t2 t3 t4 t5 t6 t7
      omega
  · skip
    rcases t0 with b0 | b0
    · skip
      rcases t1 with b1 | b1
      · skip
        rcases t2 with b2 | b2
        · skip
          rcases t3 with b3 | b3
          · skip
            rcases t4 with b4 | b4
            · skip
              rcases t5 with b5 | b5
              · skip
                rcases t6 with b6 | b6
                · skip
                  rcases t7 with b7 | b7
                  · skip
                    omega
                  · skip
                    omega
                · clear t7
                  omega
              · clear t6 t7
                omega
            · clear t5 t6 t7
              omega
          · clear t4 t5 t6 t7
            omega
        · clear t3 t4 t5 t6 t7
          omega
      · clear t2 t3 t4 t5 t6 t7
        omega
    · clear t1 t2 t3 t4 t5 t6 t7
      omega
  · skip
    rcases t0 with b0 | b0
    · skip
      rcases t1 with b1 | b1
      · skip
        rcases t2 with b2 | b2
        · skip
          rcases t3 with b3 | b3
          · skip
            rcases t4 with b4 | b4
            · skip
              rcases t5 with b5 | b5
              · skip
                rcases t6 with b6 | b6
                · skip
                  rcases t7 with b7 | b7
                  · skip
                    omega
                  · skip
                    omega
                · clear t7
                  omega
              · clear t6 t7
                omega
            · clear t5 t6 t7
              omega
          · clear t4 t5 t6 t7
            omega
        · clear t3 t4 t5 t6 t7
          omega
      · clear t2 t3 t4 t5 t6 t7
        omega
    · clear t1 t2 t3 t4 t5 t6 t7
      omega
  · skip
    rcases t0 with b0 | b0
    · skip
      rcases t1 with b1 | b1
      · skip
        rcases t2 with b2 | b2
        · skip
          rcases t3 with b3 | b3
          · skip
            rcases t4 with b4 | b4
            · skip
              rcases t5 with b5 | b5
              · skip
                rcases t6 with b6 | b6
                · skip
                  rcases t7 with b7 | b7
                  · skip
                    omega
                  · skip
                    omega
                · clear t7
                  omega
              · clear t6 t7
                omega
            · clear t5 t6 t7
              omega
          · clear t4 t5 t6 t7
            omega
        · clear t3 t4 t5 t6 t7
          omega
      · clear t2 t3 t4 t5 t6 t7
        omega
    · clear t1 t2 t3 t4 t5 t6 t7
      omega
theorem FI.space (I : FI N F) {i : Nat} (hi : i < 8) (hn : F i = none) : (1 :: all8 pgsR F).length < 71 := by
  have hz : (pgsR (F i)).length = 0 := by rw [hn]; rfl
  have hz2 : (entsR (F i)).length = 0 := by rw [hn]; rfl
  rw [List.length_cons]
  refine space8 (len8 pgsR F) (len8 entsR F) I.ct ?_ (I.thr (i := 0) (by omega)) (I.thr (i := 1) (by omega)) (I.thr (i := 2) (by omega)) (I.thr (i := 3) (by omega)) (I.thr (i := 4) (by omega)) (I.thr (i := 5) (by omega)) (I.thr (i := 6) (by omega)) (I.thr (i := 7) (by omega))
  rcases (show i = 0 ∨ i = 1 ∨ i = 2 ∨ i = 3 ∨ i = 4 ∨ i = 5 ∨ i = 6 ∨ i = 7 by omega) with rfl | rfl | rfl | rfl | rfl | rfl | rfl | rfl <;> simp only [hz, hz2, and_self, true_or, or_true]
theorem FI.cov (I : FI N F) : Cov N (1 :: all8 pgsR F) := fun n b hb => by
  rcases I.us n b hb with h | h
  · simp [h]
  · simp [h]
theorem upd_len (F : Fo) {i : Nat} (hi : i < 8) (ro : Option Root) : (all8 entsR (upd F i ro)).length + (entsR (F i)).length = (all8 entsR F).length + (entsR ro).length := by
  obtain ⟨A, B, h1, h2⟩ := all8_upd entsR F hi
  rw [h1, h2 ro]
  simp
  omega
end
end Go.Proofs.Qxb6500412aGreat
