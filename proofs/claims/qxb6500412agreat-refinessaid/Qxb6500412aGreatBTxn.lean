/-
  OWN WORK. THE B-TREE: Begin, Commit, Abort, Open, New.
-/
import Derived.Test.Qxb6500412aGreatBOpC
import Derived.Test.Qxb6500412aGreatBOpD
namespace Go.Proofs.Qxb6500412aGreat
open Go.RowKit Go.PlainAid
set_option linter.unusedSimpArgs false
set_option linter.unusedVariables false

section
variable {q : Gnd} {w : World} {view : List ByteArray}
theorem bbegin_open (A : FA q w true view) : Calls Tryz.prog 92 #[.pointer (some ⟨q.f, 0, none⟩)] w fun e w' => e = .returned (.int .i64 3) ∧ w = w' := by
  have c1 := A.ptr
  have C := hide (pbegin_open A.pg)
  go_enter Tryz.func92, Tryz.ntmps92
  go_wp2_with fail
  refine (unhide C).mono ?_
  rintro e w1 ⟨rfl, rfl⟩
  go_wp2_with fail
  go_ret
  exact ⟨rfl, rfl⟩
theorem bbegin_shut (A : FA q w false view) : Calls Tryz.prog 92 #[.pointer (some ⟨q.f, 0, none⟩)] w fun e w' => e = .returned (.int .i64 0) ∧ FA q w' true view ∧ Only q.S w w' := by
  have c1 := A.ptr
  have C := hide (pbegin_shut A.pg)
  go_enter Tryz.func92, Tryz.ntmps92
  go_wp2_with fail
  refine (unhide C).mono ?_
  rintro e w1 ⟨rfl, h1, o1⟩
  have FF := hide (And.intro h1 o1)
  clear h1 o1
  go_wp2_with fail
  go_ret
  exact ⟨rfl, ⟨(unhide FF).1, A.has.keep (unhide FF).2 A.fS, A.fG, A.fF, A.fp⟩, (unhide FF).2⟩
theorem babort_shut (A : FA q w false view) : Calls Tryz.prog 300 #[.pointer (some ⟨q.f, 0, none⟩)] w fun e w' => e = .returned (.int .i64 2) ∧ w = w' := by
  have c1 := A.ptr
  have C := hide (pabort_shut A.pg)
  go_enter Tryz.func300, Tryz.ntmps300
  go_wp2_with fail
  refine (unhide C).mono ?_
  rintro e w1 ⟨rfl, rfl⟩
  go_wp2_with fail
  go_ret
  exact ⟨rfl, rfl⟩
theorem babort_open (A : FA q w true view) : Calls Tryz.prog 300 #[.pointer (some ⟨q.f, 0, none⟩)] w fun e w' => e = .returned (.int .i64 0) ∧ FA q w' false (q.com.take 72) ∧ Only q.S w w' := by
  have c1 := A.ptr
  have C := hide (pabort_open A.pg)
  go_enter Tryz.func300, Tryz.ntmps300
  go_wp2_with fail
  refine (unhide C).mono ?_
  rintro e w1 ⟨rfl, h1, o1⟩
  have FF := hide (And.intro h1 o1)
  clear h1 o1
  go_wp2_with fail
  go_ret
  exact ⟨rfl, ⟨(unhide FF).1, A.has.keep (unhide FF).2 A.fS, A.fG, A.fF, A.fp⟩, (unhide FF).2⟩
theorem bcommit_shut (A : FA q w false view) : Calls Tryz.prog 94 #[.pointer (some ⟨q.f, 0, none⟩)] w fun e w' => e = .returned (.int .i64 2) ∧ w = w' := by
  have c1 := A.ptr
  have C := hide (pcommit_shut A.pg)
  go_enter Tryz.func94, Tryz.ntmps94
  go_wp2_with fail
  refine (unhide C).mono ?_
  rintro e w1 ⟨rfl, rfl⟩
  go_wp2_with fail
  go_ret
  exact ⟨rfl, rfl⟩
/-- The ground behind a commit. -/
def Gnd.done (q : Gnd) (rs : List (Nat × ByteArray)) (com : List ByteArray) (w w' : World) : Gnd := { q with blk := replay q.blk rs, recs := q.recs ++ rs, com := com, F := Ext q.F w w' }
/-- Where a commit may write. -/
def Gnd.D (q : Gnd) (k : Nat) : Prop := q.F k ∨ q.G k ∨ k = q.p
theorem FA.fD {op : Bool} (A : FA q w op view) : ¬ q.D q.f := fun c => by
  rcases c with c | c | c
  · exact A.fF c
  · exact A.fG c
  · exact A.fp c
theorem Ext.not {F : Nat → Prop} {w w' : World} {k : Nat} (h : ¬ F k) (hk : k < w.heap.size) : ¬ Ext F w w' k := fun c => by
  rcases c with c | c
  · exact h c
  · omega
theorem bcommit_open (A : FA q w true view) (hrc : q.recs.length ≤ 300) : Calls Tryz.prog 94 #[.pointer (some ⟨q.f, 0, none⟩)] w fun e w' => e = .returned (.int .i64 0) ∧ ∃ rs com, FA (q.done rs com w w') w' false view ∧ CutInv q.blk rs q.com com ∧ Only q.D w w' := by
  have c1 := A.ptr
  have C := hide (pcommit_open A.pg hrc)
  go_enter Tryz.func94, Tryz.ntmps94
  go_wp2_with fail
  refine (unhide C).mono ?_
  rintro e w1 ⟨rfl, rs, com, h1, hc, o1⟩
  have FF := hide (And.intro h1 (And.intro hc o1))
  clear h1 o1 hc
  go_wp2_with fail
  go_ret
  obtain ⟨h1, hc, o1⟩ := unhide FF
  exact ⟨rfl, rs, com, ⟨h1, A.has.keep o1 A.fD, A.fG, Ext.not A.fF A.has.lt, A.fp⟩, hc, o1⟩
end
/-- An empty forest. -/
def F0 : Fo := fun _ => none
theorem NV_zero : NV ((zeros 80).take 72) = fun _ => none := by
  funext n
  by_cases h : 1 ≤ n ∧ n < 72
  · refine NV_free ?_
    have := (sees_zero (pg := []) n h.1 h.2).1
    rw [← this]
    unfold usedL nots
    rw [List.getD_eq_getElem?_getD, List.getElem?_replicate, if_pos h.2]
    rfl
  · exact NV_out h
theorem zeroB_at (j : Nat) : byteAt zeroB j = 0 := by
  have e : zeroB.data.toList = List.replicate 128 0 := by unfold zeroB; rfl
  unfold byteAt
  rw [e, List.getD_eq_getElem?_getD, List.getElem?_replicate]
  split <;> rfl
theorem FI.fresh {N : Nat → Option ByteArray} (h : N = setN (fun _ => none) 1 (some zeroB)) : FI N F0 := by
  have e0 : all8 pgsR F0 = [] := rfl
  have e1 : all8 entsR F0 = [] := rfl
  refine ⟨⟨zeroB, by rw [h]; exact setN_same _ _ _, ⟨zeroB_size, fun i _ => ?_, ?_⟩⟩, fun i r _ hr => (by cases hr), fun n b hb => ?_, (by rw [e0]; simp), (by rw [e1]; simp)⟩
  · rw [zeroB_at]; rfl
  · rw [zeroB_at, e1]; rfl
  · rw [h] at hb
    unfold setN at hb
    by_cases e : n = 1
    · exact .inl e
    · rw [if_neg e] at hb; cases hb
section
variable {w : World} {p l d : Nat} {blk base : List ByteArray} {recs : List (Nat × ByteArray)} {com view : List ByteArray} {F G : Nat → Prop}
/-- Open over a pager whose page 1 is there. -/
theorem bopen_used {op : Bool} (h : PG w p l d blk base recs op com view F G) (hu : ∃ b, NV view 1 = some b) :
    Calls Tryz.prog 43 #[.pointer (some ⟨p, 0, none⟩)] w fun e w' => ∃ f, e = .returned (.pointer (some ⟨f, 0, none⟩)) ∧ w.heap.size ≤ f ∧ FA ⟨f, p, l, d, blk, base, recs, com, F, G⟩ w' op view ∧ Only (fun k => G k ∨ k = p) w w' := by
  obtain ⟨b, hb⟩ := hu
  obtain ⟨_, _, hus, _⟩ := NV_some hb
  have C := pused_in h 1 (by omega) (by omega)
  rw [hus] at C
  have C := hide C
  go_enter Tryz.func43, Tryz.ntmps43
  go_wp2_with fail
  refine (unhide C).mono ?_
  rintro e w1 ⟨rfl, h1, o1⟩
  have hsz := o1.size
  have FF := hide (And.intro h1 o1)
  clear h1 o1
  go_wp2_with fail
  go_ret
  obtain ⟨h1, o1⟩ := unhide FF
  have hN := Has.new w1 #[.pointer (some ⟨p, 0, none⟩)] 145
  have oN : Only (fun _ => False) w1 (w1.alloc (.cells #[.pointer (some ⟨p, 0, none⟩)] 145)) := (Only.refl _ w1).alloc _
  exact ⟨w1.heap.size, rfl, hsz, ⟨h1.quiet oN, hN, fun c => Nat.lt_irrefl _ (h1.inG _ c), fun c => Nat.lt_irrefl _ (h1.inF _ c), fun c => by have := h1.plt; have c' : w1.heap.size = p := c; omega⟩, o1.q0 oN⟩
/-- Open over a blank pager: it formats. -/
theorem bopen_blank (h : PG w p l d blk base recs false com view F G) (hb : NV view = fun _ => none) (hrc : recs.length ≤ 300) :
    Calls Tryz.prog 43 #[.pointer (some ⟨p, 0, none⟩)] w fun e w' => ∃ f rs com' view' F', e = .returned (.pointer (some ⟨f, 0, none⟩)) ∧ w.heap.size ≤ f ∧ (∀ k, F' k → F k ∨ w.heap.size ≤ k) ∧ FA ⟨f, p, l, d, replay blk rs, base, recs ++ rs, com', F', G⟩ w' false view' ∧ NV view' = setN (fun _ => none) 1 (some zeroB) ∧ CutInv blk rs com com' ∧ Only (fun k => F k ∨ G k ∨ k = p) w w' := by
  have hus : ∀ n, 1 ≤ n → n < 72 → usedV view n = false := fun n h1 h2 => NV_none (by rw [hb]) h1 h2
  have C := pused_in h 1 (by omega) (by omega)
  rw [hus 1 (by omega) (by omega)] at C
  have C := hide C
  have hlow : lowOf (usedV view) = 1 := lowOf_eq (by omega) (by omega) (hus 1 (by omega) (by omega)) (fun j h1 h2 => by omega)
  have HU := hide (And.intro hus hlow)
  clear hus hlow
  go_enter Tryz.func43, Tryz.ntmps43
  go_wp2_with fail
  refine (unhide C).mono ?_
  rintro e w1 ⟨rfl, h1, o1⟩
  have C1 := hide (pbegin_shut h1)
  have O1 := hide o1
  clear h1 o1
  go_wp2_with fail
  refine (unhide C1).mono ?_
  rintro e w2 ⟨rfl, h2, o2⟩
  have C2 := hide (palloc_some h2 1 (unhide HU).2 (by omega))
  have O2 := hide ((unhide O1).qt o2)
  have H2 := hide (And.intro h2.lv (h2.sz 0 (by omega)))
  clear h2 o2
  go_wp2_with fail
  refine (unhide C2).mono ?_
  rintro e w3 ⟨rfl, h3, o3⟩
  have C3 := hide (pcommit_open h3.pg hrc)
  have O3 := hide ((unhide O2).qt o3)
  clear h3 o3
  go_wp2_with fail
  refine (unhide C3).mono ?_
  rintro e w4 ⟨rfl, rs, com', h4, hc, o4⟩
  have FF := hide (And.intro h4 (And.intro hc o4))
  have s3 := (unhide O3).size
  have s4 := o4.size
  clear h4 hc o4
  go_wp2_with fail
  go_ret
  obtain ⟨h4, hc, o4⟩ := unhide FF
  obtain ⟨lv, sz0⟩ := unhide H2
  have hN := Has.new w4 #[.pointer (some ⟨p, 0, none⟩)] 145
  have oN : Only (fun _ => False) w4 (w4.alloc (.cells #[.pointer (some ⟨p, 0, none⟩)] 145)) := (Only.refl _ w4).alloc _
  have hO : Only (fun k => F k ∨ G k ∨ k = p) w w4 := ((unhide O3).mono (fun k _ hk => .inr hk)).trans o4 (fun k hk h => h)
  refine ⟨w4.heap.size, rs, com', _, _, rfl, by omega, fun k hk => ?_, ⟨h4.quiet oN, hN, fun c => Nat.lt_irrefl _ (h4.inG _ c), fun c => Nat.lt_irrefl _ (h4.inF _ c), fun c => by have := h4.plt; have c' : w4.heap.size = p := c; omega⟩, ?_, hc, hO.q0 oN⟩
  · rcases hk with hk | hk
    · exact .inl hk
    · exact .inr (by omega)
  · have g0 : ((view.set 0 (setB (view.getD 0 emptyB) 1)).set 1 zeroB).getD 0 emptyB = setB (view.getD 0 emptyB) 1 := by
      rw [List.getD_eq_getElem?_getD, List.getElem?_set, if_neg (by omega), List.getElem?_set, if_pos rfl, if_pos (by omega)]
      rfl
    have hu : ∀ k, k < 72 → usedV ((view.set 0 (setB (view.getD 0 emptyB) 1)).set 1 zeroB) k = if k = 1 then true else usedV view k := fun k hk => by
      unfold usedV
      rw [g0, bitOf_setB _ _ _ sz0 (by omega) hk]
    funext n
    unfold setN
    by_cases e : n = 1
    · subst e
      rw [if_pos rfl, NV_in (by omega) (by omega) (by rw [hu 1 (by omega), if_pos rfl])]
      rw [List.getD_eq_getElem?_getD, List.getElem?_set, if_pos rfl, if_pos (by simp; omega)]
      rfl
    · rw [if_neg e]
      by_cases hk : 1 ≤ n ∧ n < 72
      · exact NV_free (by rw [hu n hk.2, if_neg e]; exact (unhide HU).1 n hk.1 hk.2)
      · exact NV_out hk
end
end Go.Proofs.Qxb6500412aGreat
