/-
  OWN WORK. THE TREE: Abort, Open.
-/
import Derived.Test.Qxb6500417aGreatTReb
namespace Go.Proofs.Qxb6500417aGreat
open Go.RowKit Go.PlainAid
set_option linter.unusedSimpArgs false
set_option linter.unusedVariables false

section
variable {w w' : World} {t s d : Nat} {D B : Nat → Nat} {recs : List Rec} {J : Nat → Sl} {rt : Nat} {F : Nat → Prop} {ob : Nat → Ob}
theorem tabort_any (h : TS w t s d D B recs J rt F) :
    Calls Tryz.prog 108 #[.pointer (some ⟨t, 0, none⟩)] w fun e w' => e = .returned (.tuple #[]) ∧ TS w' t s d D B recs (abortJ J) rt F ∧ Only (fun y => y = t ∨ y = s) w w' := by
  obtain ⟨ob, hO, hR⟩ := h.ex
  have C1 := hide (abort_any hO)
  have c0 := h.tab.store.1
  have H := hide h
  have HR := hide hR
  have htl := Has.lt h.tab
  clear h hO hR
  go_enter Tryz.func108, Tryz.ntmps108
  go_wp2_with fail
  refine (unhide C1).mono ?_
  rintro e w1 ⟨rfl, hO1, ho1⟩
  have hI : Inv (abortJ J) := (unhide H).inv.abort
  have C2 := hide (rebuild_any ((unhide H).tab.keep ho1 (fun e => (unhide H).ts e)) hO1 (unhide HR).abort hI (unhide H).ts (unhide H).tF)
  have HO1 := hide hO1
  have O1 := hide ho1
  clear hO1 ho1 hI c0 C1
  go_wp2_with fail
  refine (unhide C2).mono ?_
  rintro e w2 ⟨rfl, hT2, ho2⟩
  have h := unhide H
  have RR : Hid (TS w2 t s d D B recs (abortJ J) rt F ∧ Only (fun y => y = t ∨ y = s) w w2) := hide ⟨⟨hT2, ⟨_, (unhide HO1).keep ho2 (fun e => h.ts e.symm) (fun y hy e => h.tF (e ▸ hy)), (unhide HR).abort⟩, h.inv.abort, h.ts, h.tF⟩, ((unhide O1).mono (T := fun y => y = t ∨ y = s) (fun y _ e => .inr e)).trans ho2 (fun y _ e => .inl e)⟩
  clear hT2 ho2 h
  go_wp2_with fail
  go_end0
  exact ⟨rfl, unhide RR⟩
theorem trees_zero : Tryz.zeroCells108 = tabV 99 (fun off => if off = 0 then .pointer none else tcell 0 (fun _ => 0) (fun _ => 0) off) := by kernel_rfl
theorem trees_new (s : Nat) : Tryz.zeroCells108.setIfInBounds 0 (.pointer (some ⟨s, 0, none⟩)) = tabV 99 (tcell s (fun _ => 0) (fun _ => 0)) := by
  rw [trees_zero, tabV_set]
  apply tabV_congr
  intro j hj
  by_cases h0 : j = 0
  · rw [if_pos h0, h0]; rfl
  · rw [if_neg h0, if_neg h0]
    unfold tcell
    rw [if_neg h0, if_neg h0]
set_option maxRecDepth 100000 in
theorem topen_any (hO : OS w s d D B recs ob rt F) (hR : Rep ob J) (hI : Inv J) :
    Calls Tryz.prog 33 #[.pointer (some ⟨s, 0, none⟩)] w fun e w' => ∃ t, e = .returned (.pointer (some ⟨t, 0, none⟩)) ∧ w.heap.size ≤ t ∧ TS w' t s d D B recs J rt F ∧ Only (fun _ => False) w w' := by
  have hFi := hO.dev.inn
  have hsl : s < w.heap.size := by
    obtain ⟨⟨_, _, _, _, _, hs', _⟩, _, _⟩ := hO
    exact Has.lt hs'
  obtain ⟨t, ht⟩ : ∃ t, t = w.heap.size := ⟨_, rfl⟩
  have hT0 : TAt (w.alloc (.cells (Tryz.zeroCells108.setIfInBounds 0 (.pointer (some ⟨s, 0, none⟩))) 108)) t s (fun _ => 0) (fun _ => 0) := by
    have := Has.new' w (Tryz.zeroCells108.setIfInBounds 0 (.pointer (some ⟨s, 0, none⟩))) 108 t ht
    unfold TAt
    rw [← trees_new]
    exact this
  have o0 : Only (fun _ => False) w (w.alloc (.cells (Tryz.zeroCells108.setIfInBounds 0 (.pointer (some ⟨s, 0, none⟩))) 108)) := (Only.refl _ w).alloc _
  have hts : t ≠ s := by omega
  have htF : ¬ F t := fun e => by have := hFi t e; omega
  have C := hide (rebuild_any hT0 (hO.quiet o0) hR hI hts htF)
  have HO := hide (hO.quiet o0)
  have HR := hide hR
  have HI := hide hI
  have O0 := hide o0
  have Ht := hide ht
  have hle : w.heap.size ≤ t := by omega
  clear hO hR hI hT0 o0 ht hFi
  go_enter Tryz.func33, Tryz.ntmps33
  go_wp2_with fail
  rw [← unhide Ht]
  clear Ht
  generalize w.alloc (.cells (Tryz.zeroCells108.setIfInBounds 0 (.pointer (some ⟨s, 0, none⟩))) 108) = W0 at *
  refine (unhide C).mono ?_
  rintro e w1 ⟨rfl, hT1, ho1⟩
  have RR : Hid (TS w1 t s d D B recs J rt F ∧ Only (fun _ => False) w w1) := hide ⟨⟨hT1, ⟨ob, (unhide HO).keep ho1 (fun e => hts e.symm) (fun y hy e => htF (e ▸ hy)), unhide HR⟩, unhide HI, hts, htF⟩, (unhide O0).trans ho1 (fun y hy e => by have h1 : y = t := e; omega)⟩
  clear hT1 ho1
  go_wp2_with fail
  go_ret
  exact ⟨t, rfl, hle, unhide RR⟩
end
end Go.Proofs.Qxb6500417aGreat
