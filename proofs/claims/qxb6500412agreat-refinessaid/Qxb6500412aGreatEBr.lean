/-
  OWN WORK. TABLE: Open, New, the bracket.
-/
import Derived.Test.Qxb6500412aGreatESj
namespace Go.Proofs.Qxb6500412aGreat
open Go.RowKit Go.PlainAid
set_option linter.unusedSimpArgs false
set_option linter.unusedVariables false

section
variable {q : Gnd} {w : World} {x : Nat} {op : Bool} {S S1 : Vu} {T : List (Tb × Hd)} {t : Tb} {h : Hd}
theorem sbegin_open (H : ST q w x true S) : Calls Tryz.prog 224 #[.pointer (some ⟨x, 0, none⟩)] w fun e w' => e = .returned (.int .i64 3) ∧ w = w' := by
  have c := H.c0
  have C := hide (vbegin_open H.fv)
  go_enter Tryz.func224, Tryz.ntmps224
  go_wp2_with fail
  refine (unhide C).mono ?_
  rintro e w1 ⟨rfl, rfl⟩
  go_wp2_with fail
  go_ret
  exact ⟨rfl, rfl⟩
theorem sbegin_shut (H : ST q w x false S) : Calls Tryz.prog 224 #[.pointer (some ⟨x, 0, none⟩)] w fun e w' => e = .returned (.int .i64 0) ∧ ST q w' x true S ∧ Only q.S w w' := by
  have c := H.c0
  have C := hide (vbegin_shut H.fv)
  go_enter Tryz.func224, Tryz.ntmps224
  go_wp2_with fail
  refine (unhide C).mono ?_
  rintro e w1 ⟨rfl, A, o⟩
  have HF := hide (And.intro (H.turn A o) o)
  clear A o
  go_wp2_with fail
  go_ret
  exact ⟨rfl, unhide HF⟩
theorem sabort_shut (H : ST q w x false S) : Calls Tryz.prog 229 #[.pointer (some ⟨x, 0, none⟩)] w fun e w' => e = .returned (.int .i64 2) ∧ w = w' := by
  have c := H.c0
  have C := hide (vabort_shut H.fv)
  go_enter Tryz.func229, Tryz.ntmps229
  go_wp2_with fail
  refine (unhide C).mono ?_
  rintro e w1 ⟨rfl, rfl⟩
  go_wp2_with fail
  go_ret
  exact ⟨rfl, rfl⟩
theorem sabort_open (H : ST q w x true S) {C : Vu} (hC : ComF q.com C) : Calls Tryz.prog 229 #[.pointer (some ⟨x, 0, none⟩)] w fun e w' => e = .returned (.int .i64 0) ∧ ST q w' x false C ∧ Only q.S w w' := by
  have c := H.c0
  have CC := hide (vabort_open H.fv hC)
  go_enter Tryz.func229, Tryz.ntmps229
  go_wp2_with fail
  refine (unhide CC).mono ?_
  rintro e w1 ⟨rfl, A, o⟩
  have HF := hide (And.intro (H.turn A o) o)
  clear A o
  go_wp2_with fail
  go_ret
  exact ⟨rfl, unhide HF⟩
theorem scommit_shut (H : ST q w x false S) : Calls Tryz.prog 230 #[.pointer (some ⟨x, 0, none⟩)] w fun e w' => e = .returned (.int .i64 2) ∧ w = w' := by
  have c := H.c0
  have C := hide (vcommit_shut H.fv)
  go_enter Tryz.func230, Tryz.ntmps230
  go_wp2_with fail
  refine (unhide C).mono ?_
  rintro e w1 ⟨rfl, rfl⟩
  go_wp2_with fail
  go_ret
  exact ⟨rfl, rfl⟩
theorem Gnd.done_A {rs : List (Nat × ByteArray)} {com : List ByteArray} {w1 : World} {k : Nat} (h : (q.done rs com w w1).A k) : q.A k ∨ (w.heap.size ≤ k ∧ k < w1.heap.size) := by
  rcases h with (h | h) | h | h | h
  · exact .inl (.inl h)
  · exact .inr h
  · exact .inl (.inr (.inl h))
  · exact .inl (.inr (.inr (.inl h)))
  · exact .inl (.inr (.inr (.inr h)))
theorem ST.done (H : ST q w x op S) {rs : List (Nat × ByteArray)} {com : List ByteArray} {w1 : World} {op' : Bool} {S' : Vu} (A : FV (q.done rs com w w1) w1 op' S') (o : Only q.D w w1) : ST (q.done rs com w w1) w1 x op' S' := by
  have hx := H.has.lt
  refine ⟨A, H.has.keep o (fun c => H.nx (Gnd.D_A c)), fun c => ?_⟩
  rcases Gnd.done_A c with d | d
  · exact H.nx d
  · omega
theorem scommit_open (H : ST q w x true S) (hrc : q.recs.length ≤ 300) : Calls Tryz.prog 230 #[.pointer (some ⟨x, 0, none⟩)] w fun e w' => e = .returned (.int .i64 0) ∧ ∃ rs com, ST (q.done rs com w w') w' x false S ∧ ComF com S ∧ CutInv q.blk rs q.com com ∧ Only q.D w w' := by
  have c := H.c0
  have C := hide (vcommit_open H.fv hrc)
  go_enter Tryz.func230, Tryz.ntmps230
  go_wp2_with fail
  refine (unhide C).mono ?_
  rintro e w1 ⟨rfl, rs, com, A, cf, ci, o⟩
  have HF := hide (And.intro (H.done A o) (And.intro cf (And.intro ci o)))
  clear A o cf ci
  go_wp2_with fail
  go_ret
  exact ⟨rfl, rs, com, unhide HF⟩
/-- Open over a forest that a store has formatted. -/
theorem eopen_used (A : FV q w op S) (h0 : S 0 ≠ none) : Calls Tryz.prog 44 #[.pointer (some ⟨q.f, 0, none⟩)] w fun e w' => ∃ x, e = .returned (.pointer (some ⟨x, 0, none⟩)) ∧ w.heap.size ≤ x ∧ ST q w' x op S ∧ Only q.S w w' := by
  have C := vused_any A 0
  have hz : (Vz S 0).isSome = true := by
    have : Vz S 0 = S 0 := Vz_nat S (i := 0) (by omega)
    rw [this]
    cases e : S 0 with
    | none => exact absurd e h0
    | some l => rfl
  rw [hz] at C
  have C := hide C
  have hA := A.Alt
  go_enter Tryz.func44, Tryz.ntmps44
  go_wp2_with fail
  refine (unhide C).mono ?_
  rintro e w1 ⟨rfl, A1, o1⟩
  have hs := o1.size
  have HF := hide (show w.heap.size ≤ w1.heap.size ∧ ST q (w1.alloc (.cells #[.pointer (some ⟨q.f, 0, none⟩)] 147)) w1.heap.size op S ∧ Only q.S w (w1.alloc (.cells #[.pointer (some ⟨q.f, 0, none⟩)] 147)) from
    ⟨hs, ⟨A1.quiet ((Only.refl _ w1).alloc _), Has.new _ _ _, fun c => by have := hA _ c; omega⟩, o1.andS ((Only.refl _ w1).alloc _)⟩)
  clear A1 o1 C
  go_wp2_with fail
  go_ret
  exact ⟨_, rfl, unhide HF⟩
theorem Lay.fresh : Lay (updV (fun _ => none) 0 (some [])) [] := by
  refine ⟨fun x hx => by simp at hx, List.Pairwise.nil, by simp, fun x hx => by simp at hx, rfl, fun x hx => by simp at hx, fun x hx => by simp at hx, List.Pairwise.nil, fun i h0 hn => ?_⟩
  rw [updV_ne _ _ h0] at hn
  exact absurd rfl hn
/-- Open over a blank forest: it formats. -/
theorem eopen_blank (A : FV q w false (fun _ => none)) (hrc : q.recs.length ≤ 300) : Calls Tryz.prog 44 #[.pointer (some ⟨q.f, 0, none⟩)] w fun e w' => ∃ x rs com wa wb, e = .returned (.pointer (some ⟨x, 0, none⟩)) ∧ w.heap.size ≤ x ∧ w.heap.size ≤ wa.heap.size ∧ ST (q.done rs com wa wb) w' x false (updV (fun _ => none) 0 (some [])) ∧ ComF com (updV (fun _ => none) 0 (some [])) ∧ CutInv q.blk rs q.com com ∧ Only q.D w w' := by
  have C := vused_any A 0
  have hz : (Vz (fun _ => none : Vu) 0).isSome = false := by unfold Vz; simp
  rw [hz] at C
  have C := hide C
  have hA := A.Alt
  have hnew : newS (fun _ => none : Vu) = (updV (fun _ => none) 0 (some []), (0 : Int), 0) := by
    unfold newS
    rw [lowS_some (i := 0) (by omega) rfl (fun j hj => by omega)]
    rfl
  have oD : ∀ {a b : World}, Only q.S a b → Only q.D a b := fun o => o.mono (fun k _ c => .inr c)
  go_enter Tryz.func44, Tryz.ntmps44
  go_wp2_with fail
  refine (unhide C).mono ?_
  rintro e w1 ⟨rfl, A1, o1⟩
  have CB := hide (vbegin_shut A1)
  have O1 := hide (oD o1)
  clear A1 o1 C
  go_wp2_with fail
  refine (unhide CB).mono ?_
  rintro e w2 ⟨rfl, A2, o2⟩
  have CC := vcreate_open A2
  rw [hnew] at CC
  have CC := hide CC
  have O2 := hide ((unhide O1).trans (oD o2) (fun _ _ h => h))
  clear A2 o2 CB O1
  go_wp2_with fail
  refine (unhide CC).mono ?_
  rintro e w3 ⟨rfl, A3, o3⟩
  have CD := hide (vcommit_open A3 hrc)
  have O3 := hide ((unhide O2).trans (oD o3) (fun _ _ h => h))
  clear A3 o3 CC O2
  go_wp2_with fail
  refine (unhide CD).mono ?_
  rintro e w4 ⟨rfl, rs, com, A4, cf, ci, o4⟩
  have O4 := (unhide O3).trans o4 (fun _ _ h => h)
  have hs3 := (unhide O3).size
  have hs4 := o4.size
  have HF := hide (show w.heap.size ≤ w4.heap.size ∧ w.heap.size ≤ w3.heap.size ∧ ST (q.done rs com w3 w4) (w4.alloc (.cells #[.pointer (some ⟨q.f, 0, none⟩)] 147)) w4.heap.size false (updV (fun _ => none) 0 (some [])) ∧ ComF com (updV (fun _ => none) 0 (some [])) ∧ CutInv q.blk rs q.com com ∧ Only q.D w (w4.alloc (.cells #[.pointer (some ⟨q.f, 0, none⟩)] 147)) from
    ⟨by omega, hs3, ⟨A4.quiet ((Only.refl _ w4).alloc _), Has.new _ _ _, fun c => by
      rcases Gnd.done_A c with d | d
      · have := hA _ d; omega
      · omega⟩, cf, ci, O4.alloc _⟩)
  clear A4 cf ci o4 O4 CD O3
  go_wp2_with fail
  go_ret
  exact ⟨_, rs, com, w3, w4, rfl, unhide HF⟩
end
end Go.Proofs.Qxb6500412aGreat
