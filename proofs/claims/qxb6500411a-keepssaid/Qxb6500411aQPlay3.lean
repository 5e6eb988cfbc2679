/-
  OWN WORK. THE PAGER LAW's KeepPlay: Alloc, Free, Put, Get, Used.
-/
import Derived.Test.Qxb6500411aQPlay2
import Derived.Deep.RegionWith
namespace Go.Proofs.Qxb6500411a
open Go.RowKit
set_option linter.unusedSimpArgs false
set_option linter.unusedVariables false

section
variable {w : World} {p l d k c m o : Nat} {blk base : List ByteArray} {recs : List (Nat × ByteArray)} {op : Bool} {com view : List ByteArray} {uc : List Bool} {pc : List ByteArray} {um : List Bool} {pm : List ByteArray} {uo : List Bool} {po : List ByteArray} {F G C M : Nat → Prop}

/-- The current book has turned (in place), the pager and the rest stand. -/
theorem JK.booked {w' : World} {uc' : List Bool} {pc' : List ByteArray} {view0 : List ByteArray} (h : JK w p l d k c m o blk base recs op com view uc pc um pm uo po F G C M) (hp : PG w p l d blk base recs op com view0 F G) (ho : Only C w w') (hb : BookAt w' c uc' pc' C) (hs : SeesAll view0 uc' pc') :
    JK w' p l d k c m o blk base recs op com view0 uc' pc' um pm uo po F G C M := by
  refine ⟨hp.keep ho (fun x hx e => h.CF x e (.inl hx)) (fun x hx e => h.CF x e (.inr (.inl hx))) (fun e => h.CF _ e (.inr (.inr (.inl rfl)))), h.kp.keep ho (fun e => h.CF _ e (.inr (.inr (.inr (.inl rfl))))), hb, h.bm.keep ho (fun x hx e => h.CF x e (.inr (.inr (.inr (.inr hx))))), h.bo.keep ho (fun x hx e => h.CF x e (.inr (.inr (.inr (.inr hx))))), hs, h.sem, h.CF, h.MF, h.kF⟩

theorem keepAlloc_shut (j : JK w p l d k c m o blk base recs false com view uc pc um pm uo po F G C M) :
    Calls Try.prog 27 #[.pointer (some ⟨p, 0, none⟩), .pointer (some ⟨k, 0, none⟩)] w fun e w' => e = .returned (.bool true) ∧ w = w' := by
  have c3 := j.kp.cell 3
  unfold keeperC at c3
  have C1 := hide (palloc_shut j.pg)
  go_enter Try.func27, Try.ntmps27
  go_wp2_with fail
  refine (unhide C1).mono ?_
  rintro e w' ⟨rfl, rfl⟩
  go_wp2_with fail
  go_ret
  exact ⟨rfl, rfl⟩

set_option maxRecDepth 100000 in
set_option maxHeartbeats 1000000 in
theorem keepAlloc_full (j : JK w p l d k c m o blk base recs true com view uc pc um pm uo po F G C M) (hf : lowOf (usedV view) = 0) :
    Calls Try.prog 27 #[.pointer (some ⟨p, 0, none⟩), .pointer (some ⟨k, 0, none⟩)] w fun e w' => e = .returned (.bool true) ∧ JK w' p l d k c m o blk base recs true com view uc pc um pm uo po F G C M ∧ Only (fun x => G x ∨ x = p) w w' := by
  have C1 := hide (palloc_full j.pg hf)
  have J := hide j
  have hlow := j.see.low
  rw [hf] at hlow
  clear j hf
  have Hl := hide hlow
  clear hlow
  go_enter Try.func27, Try.ntmps27
  go_wp2_with fail
  refine (unhide C1).mono ?_
  rintro e w1 ⟨rfl, h1, ho1⟩
  have j1 := (unhide J).pager ho1 h1 (unhide J).see
  have c3 := j1.kp.cell 3
  have c0 := j1.kp.cell 0
  unfold keeperC at c3 c0
  have C2 := lowest_any j1.bc
  rw [unhide Hl] at C2
  have C2 := hide C2
  have J1 := hide j1
  clear j1 C1
  go_wp2_with fail
  refine (unhide C2).mono ?_
  rintro e w2 ⟨rfl, rfl⟩
  go_wp2_with fail
  go_ret
  exact ⟨rfl, unhide J1, ho1⟩

set_option maxRecDepth 100000 in
set_option maxHeartbeats 1000000 in
theorem keepAlloc_some (j : JK w p l d k c m o blk base recs true com view uc pc um pm uo po F G C M) (n : Nat) (hf : lowOf (usedV view) = n) (hn : n ≠ 0) :
    Calls Try.prog 27 #[.pointer (some ⟨p, 0, none⟩), .pointer (some ⟨k, 0, none⟩)] w fun e w' => e = .returned (.bool true) ∧ JK w' p l d k c m o blk base recs true com ((view.set 0 (setB (view.getD 0 emptyB) n)).set n zeroB) (uc.set n true) (pc.set n zeroB) um pm uo po F G C M ∧ Only (fun x => G x ∨ C x ∨ x = p) w w' := by
  have hlt : n < 72 := by rw [← hf]; exact lowOf_lt _
  have C1 := hide (palloc_some j.pg n hf hn)
  have hsee := hide (j.see.alloc j.pg.lv (j.pg.sz 0 (by omega)) j.bc.lu j.bc.lp (n := n) (by omega) hlt)
  have hlow := j.see.low
  rw [hf] at hlow
  have J := hide j
  clear j hf
  have Hl := hide hlow
  clear hlow
  have n0 : ((n : Int) == 0) = false := by simpa using hn
  have hlt' : (n : Int) < 72 := by omega
  generalize (view.set 0 (setB (view.getD 0 emptyB) n)).set n zeroB = view' at *
  go_enter Try.func27, Try.ntmps27
  go_wp2_with fail
  refine (unhide C1).mono ?_
  rintro e w1 ⟨rfl, h1, ho1⟩
  have h1 := h1.pg
  obtain ⟨kp1, bc1, bm1, bo1⟩ := (unhide J).ghosts (ho1.mono (fun x _ h => by rcases h with h | h; exact .inr (.inl h); exact .inr (.inr h)))
  have c3 := kp1.cell 3
  have c0 := kp1.cell 0
  unfold keeperC at c3 c0
  have C2 := lowest_any bc1
  rw [unhide Hl] at C2
  have C2 := hide C2
  obtain ⟨⟨b0, b1, g1, g2, g3, f, f0, f1⟩, lu, lp, hi⟩ := hide bc1
  have q0 := g1.cell 0
  have q1 := g1.cell 1
  have u0 := g2.cell n
  have v0 := g3.cell n
  rw [bools_get _ _ (by omega)] at u0
  rw [strs_get _ _ (by omega)] at v0
  have z0 := g2.free n
  have z1 := g3.free n
  have n1 := kp1.ne g1 (by decide)
  have n2 := kp1.ne g2 (by decide)
  have n3 := kp1.ne g3 (by decide)
  have n4 := g1.ne g2 (by decide)
  have n5 := g1.ne g3 (by decide)
  have n6 := g2.ne g3 (by decide)
  have r2 := g2.setCell n (.bool true)
  rw [bools_set] at r2
  have r3 := (g3.setCell_other (p := ⟨b0, n, none⟩) n6.symm (.bool true)).setCell n (.string zeroB)
  rw [strs_set] at r3
  have r2 := r2.setCell_other (p := ⟨b1, n, none⟩) n6 (.string zeroB)
  have r1 := (g1.setCell_other (p := ⟨b0, n, none⟩) n4 (.bool true)).setCell_other (p := ⟨b1, n, none⟩) n5 (.string zeroB)
  have o2 : Only C w1 ((w1.setCell ⟨b0, n, none⟩ (.bool true)).setCell ⟨b1, n, none⟩ (.string zeroB)) := (Only.setCell (Only.refl C w1) (p := ⟨b0, n, none⟩) (fun _ => f0) _).setCell (p := ⟨b1, n, none⟩) (fun _ => f1) _
  have hbk : BookAt ((w1.setCell ⟨b0, n, none⟩ (.bool true)).setCell ⟨b1, n, none⟩ (.string zeroB)) c (uc.set n true) (pc.set n zeroB) C := ⟨⟨b0, b1, r1, r2, r3, f, f0, f1⟩, by simpa using lu, by simpa using lp, fun x hx => Nat.lt_of_lt_of_le (hi x hx) o2.size⟩
  have Hbk := hide hbk
  clear C1 hbk r1 r2 r3 bc1
  generalize huc : uc[n] = u at u0
  generalize hpc : pc[n] = y at v0
  clear huc hpc
  go_wp2_with fail
  refine (unhide C2).mono ?_
  rintro e w2 ⟨rfl, rfl⟩
  go_wp2_with fail
  go_ret
  have JJ := unhide J
  have j2 : JK w1 p l d k c m o blk base recs true com view uc pc um pm uo po F G C M → True := fun _ => trivial
  refine ⟨(by first | exact rfl | simp), ⟨?_, ?_, unhide Hbk, ?_, ?_, unhide hsee, JJ.sem, JJ.CF, JJ.MF, JJ.kF⟩, ?_⟩
  · exact h1.keep o2 (fun x hx e => JJ.CF x e (.inl hx)) (fun x hx e => JJ.CF x e (.inr (.inl hx))) (fun e => JJ.CF _ e (.inr (.inr (.inl rfl))))
  · exact kp1.keep o2 (fun e => JJ.CF _ e (.inr (.inr (.inr (.inl rfl)))))
  · exact bm1.keep o2 (fun x hx e => JJ.CF x e (.inr (.inr (.inr (.inr hx)))))
  · exact bo1.keep o2 (fun x hx e => JJ.CF x e (.inr (.inr (.inr (.inr hx)))))
  · exact (ho1.mono (fun x _ h => by rcases h with h | h; exact .inl h; exact .inr (.inr h))).trans o2 (fun _ _ h => .inr (.inl h))

set_option maxRecDepth 100000 in
set_option maxHeartbeats 1000000 in
theorem play_alloc (a b cc : Int) (s t : ByteArray) (j0 : JK w p l d k c m o blk base recs op com view uc pc um pm uo po F G C M) :
    Calls Try.prog 11 #[.pointer (some ⟨p, 0, none⟩), .pointer (some ⟨k, 0, none⟩), .agg #[.int .i64 4, .int .i64 a, .int .i64 b, .int .i64 cc, .string s, .string t]] w fun e w' =>
      e = .returned (.bool true) ∧ KP w p l d k o base uo po F G C M blk recs op com 4 w' := by
  have o1 : Only (fun _ => False) w (w.alloc (.cells #[.int .i64 4, .int .i64 a, .int .i64 b, .int .i64 cc, .string s, .string t] 40)) := (Only.refl _ w).alloc _
  have j1 := j0.keep o1
  have J0 := hide j0
  have C1 : Calls Try.prog 27 #[.pointer (some ⟨p, 0, none⟩), .pointer (some ⟨k, 0, none⟩)] (w.alloc (.cells #[.int .i64 4, .int .i64 a, .int .i64 b, .int .i64 cc, .string s, .string t] 40)) fun e w' => e = .returned (.bool true) ∧ KP w p l d k o base uo po F G C M blk recs op com 4 w' := by
    cases op with
    | false =>
      refine (keepAlloc_shut j1).mono ?_
      rintro e w' ⟨rfl, rfl⟩
      exact ⟨rfl, j0.same o1⟩
    | true =>
      by_cases hf : lowOf (usedV view) = 0
      · refine (keepAlloc_full j1 hf).mono ?_
        rintro e w' ⟨rfl, j2, o2⟩
        exact ⟨rfl, j0.post j2 ((o1.mono (fun _ _ h => h.elim)).trans o2 (fun _ _ h => by rcases h with h | h; exact .inr (.inl h); exact .inr (.inr (.inr (.inl h)))))⟩
      · refine (keepAlloc_some j1 _ rfl hf).mono ?_
        rintro e w' ⟨rfl, j2, o2⟩
        exact ⟨rfl, j0.post j2 ((o1.mono (fun _ _ h => h.elim)).trans o2 (fun _ _ h => by rcases h with h | h | h; exact .inr (.inl h); exact .inr (.inr (.inl h)); exact .inr (.inr (.inr (.inl h)))))⟩
  have C1 := hide C1
  clear j1 j0
  go_enter Try.func11, Try.ntmps11
  go_wp2_with fail
  refine (unhide C1).mono ?_
  rintro e w1 ⟨rfl, h1⟩
  go_wp2_with fail
  go_ret
  exact ⟨rfl, h1⟩
end
end Go.Proofs.Qxb6500411a
