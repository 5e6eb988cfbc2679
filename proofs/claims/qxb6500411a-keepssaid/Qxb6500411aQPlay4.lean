/-
  OWN WORK. THE PAGER LAW's KeepPlay: Free, Put, Get, Used.
-/
import Derived.Test.Qxb6500411aQPlay3
import Derived.Deep.RegionWith
import Derived.Deep.DeepCutAuto
namespace Go.Proofs.Qxb6500411a
open Go.RowKit
set_option linter.unusedSimpArgs false
set_option linter.unusedVariables false

section
variable {w : World} {p l d k c m o : Nat} {blk base : List ByteArray} {recs : List (Nat × ByteArray)} {op : Bool} {com view : List ByteArray} {uc : List Bool} {pc : List ByteArray} {um : List Bool} {pm : List ByteArray} {uo : List Bool} {po : List ByteArray} {F G C M : Nat → Prop}

set_option maxRecDepth 100000 in
set_option maxHeartbeats 1000000 in
theorem play_free_no (a b cc : Int) (s t : ByteArray) (e0 : Int) (he : e0 = 2 ∨ e0 = 5) (j0 : JK w p l d k c m o blk base recs op com view uc pc um pm uo po F G C M)
    (B : ∀ w1, JK w1 p l d k c m o blk base recs op com view uc pc um pm uo po F G C M → Calls Try.prog 28 #[.pointer (some ⟨k, 0, none⟩), .int .i64 a] w1 fun e w' => e = .returned (.int .i64 e0) ∧ w1 = w')
    (Fr : ∀ w1, JK w1 p l d k c m o blk base recs op com view uc pc um pm uo po F G C M → Calls Try.prog 29 #[.pointer (some ⟨p, 0, none⟩), .int .i64 a] w1 fun e w' => e = .returned (.int .i64 e0) ∧ PG w' p l d blk base recs op com view F G ∧ Only (fun x => G x ∨ x = p) w1 w') :
    Calls Try.prog 11 #[.pointer (some ⟨p, 0, none⟩), .pointer (some ⟨k, 0, none⟩), .agg #[.int .i64 5, .int .i64 a, .int .i64 b, .int .i64 cc, .string s, .string t]] w fun e w' =>
      e = .returned (.bool true) ∧ KP w p l d k o base uo po F G C M blk recs op com 5 w' := by
  have o1 : Only (fun _ => False) w (w.alloc (.cells #[.int .i64 5, .int .i64 a, .int .i64 b, .int .i64 cc, .string s, .string t] 40)) := (Only.refl _ w).alloc _
  have j1 := j0.keep o1
  have kb := Has.new w #[.int .i64 5, .int .i64 a, .int .i64 b, .int .i64 cc, .string s, .string t] 40
  have r1 := kb.cell 1
  have J0 := hide j0
  have C1 := hide (B _ j1)
  have C2 := hide (Fr _ j1)
  have J1 := hide j1
  clear j1 j0 B Fr
  rcases he with rfl | rfl
  all_goals
    go_enter Try.func11, Try.ntmps11
    go_wp2_with fail
    refine (unhide C1).mono ?_
    rintro e w1 ⟨rfl, rfl⟩
    go_wp2_with fail
    refine (unhide C2).mono ?_
    rintro e w2 ⟨rfl, h2, ho2⟩
    go_wp2_with fail
    go_ret
    exact ⟨rfl, (unhide J0).post ((unhide J1).pager ho2 h2 (unhide J1).see) ((o1.mono (fun _ _ h => h.elim)).trans ho2 (fun _ _ h => by rcases h with h | h; exact .inr (.inl h); exact .inr (.inr (.inr (.inl h)))))⟩

set_option maxRecDepth 100000 in
set_option maxHeartbeats 1000000 in
theorem play_free_ok (n : Nat) (b cc : Int) (s t : ByteArray) (h1 : 1 ≤ n) (hn : n < 72) (j0 : JK w p l d k c m o blk base recs true com view uc pc um pm uo po F G C M) (hu : usedV view n = true) :
    Calls Try.prog 11 #[.pointer (some ⟨p, 0, none⟩), .pointer (some ⟨k, 0, none⟩), .agg #[.int .i64 5, .int .i64 n, .int .i64 b, .int .i64 cc, .string s, .string t]] w fun e w' =>
      e = .returned (.bool true) ∧ KP w p l d k o base uo po F G C M blk recs true com 5 w' := by
  have o1 : Only (fun _ => False) w (w.alloc (.cells #[.int .i64 5, .int .i64 n, .int .i64 b, .int .i64 cc, .string s, .string t] 40)) := (Only.refl _ w).alloc _
  have j1 := j0.keep o1
  have kb := Has.new w #[.int .i64 5, .int .i64 n, .int .i64 b, .int .i64 cc, .string s, .string t] 40
  have r1 := kb.cell 1
  have C1 := bar_in j1 n h1 hn
  rw [if_pos hu] at C1
  have C1 := hide C1
  have C2 := hide (pfree_used j1.pg n h1 hn hu)
  have J0 := hide j0
  have J1 := hide j1
  have hwG : ¬ (G w.heap.size ∨ w.heap.size = p) := by
    rintro (h | h)
    · have := j0.pg.inG _ h; omega
    · have := j0.pg.plt; omega
  have hlt' : (n : Int) < 72 := by omega
  clear hu j1 j0
  go_enter Try.func11, Try.ntmps11
  go_wp2_with fail
  refine (unhide C1).mono ?_
  rintro e w1 ⟨rfl, rfl⟩
  go_wp2_with fail
  refine (unhide C2).mono ?_
  rintro e w2 ⟨rfl, ⟨view', h2, e0, ek⟩, ho2⟩
  obtain ⟨kp2, bc2, bm2, bo2⟩ := (unhide J1).ghosts (ho2.mono (fun x _ h => by rcases h with h | h; exact .inr (.inl h); exact .inr (.inr h)))
  have hsee := hide ((unhide J0).see.freed h1 hn ((unhide J0).pg.sz 0 (by omega)) (unhide J0).bc.lu e0 ek)
  have kb2 := kb.keep ho2 hwG
  have r2 := kb2.cell 1
  have c0 := kp2.cell 0
  unfold keeperC at c0
  obtain ⟨⟨b0, b1, g1, g2, g3, f, f0, f1⟩, lu, lp, hi⟩ := hide bc2
  have q0 := g1.cell 0
  have u0 := g2.cell n
  rw [bools_get _ _ (by omega)] at u0
  have z0 := g2.free n
  have n4 := g1.ne g2 (by decide)
  have n6 := g2.ne g3 (by decide)
  have o3 : Only C w2 (w2.setCell ⟨b0, n, none⟩ (.bool false)).drew := ((Only.refl C w2).setCell (p := ⟨b0, n, none⟩) (fun _ => f0) _).drew
  have hbk : BookAt (w2.setCell ⟨b0, n, none⟩ (.bool false)).drew c (uc.set n false) pc C := by
    have r2 := g2.setCell n (.bool false)
    rw [bools_set] at r2
    exact ⟨⟨b0, b1, (g1.setCell_other (p := ⟨b0, n, none⟩) n4 (.bool false)).drew, r2.drew, (g3.setCell_other (p := ⟨b0, n, none⟩) n6.symm (.bool false)).drew, f, f0, f1⟩, by simpa using lu, lp, fun x hx => Nat.lt_of_lt_of_le (hi x hx) o3.size⟩
  have Hbk := hide hbk
  clear C1 C2 hbk bc2 e0 ek
  generalize huc : uc[n] = u at u0
  clear huc
  go_wp2_with fail
  go_region
  go_wp2_with fail
  go_ret
  have JJ := unhide J0
  refine ⟨rfl, JJ.post (op' := true) (view' := view') (uc' := uc.set n false) (pc' := pc) ⟨?_, ?_, unhide Hbk, ?_, ?_, unhide hsee, JJ.sem, JJ.CF, JJ.MF, JJ.kF⟩ ?_⟩
  · exact h2.keep o3 (fun x hx e => JJ.CF x e (.inl hx)) (fun x hx e => JJ.CF x e (.inr (.inl hx))) (fun e => JJ.CF _ e (.inr (.inr (.inl rfl))))
  · exact kp2.keep o3 (fun e => JJ.CF _ e (.inr (.inr (.inr (.inl rfl)))))
  · exact bm2.keep o3 (fun x hx e => JJ.CF x e (.inr (.inr (.inr (.inr hx)))))
  · exact bo2.keep o3 (fun x hx e => JJ.CF x e (.inr (.inr (.inr (.inr hx)))))
  · exact ((o1.mono (fun _ _ h => h.elim)).trans ho2 (fun _ _ h => by rcases h with h | h; exact .inr (.inl h); exact .inr (.inr (.inr (.inl h))))).trans o3 (fun _ _ h => .inr (.inr (.inl h)))

theorem play_free (a b cc : Int) (s t : ByteArray) (j0 : JK w p l d k c m o blk base recs op com view uc pc um pm uo po F G C M) :
    Calls Try.prog 11 #[.pointer (some ⟨p, 0, none⟩), .pointer (some ⟨k, 0, none⟩), .agg #[.int .i64 5, .int .i64 a, .int .i64 b, .int .i64 cc, .string s, .string t]] w fun e w' =>
      e = .returned (.bool true) ∧ KP w p l d k o base uo po F G C M blk recs op com 5 w' := by
  cases op with
  | false =>
    refine play_free_no a b cc s t 2 (.inl rfl) j0 (fun w1 j1 => bar_shut j1 a) (fun w1 j1 => (pfree_shut j1.pg a).mono ?_)
    rintro e w' ⟨rfl, rfl⟩
    exact ⟨rfl, j1.pg, Only.refl _ _⟩
  | true =>
    by_cases hin : 1 ≤ a ∧ a < 72
    · obtain ⟨n, rfl⟩ := Int.eq_ofNat_of_zero_le (show 0 ≤ a by omega)
      have h1 : 1 ≤ n := by omega
      have hn : n < 72 := by omega
      cases hu : usedV view n with
      | true => exact play_free_ok n b cc s t h1 hn j0 hu
      | false =>
        refine play_free_no n b cc s t 5 (.inr rfl) j0 (fun w1 j1 => ?_) (fun w1 j1 => pfree_free j1.pg n h1 hn hu)
        have := bar_in j1 n h1 hn
        rw [hu, if_neg (by simp)] at this
        exact this
    · refine play_free_no a b cc s t 5 (.inr rfl) j0 (fun w1 j1 => bar_out j1 a hin) (fun w1 j1 => (pfree_out j1.pg a hin).mono ?_)
      rintro e w' ⟨rfl, rfl⟩
      exact ⟨rfl, j1.pg, Only.refl _ _⟩

set_option maxRecDepth 100000 in
set_option maxHeartbeats 1000000 in
theorem play_put_no (a b cc : Int) (s t : ByteArray) (e0 : Int) (he : e0 = 2 ∨ e0 = 5) (j0 : JK w p l d k c m o blk base recs op com view uc pc um pm uo po F G C M)
    (B : ∀ w1, JK w1 p l d k c m o blk base recs op com view uc pc um pm uo po F G C M → Calls Try.prog 28 #[.pointer (some ⟨k, 0, none⟩), .int .i64 a] w1 fun e w' => e = .returned (.int .i64 e0) ∧ w1 = w')
    (Fr : ∀ w1, JK w1 p l d k c m o blk base recs op com view uc pc um pm uo po F G C M → Calls Try.prog 30 #[.pointer (some ⟨p, 0, none⟩), .int .i64 a, .string s] w1 fun e w' => e = .returned (.int .i64 e0) ∧ PG w' p l d blk base recs op com view F G ∧ Only (fun x => G x ∨ x = p) w1 w') :
    Calls Try.prog 11 #[.pointer (some ⟨p, 0, none⟩), .pointer (some ⟨k, 0, none⟩), .agg #[.int .i64 7, .int .i64 a, .int .i64 b, .int .i64 cc, .string s, .string t]] w fun e w' =>
      e = .returned (.bool true) ∧ KP w p l d k o base uo po F G C M blk recs op com 7 w' := by
  have o1 : Only (fun _ => False) w (w.alloc (.cells #[.int .i64 7, .int .i64 a, .int .i64 b, .int .i64 cc, .string s, .string t] 40)) := (Only.refl _ w).alloc _
  have j1 := j0.keep o1
  have kb := Has.new w #[.int .i64 7, .int .i64 a, .int .i64 b, .int .i64 cc, .string s, .string t] 40
  have r1 := kb.cell 1
  have r4 := kb.cell 4
  have J0 := hide j0
  have C1 := hide (B _ j1)
  have C2 := hide (Fr _ j1)
  have J1 := hide j1
  clear j1 j0 B Fr
  rcases he with rfl | rfl
  all_goals
    go_enter Try.func11, Try.ntmps11
    go_wp2_with fail
    refine (unhide C1).mono ?_
    rintro e w1 ⟨rfl, rfl⟩
    go_wp2_with fail
    refine (unhide C2).mono ?_
    rintro e w2 ⟨rfl, h2, ho2⟩
    go_wp2_with fail
    go_ret
    exact ⟨rfl, (unhide J0).post ((unhide J1).pager ho2 h2 (unhide J1).see) ((o1.mono (fun _ _ h => h.elim)).trans ho2 (fun _ _ h => by rcases h with h | h; exact .inr (.inl h); exact .inr (.inr (.inr (.inl h)))))⟩

set_option maxRecDepth 100000 in
set_option maxHeartbeats 2000000 in
theorem play_put_ok (n : Nat) (b cc : Int) (s t : ByteArray) (hs : s.size ≤ maxLen) (h1 : 1 ≤ n) (hn : n < 72) (j0 : JK w p l d k c m o blk base recs true com view uc pc um pm uo po F G C M) (hu : usedV view n = true) :
    Calls Try.prog 11 #[.pointer (some ⟨p, 0, none⟩), .pointer (some ⟨k, 0, none⟩), .agg #[.int .i64 7, .int .i64 n, .int .i64 b, .int .i64 cc, .string s, .string t]] w fun e w' =>
      e = .returned (.bool true) ∧ KP w p l d k o base uo po F G C M blk recs true com 7 w' := by
  have o1 : Only (fun _ => False) w (w.alloc (.cells #[.int .i64 7, .int .i64 n, .int .i64 b, .int .i64 cc, .string s, .string t] 40)) := (Only.refl _ w).alloc _
  have j1 := j0.keep o1
  have kb := Has.new w #[.int .i64 7, .int .i64 n, .int .i64 b, .int .i64 cc, .string s, .string t] 40
  have r1 := kb.cell 1
  have r4 := kb.cell 4
  have C1 := bar_in j1 n h1 hn
  rw [if_pos hu] at C1
  have C1 := hide C1
  have C2 := hide (pput_used j1.pg n s hs h1 hn hu)
  have J0 := hide j0
  have J1 := hide j1
  have hwG : ¬ (G w.heap.size ∨ w.heap.size = p) := by
    rintro (h | h)
    · have := j0.pg.inG _ h; omega
    · have := j0.pg.plt; omega
  have hlt' : (n : Int) < 72 := by omega
  have hsee := hide (j0.see.put j0.pg.lv j0.bc.lp h1 hn (blockOf s))
  clear hu j1 j0
  go_enter Try.func11, Try.ntmps11
  go_wp2_with fail
  refine (unhide C1).mono ?_
  rintro e w1 ⟨rfl, rfl⟩
  go_wp2_with fail
  refine (unhide C2).mono ?_
  rintro e w2 ⟨rfl, h2, ho2⟩
  have h2 := h2.pg
  obtain ⟨kp2, bc2, bm2, bo2⟩ := (unhide J1).ghosts (ho2.mono (fun x _ h => by rcases h with h | h; exact .inr (.inl h); exact .inr (.inr h)))
  have kb2 := kb.keep ho2 hwG
  have t1 := kb2.cell 1
  have t4 := kb2.cell 4
  have c0 := kp2.cell 0
  unfold keeperC at c0
  obtain ⟨⟨b0, b1, g1, g2, g3, f, f0, f1⟩, lu, lp, hi⟩ := hide bc2
  have q1 := g1.cell 1
  have u0 := g3.cell n
  rw [strs_get _ _ (by omega)] at u0
  have z0 := g3.free n
  have n4 := g1.ne g3 (by decide)
  have n6 := g2.ne g3 (by decide)
  have o3 : Only C w2 (w2.setCell ⟨b1, n, none⟩ (.string (blockOf s))).drew := ((Only.refl C w2).setCell (p := ⟨b1, n, none⟩) (fun _ => f1) _).drew
  have hbk : BookAt (w2.setCell ⟨b1, n, none⟩ (.string (blockOf s))).drew c uc (pc.set n (blockOf s)) C := by
    have r2 := g3.setCell n (.string (blockOf s))
    rw [strs_set] at r2
    exact ⟨⟨b0, b1, (g1.setCell_other (p := ⟨b1, n, none⟩) n4 (.string (blockOf s))).drew, (g2.setCell_other (p := ⟨b1, n, none⟩) n6 (.string (blockOf s))).drew, r2.drew, f, f0, f1⟩, lu, by simpa using lp, fun x hx => Nat.lt_of_lt_of_le (hi x hx) o3.size⟩
  have Hbk := hide hbk
  clear C1 C2 hbk bc2
  generalize huc : pc[n] = u at u0
  clear huc
  go_wp2_with fail
  go_region_with (go_at_call 31; refine (blockOf_any s _ hs).mono ?_; rintro e w3 ⟨rfl, rfl⟩)
  all_goals
    go_wp2_with fail
    go_ret
    have JJ := unhide J0
    refine ⟨rfl, JJ.post (op' := true) (view' := view.set n (blockOf s)) (uc' := uc) (pc' := pc.set n (blockOf s)) ⟨?_, ?_, unhide Hbk, ?_, ?_, unhide hsee, JJ.sem, JJ.CF, JJ.MF, JJ.kF⟩ ?_⟩
    · exact h2.keep o3 (fun x hx e => JJ.CF x e (.inl hx)) (fun x hx e => JJ.CF x e (.inr (.inl hx))) (fun e => JJ.CF _ e (.inr (.inr (.inl rfl))))
    · exact kp2.keep o3 (fun e => JJ.CF _ e (.inr (.inr (.inr (.inl rfl)))))
    · exact bm2.keep o3 (fun x hx e => JJ.CF x e (.inr (.inr (.inr (.inr hx)))))
    · exact bo2.keep o3 (fun x hx e => JJ.CF x e (.inr (.inr (.inr (.inr hx)))))
    · exact ((o1.mono (fun _ _ h => h.elim)).trans ho2 (fun _ _ h => by rcases h with h | h; exact .inr (.inl h); exact .inr (.inr (.inr (.inl h))))).trans o3 (fun _ _ h => .inr (.inr (.inl h)))

theorem play_put (a b cc : Int) (s t : ByteArray) (hs : s.size ≤ maxLen) (j0 : JK w p l d k c m o blk base recs op com view uc pc um pm uo po F G C M) :
    Calls Try.prog 11 #[.pointer (some ⟨p, 0, none⟩), .pointer (some ⟨k, 0, none⟩), .agg #[.int .i64 7, .int .i64 a, .int .i64 b, .int .i64 cc, .string s, .string t]] w fun e w' =>
      e = .returned (.bool true) ∧ KP w p l d k o base uo po F G C M blk recs op com 7 w' := by
  cases op with
  | false =>
    refine play_put_no a b cc s t 2 (.inl rfl) j0 (fun w1 j1 => bar_shut j1 a) (fun w1 j1 => (pput_shut j1.pg a s).mono ?_)
    rintro e w' ⟨rfl, rfl⟩
    exact ⟨rfl, j1.pg, Only.refl _ _⟩
  | true =>
    by_cases hin : 1 ≤ a ∧ a < 72
    · obtain ⟨n, rfl⟩ := Int.eq_ofNat_of_zero_le (show 0 ≤ a by omega)
      have h1 : 1 ≤ n := by omega
      have hn : n < 72 := by omega
      cases hu : usedV view n with
      | true => exact play_put_ok n b cc s t hs h1 hn j0 hu
      | false =>
        refine play_put_no n b cc s t 5 (.inr rfl) j0 (fun w1 j1 => ?_) (fun w1 j1 => pput_free j1.pg n s h1 hn hu)
        have := bar_in j1 n h1 hn
        rw [hu, if_neg (by simp)] at this
        exact this
    · refine play_put_no a b cc s t 5 (.inr rfl) j0 (fun w1 j1 => bar_out j1 a hin) (fun w1 j1 => (pput_out j1.pg a s hin).mono ?_)
      rintro e w' ⟨rfl, rfl⟩
      exact ⟨rfl, j1.pg, Only.refl _ _⟩

/-- SeesPage of the current book: always true. -/
theorem jsees (a : Int) (j : JK w p l d k c m o blk base recs op com view uc pc um pm uo po F G C M) :
    Calls Try.prog 22 #[.pointer (some ⟨p, 0, none⟩), .pointer (some ⟨c, 0, none⟩), .int .i64 a] w fun e w' => e = .returned (.bool true) ∧ PG w' p l d blk base recs op com view F G ∧ Only (fun x => G x ∨ x = p) w w' := by
  by_cases hin : 1 ≤ a ∧ a < 72
  · obtain ⟨n, rfl⟩ := Int.eq_ofNat_of_zero_le (show 0 ≤ a by omega)
    have h1 : 1 ≤ n := by omega
    have hn : n < 72 := by omega
    refine (sees_in j.pg j.bc (fun h => j.CF _ h (.inr (.inr (.inl rfl)))) (fun x hx h => j.CF x hx (.inr (.inl h))) n h1 hn).mono ?_
    rintro e w' ⟨⟨b, rfl, hb⟩, h2, ho⟩
    obtain rfl : b = true := hb.2 (j.see n h1 hn)
    exact ⟨rfl, h2, ho⟩
  · refine (sees_out p c a hin w).mono ?_
    rintro e w' ⟨rfl, rfl⟩
    exact ⟨rfl, j.pg, Only.refl _ _⟩

set_option maxRecDepth 100000 in
set_option maxHeartbeats 2000000 in
theorem play_sees (kind a b cc : Int) (s t : ByteArray) (hk : kind = 6 ∨ kind = 8) (j0 : JK w p l d k c m o blk base recs op com view uc pc um pm uo po F G C M) :
    Calls Try.prog 11 #[.pointer (some ⟨p, 0, none⟩), .pointer (some ⟨k, 0, none⟩), .agg #[.int .i64 kind, .int .i64 a, .int .i64 b, .int .i64 cc, .string s, .string t]] w fun e w' =>
      e = .returned (.bool true) ∧ KP w p l d k o base uo po F G C M blk recs op com kind w' := by
  have o1 : Only (fun _ => False) w (w.alloc (.cells #[.int .i64 kind, .int .i64 a, .int .i64 b, .int .i64 cc, .string s, .string t] 40)) := (Only.refl _ w).alloc _
  have kb := Has.new w #[.int .i64 kind, .int .i64 a, .int .i64 b, .int .i64 cc, .string s, .string t] 40
  have r1 := kb.cell 1
  have j1 := (j0.keep o1)
  have c0 := j1.kp.cell 0
  unfold keeperC at c0
  have C1 := hide (jsees a (j1.keep ((Only.refl (fun _ => False) _).drew)))
  have J0 := hide j0
  have J1 := hide j1
  clear j0 j1
  rcases hk with rfl | rfl
  all_goals
    go_enter Try.func11, Try.ntmps11
    go_wp2_with fail
    go_region_with (go_at_call 22; refine (unhide C1).mono ?_; rintro e w2 ⟨rfl, h2, ho2⟩)
    all_goals
      go_wp2_with fail
      go_ret
      have ho3 := ((Only.refl (fun x => G x ∨ x = p) _).drew).trans ho2 (fun _ _ h => h)
      exact ⟨rfl, (unhide J0).post ((unhide J1).pager ho3 h2 (unhide J1).see) ((o1.mono (fun _ _ h => h.elim)).trans ho3 (fun _ _ h => by rcases h with h | h; exact .inr (.inl h); exact .inr (.inr (.inr (.inl h)))))⟩
theorem play_get (a b cc : Int) (s t : ByteArray) (j0 : JK w p l d k c m o blk base recs op com view uc pc um pm uo po F G C M) :
    Calls Try.prog 11 #[.pointer (some ⟨p, 0, none⟩), .pointer (some ⟨k, 0, none⟩), .agg #[.int .i64 6, .int .i64 a, .int .i64 b, .int .i64 cc, .string s, .string t]] w fun e w' =>
      e = .returned (.bool true) ∧ KP w p l d k o base uo po F G C M blk recs op com 6 w' := play_sees 6 a b cc s t (.inl rfl) j0
theorem play_used (a b cc : Int) (s t : ByteArray) (j0 : JK w p l d k c m o blk base recs op com view uc pc um pm uo po F G C M) :
    Calls Try.prog 11 #[.pointer (some ⟨p, 0, none⟩), .pointer (some ⟨k, 0, none⟩), .agg #[.int .i64 8, .int .i64 a, .int .i64 b, .int .i64 cc, .string s, .string t]] w fun e w' =>
      e = .returned (.bool true) ∧ KP w p l d k o base uo po F G C M blk recs op com 8 w' := play_sees 8 a b cc s t (.inr rfl) j0
end
end Go.Proofs.Qxb6500411a
