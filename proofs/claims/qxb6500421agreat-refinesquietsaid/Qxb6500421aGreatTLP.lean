/-
  OWN WORK. THE TREE LAW: Play (laid by tools/gen_tlp.py).
-/
import Derived.Test.Qxb6500421aGreatTLK
import Derived.Test.Qxb6500421aGreatTLA
import Derived.Test.Qxb6500421aGreatTAbt
import Derived.Test.Qxb6500421aGreatUOps
import Derived.Deep.RegionHeldLaw
namespace Go.Proofs.Qxb6500421aGreat
open Go.RowKit Go.PlainAid
set_option linter.unusedSimpArgs false
set_option linter.unusedVariables false

/-- The register. -/
structure DeskAt (w : World) (dk : Nat) (R : Nat → Prop) : Prop where
  ex : ∃ v reg, Has w dk #[v] 39 ∧ OwnE w v reg ∧ reg.length ≤ 9 ∧ (∀ y, v.ownBlock = some y → R y ∧ y ≠ dk)
  own : R dk
  inn : ∀ k, R k → k < w.heap.size
theorem DeskAt.keep {w w' : World} {dk : Nat} {R S : Nat → Prop} (h : DeskAt w dk R) (ho : Only S w w') (hS : ∀ k, R k → ¬ S k) : DeskAt w' dk R := by
  obtain ⟨⟨v, reg, h1, h2, h3, h4⟩, h5, h6⟩ := h
  exact ⟨⟨v, reg, h1.keep ho (hS dk h5), h2.keep ho (fun y hy => hS y (h4 y hy).1), h3, h4⟩, h5, fun k hk => Nat.lt_of_lt_of_le (h6 k hk) ho.size⟩
/-- What an op leaves, the register too. -/
structure PStep (w w' : World) (t s d m dk : Nat) (D : Nat → Nat) (J : Nat → Sl) (rt : Nat) (F H R : Nat → Prop) : Prop where
  ex : ∃ recs' J' rt' hist' F' H' R', TW w' t s d m (replayB D recs') D recs' J' rt' hist' F' H' ∧ (∃ a hl cap, hist' = .slice a hl cap) ∧ (∀ k, F' k ∨ H' k ∨ R' k → F k ∨ H k ∨ R k ∨ w.heap.size ≤ k) ∧ DeskAt w' dk R' ∧ (∀ k, R' k → ¬ (F' k ∨ H' k ∨ k = s ∨ k = t)) ∧ (recs' = [] → JEq (abortJ J') (abortJ J) ∧ rt' = rt) ∧ (∀ kk, kk < recs'.length → Shows (replayB D (recs'.take kk)) rt (abortJ J)) ∧ (∀ r ∈ recs', r.1 < 145) ∧ recs'.length ≤ 1000
  only : Only (fun k => F k ∨ H k ∨ R k ∨ k = s ∨ k = t) w w'
section
variable {w : World} {t s d m dk : Nat} {D : Nat → Nat} {J : Nat → Sl} {rt : Nat} {F H R : Nat → Prop}
/-- Both sides and the register, at an op's head. -/
structure PW (w : World) (t s d m dk : Nat) (D : Nat → Nat) (J : Nat → Sl) (rt : Nat) (F H R : Nat → Prop) : Prop where
  tw : TW w t s d m D D [] J rt (.slice none 0 0) F H
  dk : DeskAt w dk R
  off : ∀ k, R k → ¬ (F k ∨ H k ∨ k = s ∨ k = t)
theorem PW.quiet {w' : World} (h : PW w t s d m dk D J rt F H R) (ho : Only (fun _ => False) w w') : PW w' t s d m dk D J rt F H R := ⟨h.tw.quiet ho, h.dk.keep ho (fun _ _ h => h), h.off⟩
theorem PStep.of {w' : World} (h : PW w t s d m dk D J rt F H R) (hs : TStep w w' t s d m D J rt F H) : PStep w w' t s d m dk D J rt F H R := by
  obtain ⟨⟨r1, j1, rt1, h1, f1, hh1, a1, a2, a3, a4, a5, a6, a7⟩, hon⟩ := hs
  refine ⟨⟨r1, j1, rt1, h1, f1, hh1, R, a1, a2, fun k hk => ?_, h.dk.keep hon (fun k hk => h.off k hk), fun k hk e => ?_, a4, a5, a6, a7⟩, hon.mono (fun k _ e => by rcases e with e | e | e | e; exact .inl e; exact .inr (.inl e); exact .inr (.inr (.inr (.inl e))); exact .inr (.inr (.inr (.inr e))))⟩
  · rcases hk with hk | hk | hk
    · rcases a3 k (.inl hk) with e | e | e
      · exact .inl e
      · exact .inr (.inl e)
      · exact .inr (.inr (.inr e))
    · rcases a3 k (.inr hk) with e | e | e
      · exact .inl e
      · exact .inr (.inl e)
      · exact .inr (.inr (.inr e))
    · exact .inr (.inr (.inl hk))
  · have hkl := h.dk.inn k hk
    rcases e with e | e | e | e
    · rcases a3 k (.inl e) with e | e | e
      · exact h.off k hk (.inl e)
      · exact h.off k hk (.inr (.inl e))
      · omega
    · rcases a3 k (.inr e) with e | e | e
      · exact h.off k hk (.inl e)
      · exact h.off k hk (.inr (.inl e))
      · omega
    · exact h.off k hk (.inr (.inr (.inl e)))
    · exact h.off k hk (.inr (.inr (.inr e)))
theorem PStep.pre {w0 w' : World} (ho : Only (fun _ => False) w w0) (h : PStep w0 w' t s d m dk D J rt F H R) : PStep w w' t s d m dk D J rt F H R := by
  have hs := ho.size
  obtain ⟨⟨r1, j1, rt1, h1, f1, hh1, R1, a1, a2, a3, a4, a5, a6, a7, a8, a9⟩, hon⟩ := h
  refine ⟨⟨r1, j1, rt1, h1, f1, hh1, R1, a1, a2, fun k hk => ?_, a4, a5, a6, a7, a8, a9⟩, (ho.mono (fun _ _ h => h.elim)).trans hon (fun _ _ h => h)⟩
  rcases a3 k hk with e | e | e | e
  · exact .inl e
  · exact .inr (.inl e)
  · exact .inr (.inr (.inl e))
  · exact .inr (.inr (.inr (by omega)))
theorem PStep.same {w' : World} (h : PW w t s d m dk D J rt F H R) (ho : Only (fun _ => False) w w') : PStep w w' t s d m dk D J rt F H R := PStep.of h (TStep.same h.tw ho)
/-- The register alone is turned. -/
theorem PStep.desk {w' : World} {R' : Nat → Prop} (h : PW w t s d m dk D J rt F H R) (ho : Only (fun k => R k) w w') (hd : DeskAt w' dk R') (hx : ∀ k, R' k → R k ∨ w.heap.size ≤ k) : PStep w w' t s d m dk D J rt F H R := by
  obtain ⟨t1, t2, t3⟩ := h.tw.ts.ts_lt
  have hTW : TW w' t s d m D D [] J rt (.slice none 0 0) F H := ⟨h.tw.ts.keep ho (fun e => h.off t e (.inr (.inr (.inr rfl)))) (fun e => h.off s e (.inr (.inr (.inl rfl)))) (fun k hk e => h.off k e (.inl hk)), h.tw.md.keep ho (fun k hk e => h.off k e (.inr (.inl hk))), h.tw.off⟩
  refine ⟨⟨[], J, rt, _, F, H, R', hTW, ⟨_, _, _, rfl⟩, fun k hk => ?_, hd, fun k hk e => ?_, fun _ => ⟨JEq.refl _, rfl⟩, fun kk hk => by simp at hk, fun r hr => by simp at hr, by simp⟩, ho.mono (fun k _ e => .inr (.inr (.inl e)))⟩
  · rcases hk with hk | hk | hk
    · exact .inl hk
    · exact .inr (.inl hk)
    · rcases hx k hk with e | e
      · exact .inr (.inr (.inl e))
      · exact .inr (.inr (.inr e))
  · rcases hx k hk with e1 | e1
    · exact h.off k e1 e
    · rcases e with e | e | e | e
      · have := t3 k e; omega
      · have := h.tw.md.inn k e; omega
      · omega
      · omega
theorem tlAbort_step (h : TW w t s d m D D [] J rt (.slice none 0 0) F H) {w1 w2 : World} (h1 : TS w1 t s d D D [] (abortJ J) rt F) (ho1 : Only (fun y => y = t ∨ y = s) w w1) (h2 : UAt w2 m (abortJ J) rt (.slice none 0 0) H) (ho2 : Only (fun k => k = m) w1 w2) : TStep w w2 t s d m D J rt F H := by
  obtain ⟨mt, ms, mF⟩ := h.apart
  refine ⟨⟨[], _, rt, _, F, H, ⟨h1.keep ho2 (fun e => mt e.symm) (fun e => ms e.symm) (fun k hk e => mF k hk e), h2, h.off⟩, ⟨_, _, _, rfl⟩, fun k hk => by rcases hk with h | h; exact .inl h; exact .inr (.inl h), fun _ => ⟨fun i hi => by rw [abortJ_abort], rfl⟩, fun kk hk => by simp at hk, fun r hr => by simp at hr, by simp⟩, ?_⟩
  exact (ho1.mono (fun k _ e => by rcases e with e | e; exact .inr (.inr (.inr e)); exact .inr (.inr (.inl e)))).trans ho2 (fun i hi e => .inr (.inl (e ▸ h.md.own)))
set_option maxRecDepth 100000 in
set_option maxHeartbeats 4000000 in
theorem tplay1 (x y z : Int) (sb tb : ByteArray) (hs : sb.size ≤ maxLen) (j : PW w t s d m dk D J rt F H R) :
    Calls Tryz.prog 17 #[.pointer (some ⟨t, 0, none⟩), .pointer (some ⟨m, 0, none⟩), .pointer (some ⟨dk, 0, none⟩), .agg #[.int .i64 1, .int .i64 x, .int .i64 y, .int .i64 z, .string sb, .string tb]] w fun e w' => e = .returned (.bool true) ∧ PStep w w' t s d m dk D J rt F H R := by
  have o0 : Only (fun _ => False) w (w.alloc (.cells #[.int .i64 1, .int .i64 x, .int .i64 y, .int .i64 z, .string sb, .string tb] 44)) := (Only.refl _ w).alloc _
  have ko := Has.new w #[.int .i64 1, .int .i64 x, .int .i64 y, .int .i64 z, .string sb, .string tb] 44
  have j0 := j.quiet o0
  have C1 := hide ((tlPut_any j0.tw x sb hs).mono (R' := fun e w' => e = .returned (.bool true) ∧ PStep w w' t s d m dk D J rt F H R) (fun e w' ⟨p, q⟩ => ⟨p, PStep.pre o0 (PStep.of j0 q)⟩))
  have r1 := ko.cell 1
  have r3 := ko.cell 3
  have r4 := ko.cell 4
  clear j j0 ko o0
  go_enter Tryz.func17, Tryz.ntmps17
  go_wp2_with fail
  refine (unhide C1).mono ?_
  rintro e w1 ⟨rfl, h1⟩
  have h1 := hide h1
  go_wp2_with fail
  go_ret
  exact ⟨rfl, unhide h1⟩
set_option maxRecDepth 100000 in
set_option maxHeartbeats 4000000 in
theorem tplay2a (x y z : Int) (sb tb : ByteArray) (hs : sb.size ≤ maxLen) (j : PW w t s d m dk D J rt F H R) (hz : z ≠ 0) :
    Calls Tryz.prog 17 #[.pointer (some ⟨t, 0, none⟩), .pointer (some ⟨m, 0, none⟩), .pointer (some ⟨dk, 0, none⟩), .agg #[.int .i64 2, .int .i64 x, .int .i64 y, .int .i64 z, .string sb, .string tb]] w fun e w' => e = .returned (.bool true) ∧ PStep w w' t s d m dk D J rt F H R := by
  have o0 : Only (fun _ => False) w (w.alloc (.cells #[.int .i64 2, .int .i64 x, .int .i64 y, .int .i64 z, .string sb, .string tb] 44)) := (Only.refl _ w).alloc _
  have ko := Has.new w #[.int .i64 2, .int .i64 x, .int .i64 y, .int .i64 z, .string sb, .string tb] 44
  have j0 := j.quiet o0
  have C1 := hide ((sameGet_once j0.tw.ts j0.tw.md j0.tw.ts.inv x).mono (R' := fun e w' => e = .returned (.bool true) ∧ PStep w w' t s d m dk D J rt F H R) (fun e w' ⟨b, p, q, o⟩ => ⟨by rw [p, q.2 ⟨rfl, rfl, rfl⟩], PStep.pre o0 (PStep.same j0 o)⟩))
  have r1 := ko.cell 1
  have r3 := ko.cell 3
  have r4 := ko.cell 4
  have hz1 : (z != 0) = true := by simpa using hz
  clear hz
  clear j j0 ko o0
  go_enter Tryz.func17, Tryz.ntmps17
  go_wp2_with fail
  refine (unhide C1).mono ?_
  rintro e w1 ⟨rfl, h1⟩
  have h1 := hide h1
  go_wp2_with fail
  go_ret
  exact ⟨rfl, unhide h1⟩
set_option maxRecDepth 100000 in
set_option maxHeartbeats 4000000 in
theorem tplay2b (x y z : Int) (sb tb : ByteArray) (hs : sb.size ≤ maxLen) (j : PW w t s d m dk D J rt F H R) (hz : z = 0) :
    Calls Tryz.prog 17 #[.pointer (some ⟨t, 0, none⟩), .pointer (some ⟨m, 0, none⟩), .pointer (some ⟨dk, 0, none⟩), .agg #[.int .i64 2, .int .i64 x, .int .i64 y, .int .i64 z, .string sb, .string tb]] w fun e w' => e = .returned (.bool true) ∧ PStep w w' t s d m dk D J rt F H R := by
  have o0 : Only (fun _ => False) w (w.alloc (.cells #[.int .i64 2, .int .i64 x, .int .i64 y, .int .i64 z, .string sb, .string tb] 44)) := (Only.refl _ w).alloc _
  have ko := Has.new w #[.int .i64 2, .int .i64 x, .int .i64 y, .int .i64 z, .string sb, .string tb] 44
  have j0 := j.quiet o0
  have C1 := hide ((sameGet_thrice j0.tw.ts j0.tw.md j0.tw.ts.inv x).mono (R' := fun e w' => e = .returned (.bool true) ∧ PStep w w' t s d m dk D J rt F H R) (fun e w' ⟨p, q⟩ => ⟨p, PStep.pre o0 (PStep.same j0 q)⟩))
  have r1 := ko.cell 1
  have r3 := ko.cell 3
  have r4 := ko.cell 4
  have hz1 : (z != 0) = false := by simpa using hz
  clear hz
  clear j j0 ko o0
  go_enter Tryz.func17, Tryz.ntmps17
  go_wp2_with fail
  refine (unhide C1).mono ?_
  rintro e w1 ⟨rfl, h1⟩
  have h1 := hide h1
  go_wp2_with fail
  go_ret
  exact ⟨rfl, unhide h1⟩
set_option maxRecDepth 100000 in
set_option maxHeartbeats 4000000 in
theorem tplay5a (x y z : Int) (sb tb : ByteArray) (hs : sb.size ≤ maxLen) (j : PW w t s d m dk D J rt F H R) (hz : z ≠ 0) :
    Calls Tryz.prog 17 #[.pointer (some ⟨t, 0, none⟩), .pointer (some ⟨m, 0, none⟩), .pointer (some ⟨dk, 0, none⟩), .agg #[.int .i64 5, .int .i64 x, .int .i64 y, .int .i64 z, .string sb, .string tb]] w fun e w' => e = .returned (.bool true) ∧ PStep w w' t s d m dk D J rt F H R := by
  have o0 : Only (fun _ => False) w (w.alloc (.cells #[.int .i64 5, .int .i64 x, .int .i64 y, .int .i64 z, .string sb, .string tb] 44)) := (Only.refl _ w).alloc _
  have ko := Has.new w #[.int .i64 5, .int .i64 x, .int .i64 y, .int .i64 z, .string sb, .string tb] 44
  have j0 := j.quiet o0
  have C1 := hide ((sameRead_once j0.tw.ts j0.tw.md j0.tw.ts.inv x).mono (R' := fun e w' => e = .returned (.bool true) ∧ PStep w w' t s d m dk D J rt F H R) (fun e w' ⟨b, p, q, o⟩ => ⟨by rw [p, q.2 ⟨rfl, rfl⟩], PStep.pre o0 (PStep.same j0 o)⟩))
  have r1 := ko.cell 1
  have r3 := ko.cell 3
  have r4 := ko.cell 4
  have hz1 : (z != 0) = true := by simpa using hz
  clear hz
  clear j j0 ko o0
  go_enter Tryz.func17, Tryz.ntmps17
  go_wp2_with fail
  refine (unhide C1).mono ?_
  rintro e w1 ⟨rfl, h1⟩
  have h1 := hide h1
  go_wp2_with fail
  go_ret
  exact ⟨rfl, unhide h1⟩
set_option maxRecDepth 100000 in
set_option maxHeartbeats 4000000 in
theorem tplay5b (x y z : Int) (sb tb : ByteArray) (hs : sb.size ≤ maxLen) (j : PW w t s d m dk D J rt F H R) (hz : z = 0) :
    Calls Tryz.prog 17 #[.pointer (some ⟨t, 0, none⟩), .pointer (some ⟨m, 0, none⟩), .pointer (some ⟨dk, 0, none⟩), .agg #[.int .i64 5, .int .i64 x, .int .i64 y, .int .i64 z, .string sb, .string tb]] w fun e w' => e = .returned (.bool true) ∧ PStep w w' t s d m dk D J rt F H R := by
  have o0 : Only (fun _ => False) w (w.alloc (.cells #[.int .i64 5, .int .i64 x, .int .i64 y, .int .i64 z, .string sb, .string tb] 44)) := (Only.refl _ w).alloc _
  have ko := Has.new w #[.int .i64 5, .int .i64 x, .int .i64 y, .int .i64 z, .string sb, .string tb] 44
  have j0 := j.quiet o0
  have C1 := hide ((sameRead_thrice j0.tw.ts j0.tw.md j0.tw.ts.inv x).mono (R' := fun e w' => e = .returned (.bool true) ∧ PStep w w' t s d m dk D J rt F H R) (fun e w' ⟨p, q⟩ => ⟨p, PStep.pre o0 (PStep.same j0 q)⟩))
  have r1 := ko.cell 1
  have r3 := ko.cell 3
  have r4 := ko.cell 4
  have hz1 : (z != 0) = false := by simpa using hz
  clear hz
  clear j j0 ko o0
  go_enter Tryz.func17, Tryz.ntmps17
  go_wp2_with fail
  refine (unhide C1).mono ?_
  rintro e w1 ⟨rfl, h1⟩
  have h1 := hide h1
  go_wp2_with fail
  go_ret
  exact ⟨rfl, unhide h1⟩
set_option maxRecDepth 100000 in
set_option maxHeartbeats 4000000 in
theorem tplay6a (x y z : Int) (sb tb : ByteArray) (hs : sb.size ≤ maxLen) (j : PW w t s d m dk D J rt F H R) (hz : z ≠ 0) :
    Calls Tryz.prog 17 #[.pointer (some ⟨t, 0, none⟩), .pointer (some ⟨m, 0, none⟩), .pointer (some ⟨dk, 0, none⟩), .agg #[.int .i64 6, .int .i64 x, .int .i64 y, .int .i64 z, .string sb, .string tb]] w fun e w' => e = .returned (.bool true) ∧ PStep w w' t s d m dk D J rt F H R := by
  have o0 : Only (fun _ => False) w (w.alloc (.cells #[.int .i64 6, .int .i64 x, .int .i64 y, .int .i64 z, .string sb, .string tb] 44)) := (Only.refl _ w).alloc _
  have ko := Has.new w #[.int .i64 6, .int .i64 x, .int .i64 y, .int .i64 z, .string sb, .string tb] 44
  have j0 := j.quiet o0
  have C1 := hide ((sameMembers_once j0.tw.ts j0.tw.md j0.tw.ts.inv x).mono (R' := fun e w' => e = .returned (.bool true) ∧ PStep w w' t s d m dk D J rt F H R) (fun e w' ⟨b, p, q, o⟩ => ⟨by rw [p, q.2 ⟨rfl, rfl⟩], PStep.pre o0 (PStep.same j0 o)⟩))
  have r1 := ko.cell 1
  have r3 := ko.cell 3
  have r4 := ko.cell 4
  have hz1 : (z != 0) = true := by simpa using hz
  clear hz
  clear j j0 ko o0
  go_enter Tryz.func17, Tryz.ntmps17
  go_wp2_with fail
  refine (unhide C1).mono ?_
  rintro e w1 ⟨rfl, h1⟩
  have h1 := hide h1
  go_wp2_with fail
  go_ret
  exact ⟨rfl, unhide h1⟩
set_option maxRecDepth 100000 in
set_option maxHeartbeats 4000000 in
theorem tplay6b (x y z : Int) (sb tb : ByteArray) (hs : sb.size ≤ maxLen) (j : PW w t s d m dk D J rt F H R) (hz : z = 0) :
    Calls Tryz.prog 17 #[.pointer (some ⟨t, 0, none⟩), .pointer (some ⟨m, 0, none⟩), .pointer (some ⟨dk, 0, none⟩), .agg #[.int .i64 6, .int .i64 x, .int .i64 y, .int .i64 z, .string sb, .string tb]] w fun e w' => e = .returned (.bool true) ∧ PStep w w' t s d m dk D J rt F H R := by
  have o0 : Only (fun _ => False) w (w.alloc (.cells #[.int .i64 6, .int .i64 x, .int .i64 y, .int .i64 z, .string sb, .string tb] 44)) := (Only.refl _ w).alloc _
  have ko := Has.new w #[.int .i64 6, .int .i64 x, .int .i64 y, .int .i64 z, .string sb, .string tb] 44
  have j0 := j.quiet o0
  have C1 := hide ((sameMembers_thrice j0.tw.ts j0.tw.md j0.tw.ts.inv x).mono (R' := fun e w' => e = .returned (.bool true) ∧ PStep w w' t s d m dk D J rt F H R) (fun e w' ⟨p, q⟩ => ⟨p, PStep.pre o0 (PStep.same j0 q)⟩))
  have r1 := ko.cell 1
  have r3 := ko.cell 3
  have r4 := ko.cell 4
  have hz1 : (z != 0) = false := by simpa using hz
  clear hz
  clear j j0 ko o0
  go_enter Tryz.func17, Tryz.ntmps17
  go_wp2_with fail
  refine (unhide C1).mono ?_
  rintro e w1 ⟨rfl, h1⟩
  have h1 := hide h1
  go_wp2_with fail
  go_ret
  exact ⟨rfl, unhide h1⟩
set_option maxRecDepth 100000 in
set_option maxHeartbeats 4000000 in
theorem tplay7 (x y z : Int) (sb tb : ByteArray) (hs : sb.size ≤ maxLen) (j : PW w t s d m dk D J rt F H R) :
    Calls Tryz.prog 17 #[.pointer (some ⟨t, 0, none⟩), .pointer (some ⟨m, 0, none⟩), .pointer (some ⟨dk, 0, none⟩), .agg #[.int .i64 7, .int .i64 x, .int .i64 y, .int .i64 z, .string sb, .string tb]] w fun e w' => e = .returned (.bool true) ∧ PStep w w' t s d m dk D J rt F H R := by
  have o0 : Only (fun _ => False) w (w.alloc (.cells #[.int .i64 7, .int .i64 x, .int .i64 y, .int .i64 z, .string sb, .string tb] 44)) := (Only.refl _ w).alloc _
  have ko := Has.new w #[.int .i64 7, .int .i64 x, .int .i64 y, .int .i64 z, .string sb, .string tb] 44
  have j0 := j.quiet o0
  have C1 := hide ((tlDrop_any j0.tw x).mono (R' := fun e w' => e = .returned (.bool true) ∧ PStep w w' t s d m dk D J rt F H R) (fun e w' ⟨p, q⟩ => ⟨p, PStep.pre o0 (PStep.of j0 q)⟩))
  have r1 := ko.cell 1
  have r3 := ko.cell 3
  have r4 := ko.cell 4
  clear j j0 ko o0
  go_enter Tryz.func17, Tryz.ntmps17
  go_wp2_with fail
  refine (unhide C1).mono ?_
  rintro e w1 ⟨rfl, h1⟩
  have h1 := hide h1
  go_wp2_with fail
  go_ret
  exact ⟨rfl, unhide h1⟩
set_option maxRecDepth 100000 in
set_option maxHeartbeats 4000000 in
theorem tplay8 (x y z : Int) (sb tb : ByteArray) (hs : sb.size ≤ maxLen) (j : PW w t s d m dk D J rt F H R) :
    Calls Tryz.prog 17 #[.pointer (some ⟨t, 0, none⟩), .pointer (some ⟨m, 0, none⟩), .pointer (some ⟨dk, 0, none⟩), .agg #[.int .i64 8, .int .i64 x, .int .i64 y, .int .i64 z, .string sb, .string tb]] w fun e w' => e = .returned (.bool true) ∧ PStep w w' t s d m dk D J rt F H R := by
  have o0 : Only (fun _ => False) w (w.alloc (.cells #[.int .i64 8, .int .i64 x, .int .i64 y, .int .i64 z, .string sb, .string tb] 44)) := (Only.refl _ w).alloc _
  have ko := Has.new w #[.int .i64 8, .int .i64 x, .int .i64 y, .int .i64 z, .string sb, .string tb] 44
  have j0 := j.quiet o0
  have C1 := hide ((tlCommit_any j0.tw x).mono (R' := fun e w' => e = .returned (.bool true) ∧ PStep w w' t s d m dk D J rt F H R) (fun e w' ⟨p, q⟩ => ⟨p, PStep.pre o0 (PStep.of j0 q)⟩))
  have r1 := ko.cell 1
  have r3 := ko.cell 3
  have r4 := ko.cell 4
  clear j j0 ko o0
  go_enter Tryz.func17, Tryz.ntmps17
  go_wp2_with fail
  refine (unhide C1).mono ?_
  rintro e w1 ⟨rfl, h1⟩
  have h1 := hide h1
  go_wp2_with fail
  go_ret
  exact ⟨rfl, unhide h1⟩
set_option maxRecDepth 100000 in
set_option maxHeartbeats 4000000 in
theorem tplay11 (x y z : Int) (sb tb : ByteArray) (hs : sb.size ≤ maxLen) (j : PW w t s d m dk D J rt F H R) :
    Calls Tryz.prog 17 #[.pointer (some ⟨t, 0, none⟩), .pointer (some ⟨m, 0, none⟩), .pointer (some ⟨dk, 0, none⟩), .agg #[.int .i64 11, .int .i64 x, .int .i64 y, .int .i64 z, .string sb, .string tb]] w fun e w' => e = .returned (.bool true) ∧ PStep w w' t s d m dk D J rt F H R := by
  have o0 : Only (fun _ => False) w (w.alloc (.cells #[.int .i64 11, .int .i64 x, .int .i64 y, .int .i64 z, .string sb, .string tb] 44)) := (Only.refl _ w).alloc _
  have ko := Has.new w #[.int .i64 11, .int .i64 x, .int .i64 y, .int .i64 z, .string sb, .string tb] 44
  have j0 := j.quiet o0
  have C1 := hide ((tlRoot_any j0.tw.ts j0.tw.md).mono (R' := fun e w' => e = .returned (.bool true) ∧ PStep w w' t s d m dk D J rt F H R) (fun e w' ⟨p, q⟩ => ⟨by rw [p]; simp, PStep.pre o0 (PStep.same j0 (q ▸ Only.refl _ _))⟩))
  have r1 := ko.cell 1
  have r3 := ko.cell 3
  have r4 := ko.cell 4
  clear j j0 ko o0
  go_enter Tryz.func17, Tryz.ntmps17
  go_wp2_with fail
  refine (unhide C1).mono ?_
  rintro e w1 ⟨rfl, h1⟩
  have h1 := hide h1
  go_wp2_with fail
  go_ret
  exact ⟨rfl, unhide h1⟩
set_option maxRecDepth 100000 in
set_option maxHeartbeats 4000000 in
theorem tplay12 (x y z : Int) (sb tb : ByteArray) (hs : sb.size ≤ maxLen) (j : PW w t s d m dk D J rt F H R) :
    Calls Tryz.prog 17 #[.pointer (some ⟨t, 0, none⟩), .pointer (some ⟨m, 0, none⟩), .pointer (some ⟨dk, 0, none⟩), .agg #[.int .i64 12, .int .i64 x, .int .i64 y, .int .i64 z, .string sb, .string tb]] w fun e w' => e = .returned (.bool true) ∧ PStep w w' t s d m dk D J rt F H R := by
  have o0 : Only (fun _ => False) w (w.alloc (.cells #[.int .i64 12, .int .i64 x, .int .i64 y, .int .i64 z, .string sb, .string tb] 44)) := (Only.refl _ w).alloc _
  have ko := Has.new w #[.int .i64 12, .int .i64 x, .int .i64 y, .int .i64 z, .string sb, .string tb] 44
  have j0 := j.quiet o0
  have C1 := hide ((tlFree_any j0.tw.ts j0.tw.md).mono (R' := fun e w' => e = .returned (.bool true) ∧ PStep w w' t s d m dk D J rt F H R) (fun e w' ⟨p, q⟩ => ⟨by rw [p]; simp, PStep.pre o0 (PStep.same j0 (q ▸ Only.refl _ _))⟩))
  have r1 := ko.cell 1
  have r3 := ko.cell 3
  have r4 := ko.cell 4
  clear j j0 ko o0
  go_enter Tryz.func17, Tryz.ntmps17
  go_wp2_with fail
  refine (unhide C1).mono ?_
  rintro e w1 ⟨rfl, h1⟩
  have h1 := hide h1
  go_wp2_with fail
  go_ret
  exact ⟨rfl, unhide h1⟩
set_option maxRecDepth 100000 in
set_option maxHeartbeats 4000000 in
theorem tplay13 (x y z : Int) (sb tb : ByteArray) (hs : sb.size ≤ maxLen) (j : PW w t s d m dk D J rt F H R) :
    Calls Tryz.prog 17 #[.pointer (some ⟨t, 0, none⟩), .pointer (some ⟨m, 0, none⟩), .pointer (some ⟨dk, 0, none⟩), .agg #[.int .i64 13, .int .i64 x, .int .i64 y, .int .i64 z, .string sb, .string tb]] w fun e w' => e = .returned (.bool true) ∧ PStep w w' t s d m dk D J rt F H R := by
  have o0 : Only (fun _ => False) w (w.alloc (.cells #[.int .i64 13, .int .i64 x, .int .i64 y, .int .i64 z, .string sb, .string tb] 44)) := (Only.refl _ w).alloc _
  have ko := Has.new w #[.int .i64 13, .int .i64 x, .int .i64 y, .int .i64 z, .string sb, .string tb] 44
  have j0 := j.quiet o0
  have C1 := hide ((tcheck_any j0.tw.ts).mono (R' := fun e w' => e = .returned (.bool true) ∧ PStep w w' t s d m dk D J rt F H R) (fun e w' ⟨p, q⟩ => ⟨p, PStep.pre o0 (PStep.same j0 q)⟩))
  have r1 := ko.cell 1
  have r3 := ko.cell 3
  have r4 := ko.cell 4
  clear j j0 ko o0
  go_enter Tryz.func17, Tryz.ntmps17
  go_wp2_with fail
  refine (unhide C1).mono ?_
  rintro e w1 ⟨rfl, h1⟩
  have h1 := hide h1
  go_wp2_with fail
  go_ret
  exact ⟨rfl, unhide h1⟩
set_option maxRecDepth 100000 in
set_option maxHeartbeats 4000000 in
theorem tplay9 (x y z : Int) (sb tb : ByteArray) (hs : sb.size ≤ maxLen) (j : PW w t s d m dk D J rt F H R) :
    Calls Tryz.prog 17 #[.pointer (some ⟨t, 0, none⟩), .pointer (some ⟨m, 0, none⟩), .pointer (some ⟨dk, 0, none⟩), .agg #[.int .i64 9, .int .i64 x, .int .i64 y, .int .i64 z, .string sb, .string tb]] w fun e w' => e = .returned (.bool true) ∧ PStep w w' t s d m dk D J rt F H R := by
  have o0 : Only (fun _ => False) w (w.alloc (.cells #[.int .i64 9, .int .i64 x, .int .i64 y, .int .i64 z, .string sb, .string tb] 44)) := (Only.refl _ w).alloc _
  have ko := Has.new w #[.int .i64 9, .int .i64 x, .int .i64 y, .int .i64 z, .string sb, .string tb] 44
  have j0 := j.quiet o0
  have C1 := hide (tabort_any j0.tw.ts)
  have C2 := hide (fun (w1 : World) (hm : UAt w1 m J rt (.slice none 0 0) H) => uabort_any hm)
  have J0 := hide j0
  have O0 := hide o0
  clear j j0 ko o0
  go_enter Tryz.func17, Tryz.ntmps17
  go_wp2_with fail
  refine (unhide C1).mono ?_
  rintro e w1 ⟨rfl, h1, ho1⟩
  have hm1 := (unhide J0).tw.md.keep ho1 (fun k hk e => (unhide J0).tw.off k hk (by
    rcases e with e | e
    · exact .inr (.inr e)
    · exact .inr (.inl e)))
  have C3 := hide (unhide C2 w1 hm1)
  have H1 := hide h1
  have HO1 := hide ho1
  clear C1 C2 hm1 h1 ho1
  go_wp2_with fail
  refine (unhide C3).mono ?_
  rintro e w2 ⟨rfl, h2, ho2⟩
  have RR := hide (PStep.pre (unhide O0) (PStep.of (unhide J0) (tlAbort_step (unhide J0).tw (unhide H1) (unhide HO1) h2 ho2)))
  clear C3 h2 ho2
  go_wp2_with fail
  go_ret
  exact ⟨rfl, unhide RR⟩
set_option maxRecDepth 100000 in
set_option maxHeartbeats 4000000 in
theorem tplay4 (x y z : Int) (sb tb : ByteArray) (hs : sb.size ≤ maxLen) (j : PW w t s d m dk D J rt F H R) :
    Calls Tryz.prog 17 #[.pointer (some ⟨t, 0, none⟩), .pointer (some ⟨m, 0, none⟩), .pointer (some ⟨dk, 0, none⟩), .agg #[.int .i64 4, .int .i64 x, .int .i64 y, .int .i64 z, .string sb, .string tb]] w fun e w' => e = .returned (.bool true) ∧ PStep w w' t s d m dk D J rt F H R := by
  have o0 : Only (fun _ => False) w (w.alloc (.cells #[.int .i64 4, .int .i64 x, .int .i64 y, .int .i64 z, .string sb, .string tb] 44)) := (Only.refl _ w).alloc _
  have ko := Has.new w #[.int .i64 4, .int .i64 x, .int .i64 y, .int .i64 z, .string sb, .string tb] 44
  have j0 := j.quiet o0
  obtain ⟨⟨v, reg, hd1, hd2, hd3, hd4⟩, hd5, hd6⟩ := j0.dk
  obtain ⟨va, vc, rfl⟩ := ownsRow_shape hd2
  have z0 := hd1.cell 0
  have f0 := hd1.free 0
  have hdl := hd1.lt
  have oS := only1 (w := w.alloc (.cells #[.int .i64 4, .int .i64 x, .int .i64 y, .int .i64 z, .string sb, .string tb] 44)) (p := dk) 0 (.slice none 0 0)
  have hdk : DeskAt ((w.alloc (.cells #[.int .i64 4, .int .i64 x, .int .i64 y, .int .i64 z, .string sb, .string tb] 44)).setCell ⟨dk, 0, none⟩ (.slice none 0 0)) dk R := ⟨⟨.slice none 0 0, [], by simpa using hd1.setCell 0 (.slice none 0 0), OwnE.nil _, by simp, fun y hy => by simp [Value.ownBlock] at hy⟩, hd5, fun k hk => Nat.lt_of_lt_of_le (hd6 k hk) oS.size⟩
  have hTW : TW ((w.alloc (.cells #[.int .i64 4, .int .i64 x, .int .i64 y, .int .i64 z, .string sb, .string tb] 44)).setCell ⟨dk, 0, none⟩ (.slice none 0 0)) t s d m D D [] J rt (.slice none 0 0) F H := ⟨j0.tw.ts.keep oS (fun e => j.off dk hd5 (.inr (.inr (.inr e.symm)))) (fun e => j.off dk hd5 (.inr (.inr (.inl e.symm)))) (fun k hk e => j.off dk hd5 (.inl (e ▸ hk))), j0.tw.md.keep oS (fun k hk e => j.off dk hd5 (.inr (.inl (e ▸ hk)))), j0.tw.off⟩
  have jS : PW ((w.alloc (.cells #[.int .i64 4, .int .i64 x, .int .i64 y, .int .i64 z, .string sb, .string tb] 44)).setCell ⟨dk, 0, none⟩ (.slice none 0 0)) t s d m dk D J rt F H R := ⟨hTW, hdk, j.off⟩
  have C1 := hide (tlWrite_any hTW _ reg (hd2.in_.keep oS (fun y hy e => (hd4 y hy).2 e)) (by omega))
  have JS := hide jS
  have OS' := hide (o0.mono (T := fun k => R k) (fun _ _ h => h.elim) |>.trans oS (fun i hi e => by rw [e]; exact hd5))
  have hsz : ((w.alloc (.cells #[.int .i64 4, .int .i64 x, .int .i64 y, .int .i64 z, .string sb, .string tb] 44)).setCell ⟨dk, 0, none⟩ (.slice none 0 0)).heap.size = w.heap.size + 1 := by simp
  have Hsz := hide hsz
  clear j j0 ko o0 hd1 hd2 hd3 hd4 hd6 hdk hTW jS oS hsz
  go_enter Tryz.func17, Tryz.ntmps17
  go_upto_region 12 with fail
  generalize (w.alloc (.cells #[.int .i64 4, .int .i64 x, .int .i64 y, .int .i64 z, .string sb, .string tb] 44)).setCell ⟨dk, 0, none⟩ (.slice none 0 0) = W at *
  go_wp2_with fail
  refine (unhide C1).mono ?_
  rintro e w1 ⟨rfl, h1⟩
  have RR := hide (PStep.of (unhide JS) h1)
  clear h1 C1
  go_wp2_with fail
  go_ret
  obtain ⟨⟨r1, j1, rt1, h1, f1, hh1, R1, a1, a2, a3, a4, a5, a6, a7, a8, a9⟩, hon⟩ := unhide RR
  have hz := unhide Hsz
  refine ⟨rfl, ⟨⟨r1, j1, rt1, h1, f1, hh1, R1, a1, a2, fun k hk => ?_, a4, a5, a6, a7, a8, a9⟩, ((unhide OS').mono (fun k _ e => .inr (.inr (.inl e)))).trans hon (fun _ _ h => h)⟩⟩
  rcases a3 k hk with e | e | e | e
  · exact .inl e
  · exact .inr (.inl e)
  · exact .inr (.inr (.inl e))
  · exact .inr (.inr (.inr (by omega)))
set_option maxRecDepth 100000 in
set_option maxHeartbeats 4000000 in
theorem tplay3a (x y z : Int) (sb tb : ByteArray) (hs : sb.size ≤ maxLen) (j : PW w t s d m dk D J rt F H R) (hfull : ∀ v reg, Has w dk #[v] 39 → OwnE w v reg → ¬ reg.length ≤ 8) :
    Calls Tryz.prog 17 #[.pointer (some ⟨t, 0, none⟩), .pointer (some ⟨m, 0, none⟩), .pointer (some ⟨dk, 0, none⟩), .agg #[.int .i64 3, .int .i64 x, .int .i64 y, .int .i64 z, .string sb, .string tb]] w fun e w' => e = .returned (.bool true) ∧ PStep w w' t s d m dk D J rt F H R := by
  have o0 : Only (fun _ => False) w (w.alloc (.cells #[.int .i64 3, .int .i64 x, .int .i64 y, .int .i64 z, .string sb, .string tb] 44)) := (Only.refl _ w).alloc _
  have ko := Has.new w #[.int .i64 3, .int .i64 x, .int .i64 y, .int .i64 z, .string sb, .string tb] 44
  have j0 := j.quiet o0
  obtain ⟨⟨v, reg, hd1, hd2, hd3, hd4⟩, hd5, hd6⟩ := j.dk
  have hf := hfull v reg hd1 hd2
  have hd1' := hd1.keep o0 (fun h => h)
  obtain ⟨va, vc, rfl⟩ := ownsRow_shape hd2
  have z0 := hd1'.cell 0
  have RR := hide (PStep.pre o0 (PStep.same j0 (Only.refl _ _)))
  have hdl := hd1'.lt
  have b1 : decide ((reg.length : Int) ≤ 8) = false := decide_eq_false (by omega)
  have b1n : decide (reg.length ≤ 8) = false := decide_eq_false (by omega)
  clear j j0 ko o0 hd1 hd2 hd4 hd6 hfull hd1'
  go_enter Tryz.func17, Tryz.ntmps17
  go_wp2_with fail
  go_ret
  exact ⟨rfl, unhide RR⟩
end
end Go.Proofs.Qxb6500421aGreat
