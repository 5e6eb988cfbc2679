/-
  OWN WORK. THE LAW OF DIFF: Play (laid by tools/gen_dl27.py).
-/
import Derived.Test.Qxb6500416aDL26
namespace Go.Proofs.Qxb6500416a
open Go.RowKit Go.PlainAid
set_option linter.unusedSimpArgs false
set_option linter.unusedVariables false

theorem Stp.first {B l : Nat} {w w1 w2 : World} (ho : Only (fun _ => False) w w1) (h : Stp B l w1 w2) : Stp B l w w2 := ⟨h.1, (ho.mono (T := fun y => B ≤ y) (fun _ _ h => h.elim)).trans h.2 (fun _ _ h => h)⟩
theorem Stp.trans {B l : Nat} {w w1 w2 : World} (h1 : Stp B l w w1) (h : Stp B l w1 w2) : Stp B l w w2 := ⟨h.1, h1.2.trans h.2 (fun _ _ h => h)⟩
section
variable {B : Nat} {w w' : World} {l e : Nat} {mp pv r0 r1 k0 k1 k2 k3 : Value} {tx : ByteArray} {hs : List HV} {p : List Hk} {A0 A1 : List Fl} {L : List Str} {F R M : Nat → Prop}
theorem LS.patF {S : Nat → Prop} (h : LS B w l e mp pv r0 r1 k0 k1 k2 k3 tx hs p A0 A1 L F R M) (ho : Only S w w') (hS : ∀ y, S y → y = l ∨ ∃ c, Has w y c 60) : PatO w' pv hs p R := by
  refine ⟨ownsRow_keep h.pat.1 ho (fun y hy hs' => ?_), h.pat.2.1.keepB ho (fun y hy hs' => ?_), h.pat.2.2⟩
  · rcases hS y hs' with e | ⟨c, hc⟩
    · subst e; exact h.lR (h.pat.2.2 y hy)
    · obtain ⟨c', hc'⟩ := own_ty h.pat.1 y hy
      exact Has.ne hc hc' (by decide) rfl
  · rcases hS y hs' with e | ⟨c, hc⟩
    · subst e; exact h.lR (h.pat.2.1.blk y hy).1
    · obtain ⟨c', hc'⟩ := h.pat.2.1.ty y hy
      exact Has.ne hc hc' (by decide) rfl
/-- A row joins row register 0. -/
theorem LS.push0 {v : Value} (h : LS B w l e mp pv r0 r1 k0 k1 k2 k3 tx hs p A0 A1 L F R M) (hl : A0.length ≤ 8) (f : Fl) (ho : Only (fun y => r0.ownBlock = some y) w w') (hown : OwnF w' v (A0 ++ [f])) (hb : ∀ y, v.ownBlock = some y → r0.ownBlock = some y ∨ (w.heap.size ≤ y ∧ y < w'.heap.size)) : Stp B l w (w'.setCell ⟨l, 4, none⟩ v) := by
  have hs' := ho.size
  have ll := Has.lt h.lw
  have lr : ∀ y, r0.ownBlock = some y → ¬ y = l := fun y hy e => h.lR (e ▸ h.rf y (.inl hy))
  have o2 := donly1 (w := w') (p := l) 4 v
  have oT : Only (fun y => r0.ownBlock = some y ∨ y = l) w (w'.setCell ⟨l, 4, none⟩ v) := (ho.mono (fun _ _ h => .inl h)).trans (o2.mono (T := fun y => r0.ownBlock = some y ∨ y = l) (fun _ _ h => .inr h)) (fun _ _ h => h)
  have hP := h.patF oT (fun y hy => by
    rcases hy with e | e
    · exact .inr (own_ty h.f0 y e)
    · exact .inl e)
  have vl : ∀ y, v.ownBlock = some y → ¬ y = l := fun y hy e => by
    rcases hb y hy with h1 | h1
    · exact lr y h1 e
    · omega
  have hw : LW (w'.setCell ⟨l, 4, none⟩ v) l (.pointer (some ⟨e, 0, none⟩)) mp pv (.string tx) v r1 k0 k1 k2 k3 := (LW.keep h.lw ho (fun e => lr l e rfl)).set4 v
  have hown2 : OwnF (w'.setCell ⟨l, 4, none⟩ v) v (A0 ++ [f]) := ownsRow_keep hown o2 vl
  have hoth : OwnF (w'.setCell ⟨l, 4, none⟩ v) r1 A1 := ownsRow_keep h.f1 oT (fun y hy e => by
    rcases e with e | e
    · exact h.r01 y e hy
    · exact h.lR (e ▸ h.rf y (.inr hy)))
  have inn : ∀ y, v.ownBlock = some y → (R y ∨ (w.heap.size ≤ y ∧ y < (w'.setCell ⟨l, 4, none⟩ v).heap.size)) := fun y hy => by
    rcases hb y hy with h1 | h1
    · exact .inl (h.rf y (.inl h1))
    · exact .inr (by simpa using h1)
  have hS := h.regs (R' := fun y => R y ∨ (w.heap.size ≤ y ∧ y < (w'.setCell ⟨l, 4, none⟩ v).heap.size)) hw (hP.mono (fun y _ hy => .inl hy)) h.dst h.pb hown2 hoth (by simp; omega) h.n1 (fun y hy => by
    rcases hy with hy | hy
    · exact inn y hy
    · exact .inl (h.rf y (.inr hy))) (fun y hy hy' => by
    rcases hb y hy with h1 | h1
    · exact h.r01 y h1 hy'
    · have := ownsRow_lt h.f1 y hy'; omega) oT (fun y hy => by
    rcases hy with hy | hy
    · exact .inr (h.rf y (.inl hy))
    · exact .inl hy) (fun y hy => hy)
  exact h.stp (R' := R) hS.li oT (fun y hy => by
    rcases hy with hy | hy
    · exact .inr (h.rf y (.inl hy))
    · exact .inl hy)
/-- A row joins row register 1. -/
theorem LS.push1 {v : Value} (h : LS B w l e mp pv r0 r1 k0 k1 k2 k3 tx hs p A0 A1 L F R M) (hl : A1.length ≤ 8) (f : Fl) (ho : Only (fun y => r1.ownBlock = some y) w w') (hown : OwnF w' v (A1 ++ [f])) (hb : ∀ y, v.ownBlock = some y → r1.ownBlock = some y ∨ (w.heap.size ≤ y ∧ y < w'.heap.size)) : Stp B l w (w'.setCell ⟨l, 5, none⟩ v) := by
  have hs' := ho.size
  have ll := Has.lt h.lw
  have lr : ∀ y, r1.ownBlock = some y → ¬ y = l := fun y hy e => h.lR (e ▸ h.rf y (.inr hy))
  have o2 := donly1 (w := w') (p := l) 5 v
  have oT : Only (fun y => r1.ownBlock = some y ∨ y = l) w (w'.setCell ⟨l, 5, none⟩ v) := (ho.mono (fun _ _ h => .inl h)).trans (o2.mono (T := fun y => r1.ownBlock = some y ∨ y = l) (fun _ _ h => .inr h)) (fun _ _ h => h)
  have hP := h.patF oT (fun y hy => by
    rcases hy with e | e
    · exact .inr (own_ty h.f1 y e)
    · exact .inl e)
  have vl : ∀ y, v.ownBlock = some y → ¬ y = l := fun y hy e => by
    rcases hb y hy with h1 | h1
    · exact lr y h1 e
    · omega
  have hw : LW (w'.setCell ⟨l, 5, none⟩ v) l (.pointer (some ⟨e, 0, none⟩)) mp pv (.string tx) r0 v k0 k1 k2 k3 := (LW.keep h.lw ho (fun e => lr l e rfl)).set5 v
  have hown2 : OwnF (w'.setCell ⟨l, 5, none⟩ v) v (A1 ++ [f]) := ownsRow_keep hown o2 vl
  have hoth : OwnF (w'.setCell ⟨l, 5, none⟩ v) r0 A0 := ownsRow_keep h.f0 oT (fun y hy e => by
    rcases e with e | e
    · exact h.r01 y hy e
    · exact h.lR (e ▸ h.rf y (.inl hy)))
  have inn : ∀ y, v.ownBlock = some y → (R y ∨ (w.heap.size ≤ y ∧ y < (w'.setCell ⟨l, 5, none⟩ v).heap.size)) := fun y hy => by
    rcases hb y hy with h1 | h1
    · exact .inl (h.rf y (.inr h1))
    · exact .inr (by simpa using h1)
  have hS := h.regs (R' := fun y => R y ∨ (w.heap.size ≤ y ∧ y < (w'.setCell ⟨l, 5, none⟩ v).heap.size)) hw (hP.mono (fun y _ hy => .inl hy)) h.dst h.pb hoth hown2 h.n0 (by simp; omega) (fun y hy => by
    rcases hy with hy | hy
    · exact .inl (h.rf y (.inl hy))
    · exact inn y hy) (fun y hy hy' => by
    rcases hb y hy' with h1 | h1
    · exact h.r01 y hy h1
    · have := ownsRow_lt h.f0 y hy; omega) oT (fun y hy => by
    rcases hy with hy | hy
    · exact .inr (h.rf y (.inr hy))
    · exact .inl hy) (fun y hy => hy)
  exact h.stp (R' := R) hS.li oT (fun y hy => by
    rcases hy with hy | hy
    · exact .inr (h.rf y (.inr hy))
    · exact .inl hy)

end
set_option maxRecDepth 100000 in
set_option maxHeartbeats 8000000 in
theorem play_1 {B : Nat} {w : World} {l : Nat} (h : LI B w l) (a b c : Int) (s t : ByteArray) :
    Calls Try.prog 12 #[.pointer (some ⟨l, 0, none⟩), .agg #[.int .i64 1, .int .i64 a, .int .i64 b, .int .i64 c, .string s, .string t]] w fun x w' => x = .returned (.bool true) ∧ Stp B l w w' := by
  have oo : Only (fun _ => False) w (w.alloc (.cells #[.int .i64 1, .int .i64 a, .int .i64 b, .int .i64 c, .string s, .string t] 47)) := (Only.refl _ w).alloc _
  have h0 := h.quiet oo
  obtain ⟨ob, hob⟩ : ∃ ob, ob = w.heap.size := ⟨_, rfl⟩
  have ko := Has.new' w #[.int .i64 1, .int .i64 a, .int .i64 b, .int .i64 c, .string s, .string t] 47 ob hob
  have C := hide (sameDiff_any h0 s t)
  have OO := hide oo
  clear h h0 oo ko hob ob
  go_enter Try.func12, Try.ntmps12
  go_wp2_with fail
  refine (unhide C).mono ?_
  rintro y w1 ⟨rfl, hp⟩
  have hp2 := hide (Stp.first (unhide OO) hp)
  clear hp
  go_wp2_with fail
  go_ret
  exact ⟨rfl, unhide hp2⟩
set_option maxRecDepth 100000 in
set_option maxHeartbeats 8000000 in
theorem play_2 {B : Nat} {w : World} {l : Nat} (h : LI B w l) (a b c : Int) (s t : ByteArray) (hs9 : s.size ≤ 9223372036854775807) :
    Calls Try.prog 12 #[.pointer (some ⟨l, 0, none⟩), .agg #[.int .i64 2, .int .i64 a, .int .i64 b, .int .i64 c, .string s, .string t]] w fun x w' => x = .returned (.bool true) ∧ Stp B l w w' := by
  have oo : Only (fun _ => False) w (w.alloc (.cells #[.int .i64 2, .int .i64 a, .int .i64 b, .int .i64 c, .string s, .string t] 47)) := (Only.refl _ w).alloc _
  have h0 := h.quiet oo
  obtain ⟨ob, hob⟩ : ∃ ob, ob = w.heap.size := ⟨_, rfl⟩
  have ko := Has.new' w #[.int .i64 2, .int .i64 a, .int .i64 b, .int .i64 c, .string s, .string t] 47 ob hob
  have C := hide (tweak_any h0 a b c s hs9)
  have OO := hide oo
  clear h h0 oo ko hob ob
  go_enter Try.func12, Try.ntmps12
  go_wp2_with fail
  refine (unhide C).mono ?_
  rintro y w1 ⟨rfl, hp⟩
  have hp2 := hide (Stp.first (unhide OO) hp)
  clear hp
  go_wp2_with fail
  go_ret
  exact ⟨rfl, unhide hp2⟩
set_option maxRecDepth 100000 in
set_option maxHeartbeats 8000000 in
theorem play_3 {B : Nat} {w : World} {l : Nat} (h : LI B w l) (a b c : Int) (s t : ByteArray) :
    Calls Try.prog 12 #[.pointer (some ⟨l, 0, none⟩), .agg #[.int .i64 3, .int .i64 a, .int .i64 b, .int .i64 c, .string s, .string t]] w fun x w' => x = .returned (.bool true) ∧ Stp B l w w' := by
  have oo : Only (fun _ => False) w (w.alloc (.cells #[.int .i64 3, .int .i64 a, .int .i64 b, .int .i64 c, .string s, .string t] 47)) := (Only.refl _ w).alloc _
  have h0 := h.quiet oo
  obtain ⟨ob, hob⟩ : ∃ ob, ob = w.heap.size := ⟨_, rfl⟩
  have ko := Has.new' w #[.int .i64 3, .int .i64 a, .int .i64 b, .int .i64 c, .string s, .string t] 47 ob hob
  have C := hide (sameApply_any h0 s)
  have OO := hide oo
  clear h h0 oo ko hob ob
  go_enter Try.func12, Try.ntmps12
  go_wp2_with fail
  refine (unhide C).mono ?_
  rintro y w1 ⟨rfl, hp⟩
  have hp2 := hide (Stp.first (unhide OO) hp)
  clear hp
  go_wp2_with fail
  go_ret
  exact ⟨rfl, unhide hp2⟩
set_option maxRecDepth 100000 in
set_option maxHeartbeats 8000000 in
theorem play_4 {B : Nat} {w : World} {l : Nat} (h : LI B w l) (a b c : Int) (s t : ByteArray) :
    Calls Try.prog 12 #[.pointer (some ⟨l, 0, none⟩), .agg #[.int .i64 4, .int .i64 a, .int .i64 b, .int .i64 c, .string s, .string t]] w fun x w' => x = .returned (.bool true) ∧ Stp B l w w' := by
  have oo : Only (fun _ => False) w (w.alloc (.cells #[.int .i64 4, .int .i64 a, .int .i64 b, .int .i64 c, .string s, .string t] 47)) := (Only.refl _ w).alloc _
  have h0 := h.quiet oo
  obtain ⟨ob, hob⟩ : ∃ ob, ob = w.heap.size := ⟨_, rfl⟩
  have ko := Has.new' w #[.int .i64 4, .int .i64 a, .int .i64 b, .int .i64 c, .string s, .string t] 47 ob hob
  obtain ⟨e, mp, pv, r0, r1, k0, k1, k2, k3, tx, hs, p, A0, A1, L, F, R, M, h0⟩ := h0
  have RR := hide (Stp.first oo (h0.stp (R' := R) (h0.text s).li (donly1 (p := l) 3 (.string s)) (fun y hy => .inl hy)))
  have f3 := Has.free h0.lw 3
  have q3 := Has.cell h0.lw 3
  have ll := Has.lt h0.lw
  clear h h0 oo ko hob ob
  go_enter Try.func12, Try.ntmps12
  go_wp2_with fail
  go_ret
  exact ⟨rfl, unhide RR⟩
set_option maxRecDepth 100000 in
set_option maxHeartbeats 8000000 in
theorem play_5 {B : Nat} {w : World} {l : Nat} (h : LI B w l) (a b c : Int) (s t : ByteArray) :
    Calls Try.prog 12 #[.pointer (some ⟨l, 0, none⟩), .agg #[.int .i64 5, .int .i64 a, .int .i64 b, .int .i64 c, .string s, .string t]] w fun x w' => x = .returned (.bool true) ∧ Stp B l w w' := by
  have oo : Only (fun _ => False) w (w.alloc (.cells #[.int .i64 5, .int .i64 a, .int .i64 b, .int .i64 c, .string s, .string t] 47)) := (Only.refl _ w).alloc _
  have h0 := h.quiet oo
  obtain ⟨ob, hob⟩ : ∃ ob, ob = w.heap.size := ⟨_, rfl⟩
  have ko := Has.new' w #[.int .i64 5, .int .i64 a, .int .i64 b, .int .i64 c, .string s, .string t] 47 ob hob
  have h1 := h0
  obtain ⟨e, mp, pv, r0, r1, k0, k1, k2, k3, tx, hs, p, A0, A1, L, F, R, M, h0⟩ := h0
  have q3 := Has.cell h0.lw 3
  have ll := Has.lt h0.lw
  have oD : Only (fun _ => False) (w.alloc (.cells #[.int .i64 5, .int .i64 a, .int .i64 b, .int .i64 c, .string s, .string t] 47)) (w.alloc (.cells #[.int .i64 5, .int .i64 a, .int .i64 b, .int .i64 c, .string s, .string t] 47)).drew := (Only.refl _ _).drew
  have C := hide (sameMerge_any (h1.quiet oD) s t tx)
  have OO := hide (oo.trans oD (fun _ _ h => h))
  have x4 := ko.cell 4
  have x5 := ko.cell 5
  have hol := ko.lt
  clear h h0 h1 oo oD
  go_enter Try.func12, Try.ntmps12
  go_upto_region 11 with fail
  rw [← hob]
  clear hob ko
  generalize (w.alloc (.cells #[.int .i64 5, .int .i64 a, .int .i64 b, .int .i64 c, .string s, .string t] 47)) = W0 at *
  go_region_with (go_at_call 17; refine (unhide C).mono ?_; rintro y w1 ⟨rfl, hp⟩)
  all_goals
    have hp2 := hide (Stp.first (unhide OO) hp)
    clear hp
    go_wp2_with fail
    go_ret
    exact ⟨rfl, unhide hp2⟩
theorem row_lens {w : World} {v : Value} {A : List Fl} (h : OwnF w v A) : ∃ a c, v = .slice a A.length c := by
  obtain ⟨a, c, e⟩ := ownsRow_shape h
  exact ⟨a, c, e⟩
set_option maxRecDepth 100000 in
set_option maxHeartbeats 8000000 in
theorem play_6no {B : Nat} {w : World} {l : Nat} (h : LI B w l) (a b c : Int) (s t : ByteArray) (h1 : a ≠ 0) (h2 : a ≠ 1) :
    Calls Try.prog 12 #[.pointer (some ⟨l, 0, none⟩), .agg #[.int .i64 6, .int .i64 a, .int .i64 b, .int .i64 c, .string s, .string t]] w fun x w' => x = .returned (.bool true) ∧ Stp B l w w' := by
  have oo : Only (fun _ => False) w (w.alloc (.cells #[.int .i64 6, .int .i64 a, .int .i64 b, .int .i64 c, .string s, .string t] 47)) := (Only.refl _ w).alloc _
  have h0 := h.quiet oo
  obtain ⟨ob, hob⟩ : ∃ ob, ob = w.heap.size := ⟨_, rfl⟩
  have ko := Has.new' w #[.int .i64 6, .int .i64 a, .int .i64 b, .int .i64 c, .string s, .string t] 47 ob hob
  have RR := hide (And.intro (h0.quiet (Only.drew (Only.refl _ _))) (oo.mono (T := fun y => B ≤ y) (fun _ _ h => h.elim)).drew)
  have e1 : (a == 0) = false := by simpa using h1
  have e2 : (a == 1) = false := by simpa using h2
  clear h h0 oo ko hob ob
  go_enter Try.func12, Try.ntmps12
  go_upto_region 13 with fail
  go_region
  all_goals
    go_wp2_with fail
    go_ret
    exact ⟨rfl, unhide RR⟩
set_option maxRecDepth 100000 in
set_option maxHeartbeats 8000000 in
theorem play_7 {B : Nat} {w : World} {l : Nat} (h : LI B w l) (a b c : Int) (s t : ByteArray) :
    Calls Try.prog 12 #[.pointer (some ⟨l, 0, none⟩), .agg #[.int .i64 7, .int .i64 a, .int .i64 b, .int .i64 c, .string s, .string t]] w fun x w' => x = .returned (.bool true) ∧ Stp B l w w' := by
  have oo : Only (fun _ => False) w (w.alloc (.cells #[.int .i64 7, .int .i64 a, .int .i64 b, .int .i64 c, .string s, .string t] 47)) := (Only.refl _ w).alloc _
  have h0 := h.quiet oo
  obtain ⟨ob, hob⟩ : ∃ ob, ob = w.heap.size := ⟨_, rfl⟩
  have ko := Has.new' w #[.int .i64 7, .int .i64 a, .int .i64 b, .int .i64 c, .string s, .string t] 47 ob hob
  have C := hide (sameTreeDiff_any h0)
  have OO := hide oo
  clear h h0 oo ko hob ob
  go_enter Try.func12, Try.ntmps12
  go_wp2_with fail
  refine (unhide C).mono ?_
  rintro y w1 ⟨rfl, hp⟩
  have hp2 := Stp.first (unhide OO) hp
  obtain ⟨e, mp, pv, r0, r1, k0, k1, k2, k3, tx, hs, p, A0, A1, L, F, R, M, h1⟩ := hp.1
  have RR := hide (hp2.trans (h1.stp (R' := R) h1.empty.li ((donly1 (w := w1) (p := l) 4 (.slice none 0 0)).trans (donly1 (p := l) 5 (.slice none 0 0)) (fun _ _ h => h)) (fun y hy => .inl hy)))
  have f4 := Has.free h1.lw 4
  have f5 := Has.free h1.lw 5
  have q4 := Has.cell h1.lw 4
  have q5 := Has.cell h1.lw 5
  have ll := Has.lt h1.lw
  clear hp hp2 h1 C OO
  go_wp2_with fail
  go_ret
  exact ⟨rfl, unhide RR⟩
set_option maxRecDepth 100000 in
set_option maxHeartbeats 8000000 in
theorem play_8 {B : Nat} {w : World} {l : Nat} (h : LI B w l) (a b c : Int) (s t : ByteArray) :
    Calls Try.prog 12 #[.pointer (some ⟨l, 0, none⟩), .agg #[.int .i64 8, .int .i64 a, .int .i64 b, .int .i64 c, .string s, .string t]] w fun x w' => x = .returned (.bool true) ∧ Stp B l w w' := by
  have oo : Only (fun _ => False) w (w.alloc (.cells #[.int .i64 8, .int .i64 a, .int .i64 b, .int .i64 c, .string s, .string t] 47)) := (Only.refl _ w).alloc _
  have h0 := h.quiet oo
  obtain ⟨ob, hob⟩ : ∃ ob, ob = w.heap.size := ⟨_, rfl⟩
  have ko := Has.new' w #[.int .i64 8, .int .i64 a, .int .i64 b, .int .i64 c, .string s, .string t] 47 ob hob
  have RN := hide (And.intro h0 (oo.mono (T := fun y => B ≤ y) (fun _ _ h => h.elim)))
  obtain ⟨e, mp, pv, r0, r1, k0, k1, k2, k3, tx, hs, p, A0, A1, L, F, R, M, h0⟩ := h0
  have C := hide (dcheck_any (.pointer (some ⟨e, 0, none⟩)))
  have q0 := Has.cell h0.lw 0
  have ll := Has.lt h0.lw
  clear h h0 oo ko hob ob
  go_enter Try.func12, Try.ntmps12
  go_wp2_with fail
  refine (unhide C _).mono ?_
  rintro y w1 ⟨rfl, rfl⟩
  go_wp2_with fail
  go_ret
  exact ⟨rfl, unhide RN⟩
set_option maxRecDepth 100000 in
set_option maxHeartbeats 8000000 in
theorem play_no {B : Nat} {w : World} {l : Nat} (h : LI B w l) (k a b c : Int) (s t : ByteArray) (h1 : k ≠ 1) (h2 : k ≠ 2) (h3 : k ≠ 3) (h4 : k ≠ 4) (h5 : k ≠ 5) (h6 : k ≠ 6) (h7 : k ≠ 7) (h8 : k ≠ 8) :
    Calls Try.prog 12 #[.pointer (some ⟨l, 0, none⟩), .agg #[.int .i64 k, .int .i64 a, .int .i64 b, .int .i64 c, .string s, .string t]] w fun x w' => x = .returned (.bool true) ∧ Stp B l w w' := by
  have oo : Only (fun _ => False) w (w.alloc (.cells #[.int .i64 k, .int .i64 a, .int .i64 b, .int .i64 c, .string s, .string t] 47)) := (Only.refl _ w).alloc _
  have h0 := h.quiet oo
  obtain ⟨ob, hob⟩ : ∃ ob, ob = w.heap.size := ⟨_, rfl⟩
  have ko := Has.new' w #[.int .i64 k, .int .i64 a, .int .i64 b, .int .i64 c, .string s, .string t] 47 ob hob
  have RN := hide (And.intro h0 (oo.mono (T := fun y => B ≤ y) (fun _ _ h => h.elim)))
  have e1 : (k == 1) = false := by simpa using h1
  have e2 : (k == 2) = false := by simpa using h2
  have e3 : (k == 3) = false := by simpa using h3
  have e4 : (k == 4) = false := by simpa using h4
  have e5 : (k == 5) = false := by simpa using h5
  have e6 : (k == 6) = false := by simpa using h6
  have e7 : (k == 7) = false := by simpa using h7
  have e8 : (k == 8) = false := by simpa using h8
  clear h h0 oo ko hob ob
  go_enter Try.func12, Try.ntmps12
  go_wp2_with fail
  go_ret
  exact ⟨rfl, unhide RN⟩
end Go.Proofs.Qxb6500416a
