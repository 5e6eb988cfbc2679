/-
  OWN WORK. THE PAGER LAW's KeepPlay: Begin, Get, Used, others.
-/
import Derived.Test.Qxb6500411aQKeep
namespace Go.Proofs.Qxb6500411a
open Go.RowKit
set_option linter.unusedSimpArgs false
set_option linter.unusedVariables false

def opC (kind a b c : Int) (s t : ByteArray) : Array Value := #[.int .i64 kind, .int .i64 a, .int .i64 b, .int .i64 c, .string s, .string t]

section
variable {w : World} {p l d k c m o : Nat} {blk base : List ByteArray} {recs : List (Nat × ByteArray)} {op : Bool} {com view : List ByteArray} {uc : List Bool} {pc : List ByteArray} {um : List Bool} {pm : List ByteArray} {uo : List Bool} {po : List ByteArray} {F G C M : Nat → Prop}

theorem KP.pre {kind : Int} {w1 w' : World} (ho : Only (fun _ => False) w w1) (h : KP w1 p l d k o base uo po F G C M blk recs op com kind w') : KP w p l d k o base uo po F G C M blk recs op com kind w' := by
  obtain ⟨c', m', blk', recs', op', com', view', uc', pc', um', pm', F', C', M', j, h1, h2, h3⟩ := h
  have s := ho.size
  refine ⟨c', m', blk', recs', op', com', view', uc', pc', um', pm', F', C', M', j, fun x hx => ?_, (ho.mono (fun _ _ h => h.elim)).trans h2 (fun _ _ h => h), h3⟩
  rcases h1 x hx with h | h | h | h
  · exact .inl h
  · exact .inr (.inl h)
  · exact .inr (.inr (.inl h))
  · exact .inr (.inr (.inr (by omega)))

theorem JK.ghosts {w' : World} (h : JK w p l d k c m o blk base recs op com view uc pc um pm uo po F G C M) (ho : Only (fun x => F x ∨ G x ∨ x = p) w w') :
    Has w' k (keeperC c m o op) 36 ∧ BookAt w' c uc pc C ∧ BookAt w' m um pm M ∧ BookAt w' o uo po M := by
  refine ⟨h.kp.keep ho (fun e => h.kF (by rcases e with e | e | e; exact .inl e; exact .inr (.inl e); exact .inr (.inr e))), h.bc.keep ho (fun x hx e => h.CF x hx (by rcases e with e | e | e; exact .inl e; exact .inr (.inl e); exact .inr (.inr (.inl e)))), h.bm.keep ho (fun x hx e => h.MF x hx (by rcases e with e | e | e; exact .inl e; exact .inr (.inl e); exact .inr (.inr (.inl e)))), h.bo.keep ho (fun x hx e => h.MF x hx (by rcases e with e | e | e; exact .inl e; exact .inr (.inl e); exact .inr (.inr (.inl e))))⟩

theorem keeper_set3 (c m o : Nat) (op b : Bool) : (keeperC c m o op).setIfInBounds 3 (.bool b) = keeperC c m o b := rfl

set_option maxRecDepth 100000 in
set_option maxHeartbeats 1000000 in
theorem play_begin (a b cc : Int) (s t : ByteArray) (j0 : JK w p l d k c m o blk base recs op com view uc pc um pm uo po F G C M) :
    Calls Try.prog 11 #[.pointer (some ⟨p, 0, none⟩), .pointer (some ⟨k, 0, none⟩), .agg #[.int .i64 1, .int .i64 a, .int .i64 b, .int .i64 cc, .string s, .string t]] w fun e w' =>
      e = .returned (.bool true) ∧ KP w p l d k o base uo po F G C M blk recs op com 1 w' := by
  have o1 : Only (fun _ => False) w (w.alloc (.cells #[.int .i64 1, .int .i64 a, .int .i64 b, .int .i64 cc, .string s, .string t] 40)) := (Only.refl _ w).alloc _
  have j1 := j0.keep o1
  have J0 := hide j0
  cases op with
  | true =>
    have C1 := hide (pbegin_open j1.pg)
    have c3 := j1.kp.cell 3
    unfold keeperC at c3
    go_enter Try.func11, Try.ntmps11
    go_wp2_with fail
    refine (unhide C1).mono ?_
    rintro e w1 ⟨rfl, rfl⟩
    go_wp2_with fail
    go_ret
    exact ⟨rfl, (unhide J0).same o1⟩
  | false =>
    have C1 := hide (pbegin_shut j1.pg)
    go_enter Try.func11, Try.ntmps11
    go_wp2_with fail
    refine (unhide C1).mono ?_
    rintro e w2 ⟨rfl, h2, ho2⟩
    obtain ⟨k2, bc2, bm2, bo2⟩ := j1.ghosts (ho2.mono (fun x _ h => by rcases h with h | h; exact .inr (.inl h); exact .inr (.inr h)))
    have c3 := k2.cell 3
    have z3 := k2.free 3
    unfold keeperC at c3
    have k3 := k2.setCell 3 (.bool true)
    rw [keeper_set3] at k3
    have o3 := PAt.only1 (w := w2) (p := k) 3 (.bool true)
    go_wp2_with fail
    go_ret
    refine ⟨rfl, (unhide J0).post (op' := true) (view' := view) (uc' := uc) (pc' := pc) ⟨h2.keep o3 (fun x hx e => j0.kF (.inl (e ▸ hx))) (fun x hx e => j0.kF (.inr (.inl (e ▸ hx)))) (fun e => j0.kF (.inr (.inr e.symm))), k3, bc2.keep o3 (fun x hx e => j0.CF x hx (.inr (.inr (.inr (.inl e))))), bm2.keep o3 (fun x hx e => j0.MF x hx (.inr (.inr (.inr e)))), bo2.keep o3 (fun x hx e => j0.MF x hx (.inr (.inr (.inr e)))), j0.see, j0.sem, j0.CF, j0.MF, j0.kF⟩ ?_⟩
    exact ((o1.mono (fun _ _ h => h.elim)).trans ho2 (fun _ _ h => by rcases h with h | h; exact .inr (.inl h); exact .inr (.inr (.inr (.inl h))))).trans o3 (fun _ _ h => .inr (.inr (.inr (.inr h))))

set_option maxRecDepth 100000 in
set_option maxHeartbeats 1000000 in
theorem play_other (kind a b cc : Int) (s t : ByteArray) (j0 : JK w p l d k c m o blk base recs op com view uc pc um pm uo po F G C M) (hk : ¬ (1 ≤ kind ∧ kind ≤ 8)) :
    Calls Try.prog 11 #[.pointer (some ⟨p, 0, none⟩), .pointer (some ⟨k, 0, none⟩), .agg #[.int .i64 kind, .int .i64 a, .int .i64 b, .int .i64 cc, .string s, .string t]] w fun e w' =>
      e = .returned (.bool true) ∧ KP w p l d k o base uo po F G C M blk recs op com kind w' := by
  have o1 : Only (fun _ => False) w (w.alloc (.cells #[.int .i64 kind, .int .i64 a, .int .i64 b, .int .i64 cc, .string s, .string t] 40)) := (Only.refl _ w).alloc _
  have J0 := hide j0
  have k1 : (kind == 1) = false := ne_int (by omega)
  have k2 : (kind == 2) = false := ne_int (by omega)
  have k3 : (kind == 3) = false := ne_int (by omega)
  have k4 : (kind == 4) = false := ne_int (by omega)
  have k5 : (kind == 5) = false := ne_int (by omega)
  have k6 : (kind == 6) = false := ne_int (by omega)
  have k7 : (kind == 7) = false := ne_int (by omega)
  have k8 : (kind == 8) = false := ne_int (by omega)
  clear hk j0
  go_enter Try.func11, Try.ntmps11
  go_wp2_with fail
  go_ret
  exact ⟨rfl, (unhide J0).same o1⟩
end
end Go.Proofs.Qxb6500411a
