/-
  OWN WORK. THE PAGER LAW's KEEPER: Bar; the joint of pager and ghosts; KeepPlay, a kind at a time.
-/
import Derived.Test.Qxb6500411aQBelow
import Derived.Test.Qxb6500411aQLook
namespace Go.Proofs.Qxb6500411a
open Go.RowKit
set_option linter.unusedSimpArgs false
set_option linter.unusedVariables false

def keeperC (c m o : Nat) (op : Bool) : Array Value := #[.pointer (some ⟨c, 0, none⟩), .pointer (some ⟨m, 0, none⟩), .pointer (some ⟨o, 0, none⟩), .bool op]

structure JK (w : World) (p l d k c m o : Nat) (blk base : List ByteArray) (recs : List (Nat × ByteArray)) (op : Bool) (com view : List ByteArray) (uc : List Bool) (pc : List ByteArray) (um : List Bool) (pm : List ByteArray) (uo : List Bool) (po : List ByteArray) (F G C M : Nat → Prop) : Prop where
  pg : PG w p l d blk base recs op com view F G
  kp : Has w k (keeperC c m o op) 36
  bc : BookAt w c uc pc C
  bm : BookAt w m um pm M
  bo : BookAt w o uo po M
  see : SeesAll view uc pc
  sem : SeesAll (com.take 72) um pm
  CF : ∀ x, C x → ¬ (F x ∨ G x ∨ x = p ∨ x = k ∨ M x)
  MF : ∀ x, M x → ¬ (F x ∨ G x ∨ x = p ∨ x = k)
  kF : ¬ (F k ∨ G k ∨ k = p)

def KP (w : World) (p l d k o : Nat) (base : List ByteArray) (uo : List Bool) (po : List ByteArray) (F G C M : Nat → Prop) (blk : List ByteArray) (recs : List (Nat × ByteArray)) (op : Bool) (com : List ByteArray) (kind : Int) (w' : World) : Prop :=
  ∃ c' m' blk' recs' op' com' view' uc' pc' um' pm' F' C' M', JK w' p l d k c' m' o blk' base recs' op' com' view' uc' pc' um' pm' uo po F' G C' M' ∧ (∀ x, F' x ∨ C' x ∨ M' x → F x ∨ C x ∨ M x ∨ w.heap.size ≤ x) ∧ Only (fun x => F x ∨ G x ∨ C x ∨ x = p ∨ x = k) w w' ∧
    ((blk' = blk ∧ recs' = recs ∧ com' = com ∧ CutInv blk [] com com) ∨ (∃ rs, recs' = recs ++ rs ∧ blk' = replay blk rs ∧ CutInv blk rs com com'))

section
variable {w : World} {p l d k c m o : Nat} {blk base : List ByteArray} {recs : List (Nat × ByteArray)} {op : Bool} {com view : List ByteArray} {uc : List Bool} {pc : List ByteArray} {um : List Bool} {pm : List ByteArray} {uo : List Bool} {po : List ByteArray} {F G C M : Nat → Prop}

theorem JK.keep {w' : World} (h : JK w p l d k c m o blk base recs op com view uc pc um pm uo po F G C M) (ho : Only (fun _ => False) w w') : JK w' p l d k c m o blk base recs op com view uc pc um pm uo po F G C M :=
  ⟨h.pg.quiet ho, h.kp.keep ho (fun h => h), h.bc.keep ho (fun _ _ h => h), h.bm.keep ho (fun _ _ h => h), h.bo.keep ho (fun _ _ h => h), h.see, h.sem, h.CF, h.MF, h.kF⟩

/-- The pager has turned (its own blocks and the log's), the ghosts stand. -/
theorem JK.pager {w' : World} {view' : List ByteArray} (h : JK w p l d k c m o blk base recs op com view uc pc um pm uo po F G C M) (ho : Only (fun x => G x ∨ x = p) w w') (hp : PG w' p l d blk base recs op com view' F G) (hs : SeesAll view' uc pc) : JK w' p l d k c m o blk base recs op com view' uc pc um pm uo po F G C M := by
  refine ⟨hp, h.kp.keep ho (fun e => h.kF (by rcases e with e | e; exact .inr (.inl e); exact .inr (.inr e))), h.bc.keep ho (fun x hx e => h.CF x hx (by rcases e with e | e; exact .inr (.inl e); exact .inr (.inr (.inl e)))), h.bm.keep ho (fun x hx e => h.MF x hx (by rcases e with e | e; exact .inr (.inl e); exact .inr (.inr (.inl e)))), h.bo.keep ho (fun x hx e => h.MF x hx (by rcases e with e | e; exact .inr (.inl e); exact .inr (.inr (.inl e)))), hs, h.sem, h.CF, h.MF, h.kF⟩

theorem JK.post {kind : Int} {w' : World} {op' : Bool} {view' : List ByteArray} {uc' : List Bool} {pc' : List ByteArray} (j0 : JK w p l d k c m o blk base recs op com view uc pc um pm uo po F G C M) (h : JK w' p l d k c m o blk base recs op' com view' uc' pc' um pm uo po F G C M)
    (ho : Only (fun x => F x ∨ G x ∨ C x ∨ x = p ∨ x = k) w w') : KP w p l d k o base uo po F G C M blk recs op com kind w' :=
  ⟨c, m, blk, recs, op', com, view', uc', pc', um, pm, F, C, M, h, fun x hx => by rcases hx with h | h | h; exact .inl h; exact .inr (.inl h); exact .inr (.inr (.inl h)), ho, .inl ⟨rfl, rfl, rfl, j0.pg.still⟩⟩
theorem JK.same {kind : Int} {w' : World} (j0 : JK w p l d k c m o blk base recs op com view uc pc um pm uo po F G C M) (ho : Only (fun _ => False) w w') : KP w p l d k o base uo po F G C M blk recs op com kind w' := j0.post (j0.keep ho) (ho.mono (fun _ _ h => h.elim))

theorem bar_shut (j : JK w p l d k c m o blk base recs false com view uc pc um pm uo po F G C M) (n : Int) :
    Calls Try.prog 28 #[.pointer (some ⟨k, 0, none⟩), .int .i64 n] w fun e w' => e = .returned (.int .i64 2) ∧ w = w' := by
  have c3 := j.kp.cell 3
  unfold keeperC at c3
  go_enter Try.func28, Try.ntmps28
  go_wp2_with fail
  go_ret
  exact ⟨rfl, rfl⟩
theorem bar_out (j : JK w p l d k c m o blk base recs true com view uc pc um pm uo po F G C M) (n : Int) (hn : ¬ (1 ≤ n ∧ n < 72)) :
    Calls Try.prog 28 #[.pointer (some ⟨k, 0, none⟩), .int .i64 n] w fun e w' => e = .returned (.int .i64 5) ∧ w = w' := by
  have c3 := j.kp.cell 3
  have c0 := j.kp.cell 0
  unfold keeperC at c3 c0
  have C1 := hide (holds_out c n hn w)
  clear hn
  go_enter Try.func28, Try.ntmps28
  go_wp2_with fail
  refine (unhide C1).mono ?_
  rintro e w' ⟨rfl, rfl⟩
  go_wp2_with fail
  go_ret
  exact ⟨rfl, rfl⟩
theorem bar_in (j : JK w p l d k c m o blk base recs true com view uc pc um pm uo po F G C M) (n : Nat) (h1 : 1 ≤ n) (hn : n < 72) :
    Calls Try.prog 28 #[.pointer (some ⟨k, 0, none⟩), .int .i64 n] w fun e w' => e = .returned (.int .i64 (if usedV view n = true then 0 else 5)) ∧ w = w' := by
  have c3 := j.kp.cell 3
  have c0 := j.kp.cell 0
  unfold keeperC at c3 c0
  have C1 := holds_in j.bc n h1 hn
  rw [(j.see n h1 hn).1] at C1
  cases hu : usedV view n with
  | true =>
    rw [hu] at C1
    have C1 := hide C1
    clear hu
    go_enter Try.func28, Try.ntmps28
    go_wp2_with fail
    refine (unhide C1).mono ?_
    rintro e w' ⟨rfl, rfl⟩
    go_wp2_with fail
    go_ret
    exact ⟨rfl, rfl⟩
  | false =>
    rw [hu] at C1
    have C1 := hide C1
    clear hu
    go_enter Try.func28, Try.ntmps28
    go_wp2_with fail
    refine (unhide C1).mono ?_
    rintro e w' ⟨rfl, rfl⟩
    go_wp2_with fail
    go_ret
    exact ⟨rfl, rfl⟩
end
end Go.Proofs.Qxb6500411a
