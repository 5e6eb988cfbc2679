/-
  OWN WORK. THE PAGER LAW: KeepPlay whole; what holds at every round's head of KeepsUpTo.
-/
import Derived.Test.Qxb6500411aQPlay4
import Derived.Test.Qxb6500411aOpsDef
namespace Go.Proofs.Qxb6500411a
open Go.RowKit
set_option linter.unusedSimpArgs false
set_option linter.unusedVariables false

section
variable {w : World} {p l d k c m o : Nat} {blk base : List ByteArray} {recs : List (Nat × ByteArray)} {op : Bool} {com view : List ByteArray} {uc : List Bool} {pc : List ByteArray} {um : List Bool} {pm : List ByteArray} {uo : List Bool} {po : List ByteArray} {F G C M : Nat → Prop}

theorem keepPlay_any (kind a b cc : Int) (s t : ByteArray) (hs : s.size ≤ maxLen) (j0 : JK w p l d k c m o blk base recs op com view uc pc um pm uo po F G C M) (hrc : recs.length ≤ 100) :
    Calls Try.prog 11 #[.pointer (some ⟨p, 0, none⟩), .pointer (some ⟨k, 0, none⟩), .agg #[.int .i64 kind, .int .i64 a, .int .i64 b, .int .i64 cc, .string s, .string t]] w fun e w' =>
      e = .returned (.bool true) ∧ KP w p l d k o base uo po F G C M blk recs op com kind w' := by
  by_cases hk : 1 ≤ kind ∧ kind ≤ 8
  · have hc : kind = 1 ∨ kind = 2 ∨ kind = 3 ∨ kind = 4 ∨ kind = 5 ∨ kind = 6 ∨ kind = 7 ∨ kind = 8 := by omega
    rcases hc with rfl | rfl | rfl | rfl | rfl | rfl | rfl | rfl
    · exact play_begin a b cc s t j0
    · exact play_commit a b cc s t j0 hrc
    · exact play_abort a b cc s t j0
    · exact play_alloc a b cc s t j0
    · exact play_free a b cc s t j0
    · exact play_get a b cc s t j0
    · exact play_put a b cc s t hs j0
    · exact play_used a b cc s t j0
  · exact play_other kind a b cc s t j0 hk

theorem JK.marked {w' : World} (h : JK w p l d k c m o blk base recs op com view uc pc um pm uo po F G C M) (hd : DiskAt w' d blk blk [] (Ext F w w')) (ho : Only F w w') :
    JK w' p l d k c m o blk blk [] op com view uc pc um pm uo po (Ext F w w') G C M := by
  have hkl := h.kp.lt
  have hCi := h.bc.inn
  have hMi := h.bm.inn
  refine ⟨h.pg.marked hd ho, h.kp.keep ho (fun e => h.kF (.inl e)), h.bc.keep ho (fun x hx e => h.CF x hx (.inl e)), h.bm.keep ho (fun x hx e => h.MF x hx (.inl e)), h.bo.keep ho (fun x hx e => h.MF x hx (.inl e)), h.see, h.sem, ?_, ?_, ?_⟩
  · intro x hx e
    rcases e with (e | e) | e
    · exact h.CF x hx (.inl e)
    · have := hCi x hx; omega
    · exact h.CF x hx (.inr e)
  · intro x hx e
    rcases e with (e | e) | e
    · exact h.MF x hx (.inl e)
    · have := hMi x hx; omega
    · exact h.MF x hx (.inr e)
  · rintro ((e | e) | e)
    · exact h.kF (.inl e)
    · omega
    · exact h.kF (.inr e)

/-- k.Old = k.Com. -/
theorem JK.olden (h : JK w p l d k c m o blk base recs op com view uc pc um pm uo po F G C M) : JK (w.setCell ⟨k, 2, none⟩ (.pointer (some ⟨m, 0, none⟩))) p l d k c m m blk base recs op com view uc pc um pm um pm F G C M := by
  have o4 := PAt.only1 (w := w) (p := k) 2 (.pointer (some ⟨m, 0, none⟩))
  exact ⟨h.pg.keep o4 (fun x hx e => h.kF (.inl (e ▸ hx))) (fun x hx e => h.kF (.inr (.inl (e ▸ hx)))) (fun e => h.kF (.inr (.inr e.symm))), h.kp.setCell 2 (.pointer (some ⟨m, 0, none⟩)), h.bc.keep o4 (fun x hx e => h.CF x hx (.inr (.inr (.inr (.inl e))))), h.bm.keep o4 (fun x hx e => h.MF x hx (.inr (.inr (.inr e)))), h.bm.keep o4 (fun x hx e => h.MF x hx (.inr (.inr (.inr e)))), h.see, h.sem, h.CF, h.MF, h.kF⟩
end

section
variable {w : World} {p l d k c m o : Nat} {blk base : List ByteArray} {recs : List (Nat × ByteArray)} {op : Bool} {com view : List ByteArray} {uc : List Bool} {pc : List ByteArray} {um : List Bool} {pm : List ByteArray} {uo : List Bool} {po : List ByteArray} {F G C M : Nat → Prop}
/-- Shows of the current book: always true. -/
theorem jshows (j : JK w p l d k c m o blk base recs op com view uc pc um pm uo po F G C M) :
    Calls Try.prog 9 #[.pointer (some ⟨p, 0, none⟩), .pointer (some ⟨c, 0, none⟩), .bool op] w fun e w' => e = .returned (.bool true) ∧ JK w' p l d k c m o blk base recs op com view uc pc um pm uo po F G C M ∧ Only (fun x => G x ∨ x = p) w w' := by
  refine (shows_any j.pg j.bc (fun h => j.CF _ h (.inr (.inr (.inl rfl)))) (fun x hx h => j.CF x hx (.inr (.inl h)))).mono ?_
  rintro e w' ⟨⟨b, rfl, hb⟩, h2, ho⟩
  obtain rfl : b = true := hb.2 j.see
  exact ⟨rfl, j.pager ho h2 j.see, ho⟩

end

/-- What holds at every round's head. -/
structure QI (w : World) (vb k : Nat) (p n : Nat) (wr : World) : Prop where
  ex : ∃ l d c m o blk base recs op com was view uc pc um pm uo po F G C M, JK wr p l d k c m o blk base recs op com view uc pc um pm uo po F G C M ∧ SeesAll (was.take 72) uo po ∧ was.length = 80 ∧ CutInv base recs was com ∧ n = recs.length ∧
    Has wr vb (belowC d l) 28 ∧ (∀ x, F x ∨ G x ∨ C x ∨ M x → w.heap.size ≤ x ∧ x ≠ vb)
  bel : Below w.heap.size w wr
  vb : w.heap.size ≤ vb
  kb : w.heap.size ≤ k
  pb : w.heap.size ≤ p

end Go.Proofs.Qxb6500411a
