/-
  OWN WORK. TABLE: the forest's calls from above; the state within a call; Lookup.
-/
import Derived.Test.Qxb6500412aGreatELo3
import Derived.Test.Qxb6500412aGreatETab
import Derived.Test.Qxb6500412aGreatEDb
namespace Go.Proofs.Qxb6500412aGreat
open Go.RowKit Go.PlainAid
set_option linter.unusedSimpArgs false
set_option linter.unusedVariables false

section
variable {q : Gnd} {w : World} {x : Nat} {op : Bool} {S S1 : Vu} {T : List (Tb × Hd)} {t : Tb} {h : Hd}
theorem eput_any (H : ST q w x true S) {i : Int} {k v : ByteArray} (e : putS S i k v = (S1, 0)) : Calls Tryz.prog 237 #[.pointer (some ⟨q.f, 0, none⟩), .int .i64 i, .string k, .string v] w fun e w' => e = .returned (.int .i64 0) ∧ ST q w' x true S1 ∧ Only q.S w w' := by
  have C := vinsert_open H.fv i k v
  rw [e] at C
  refine C.mono ?_
  rintro e w' ⟨rfl, A, o⟩
  exact ⟨rfl, H.turn A o, o⟩
theorem edelt_any (H : ST q w x true S) {i : Int} {k : ByteArray} (e : delS S i k = (S1, 0)) : Calls Tryz.prog 242 #[.pointer (some ⟨q.f, 0, none⟩), .int .i64 i, .string k] w fun e w' => e = .returned (.int .i64 0) ∧ ST q w' x true S1 ∧ Only q.S w w' := by
  have C := vdelete_open H.fv i k
  rw [e] at C
  refine C.mono ?_
  rintro e w' ⟨rfl, A, o⟩
  exact ⟨rfl, H.turn A o, o⟩
theorem edrop_any (H : ST q w x true S) {i : Int} (e : dropS S i = (S1, 0)) : Calls Tryz.prog 241 #[.pointer (some ⟨q.f, 0, none⟩), .int .i64 i] w fun e w' => e = .returned (.int .i64 0) ∧ ST q w' x true S1 ∧ Only q.S w w' := by
  have C := vdrop_open H.fv i
  rw [e] at C
  refine C.mono ?_
  rintro e w' ⟨rfl, A, o⟩
  exact ⟨rfl, H.turn A o, o⟩
theorem ecreate_any (H : ST q w x true S) {i : Nat} (e : newS S = (S1, (i : Int), 0)) : Calls Tryz.prog 93 #[.pointer (some ⟨q.f, 0, none⟩)] w fun e w' => e = .returned (.tuple #[.int .i64 (i : Int), .int .i64 0]) ∧ ST q w' x true S1 ∧ Only q.S w w' := by
  have C := vcreate_open H.fv
  rw [e] at C
  refine C.mono ?_
  rintro e w' ⟨rfl, A, o⟩
  exact ⟨rfl, H.turn A o, o⟩
/-- Within a call that has loaded a table: the head at a, the schema at b. -/
structure OpI (q : Gnd) (w : World) (x : Nat) (op : Bool) (S : Vu) (t : Tb) (h : Hd) (a b : Nat) (cv : Value) (wr : World) : Prop where
  st : ST q wr x op S
  on : Only q.S w wr
  ha : Has wr a (hdC h) 275
  hb : Has wr b (scC t.nm cv (t.pk : Int) (ixI t.ix)) 79
  oc : OwnC wr cv t.cols
  al : w.heap.size ≤ a
  bl : w.heap.size ≤ b
  nc : Newer w cv
theorem OpI.go {a b : Nat} {cv : Value} {wr w' : World} {op' : Bool} (H : ST q w x op S) (I : OpI q w x op' S1 t h a b cv wr) {S2 : Vu} (st : ST q w' x op' S2) (o : Only q.S wr w') : OpI q w x op' S2 t h a b cv w' :=
  ⟨st, I.on.ss o, I.ha.keep o (H.new I.al), I.hb.keep o (H.new I.bl), I.oc.keep o (fun k hk => H.new (I.nc k hk)), I.al, I.bl, I.nc⟩
theorem OpI.quiet {a b : Nat} {cv : Value} {wr w' : World} (I : OpI q w x op S t h a b cv wr) (o : Only (fun _ => False) wr w') : OpI q w x op S t h a b cv w' :=
  ⟨I.st.quiet o, I.on.andS o, I.ha.keep o (fun e => e), I.hb.keep o (fun e => e), I.oc.keep o (fun _ _ e => e), I.al, I.bl, I.nc⟩
theorem OpI.start {w1 : World} {cv : Value} (hs : w.heap.size ≤ w1.heap.size) (st : ST q w1 x op S) (on : Only q.S w w1) (oc : OwnC w1 cv t.cols) (nc : Newer w cv) : OpI q w x op S t h w1.heap.size (w1.heap.size + 1) cv ((w1.alloc (.cells (hdC h) 275)).alloc (.cells (scC t.nm cv (t.pk : Int) (ixI t.ix)) 79)) := by
  have o : Only (fun _ => False) w1 ((w1.alloc (.cells (hdC h) 275)).alloc (.cells (scC t.nm cv (t.pk : Int) (ixI t.ix)) 79)) := ((Only.refl _ w1).alloc _).alloc _
  exact ⟨st.quiet o, on.andS o, (Has.new w1 _ _).alloc _, Has.new' _ _ _ _ (by simp), oc.keep o (fun _ _ e => e), hs, by omega, nc⟩
theorem OpI.notS {a b : Nat} {cv : Value} {wr : World} (H : ST q w x op S) (I : OpI q w x op S1 t h a b cv wr) : ∀ k, cv.ownBlock = some k → ¬ q.S k := fun k hk => H.new (I.nc k hk)
end
end Go.Proofs.Qxb6500412aGreat
