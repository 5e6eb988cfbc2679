/-
  OWN WORK. TABLE: checkTable. (written by tools/gen_echt.py)
-/
import Derived.Test.Qxb6500412aGreatEBr
import Derived.Test.Qxb6500412aGreatERg
namespace Go.Proofs.Qxb6500412aGreat
open Go.RowKit Go.PlainAid
set_option linter.unusedSimpArgs false
set_option linter.unusedVariables false

section
variable {q : Gnd} {w : World} {x : Nat} {op : Bool} {S S1 : Vu} {T : List (Tb × Hd)} {t : Tb} {h : Hd}
theorem idxR_len_eq {pk c : Nat} {rows : List (List Vl)} (hs : rows.Pairwise (fun a b => lt (pkK pk a) (pkK pk b) = true)) : (idxR pk c rows).length = rows.length := by
  unfold idxR
  have : ∀ (l a : List (List Vl)), (∀ x ∈ a, ∀ y ∈ l, pkK pk x ≠ pkK pk y) → l.Pairwise (fun a b => lt (pkK pk a) (pkK pk b) = true) → (l.foldl (fun l r => putBy (fun r => idxK r c pk) r l) a).length = a.length + l.length := by
    intro l
    induction l with
    | nil => intro a _ _; simp
    | cons x t ih =>
      intro a ha hp
      obtain ⟨p1, p2⟩ := List.pairwise_cons.mp hp
      rw [List.foldl_cons, ih _ (fun y hy z hz => ?_) p2, putBy_len_new _ (fun e he => fun q => ha e he x (by simp) (idxK_inj q).2), List.length_cons]
      · omega
      · rcases putBy_mem _ hy with e | e
        · rw [e]; exact lt_ne (p1 z hz)
        · exact ha y e z (by simp [hz])
  simpa using this rows [] (by simp) hs
theorem opt_or {α : Type} (o : Option α) : o = none ∨ ∃ i, o = some i := by cases o with | none => exact .inl rfl | some i => exact .inr ⟨i, rfl⟩
/-- Within checkTable. -/
structure CkI (q : Gnd) (w : World) (x : Nat) (op : Bool) (S : Vu) (t : Tb) (h : Hd) (a b : Nat) (cv : Value) (wr : World) : Prop where
  st : ST q wr x op S
  on : Only q.S w wr
  ha : Has wr a (hdC h) 275
  hb : Has wr b (scC t.nm cv (t.pk : Int) (ixI t.ix)) 79
  oc : OwnC wr cv t.cols
  al : w.heap.size ≤ a
  bl : w.heap.size ≤ b
  nq : ∀ k, cv.ownBlock = some k → ¬ q.S k
theorem CkI.go {a b : Nat} {cv : Value} {wr w' : World} (H : ST q w x op S) (I : CkI q w x op S t h a b cv wr) (st : ST q w' x op S) (o : Only q.S wr w') : CkI q w x op S t h a b cv w' :=
  ⟨st, I.on.ss o, I.ha.keep o (H.new I.al), I.hb.keep o (H.new I.bl), I.oc.keep o I.nq, I.al, I.bl, I.nq⟩
theorem CkI.quiet {a b : Nat} {cv : Value} {wr w' : World} (I : CkI q w x op S t h a b cv wr) (o : Only (fun _ => False) wr w') : CkI q w x op S t h a b cv w' :=
  ⟨I.st.quiet o, I.on.andS o, I.ha.keep o (fun e => e), I.hb.keep o (fun e => e), I.oc.keep o (fun _ _ e => e), I.al, I.bl, I.nq⟩
end
end Go.Proofs.Qxb6500412aGreat
