/-
  OWN WORK. QUERY: plain: what a statement that was read holds is sound.
-/
import Derived.Test.Qxb6500412aGreatS22
namespace Go.Proofs.Qxb6500412aGreat
open Go.RowKit Go.PlainAid
set_option linter.unusedSimpArgs false
set_option linter.unusedVariables false

def tkOk : Tk → Prop
  | .num v => In64 v
  | _ => True
theorem in64_0 : In64 0 := by unfold In64; decide
theorem okOp_0 : okOp 0 := ⟨by decide, by decide⟩
theorem numA_ok {t : ByteArray} {i : Nat} {x : Tk × Nat} (h : numA t i = some x) : tkOk x.1 := by
  unfold numA at h
  split at h
  · split at h
    · cases h
      show In64 _
      unfold In64
      omega
    · cases h
  · split at h
    · cases h
      show In64 _
      unfold In64
      omega
    · cases h
theorem tokA_ok {t : ByteArray} {i : Nat} {x : Tk × Nat} (h : tokA t i = some x) : tkOk x.1 := by
  unfold tokA at h
  split at h
  · cases h; trivial
  · split at h
    · exact numA_ok h
    · split at h
      · split at h
        · cases h; trivial
        · cases h
      · split at h
        · cases h; trivial
        · split at h
          · cases h; trivial
          · cases h
theorem lexF_ok (t : ByteArray) : ∀ f i, ∀ x ∈ (lexF t f i).1, tkOk x
  | 0, _, x, h => by cases h
  | f + 1, i, x, h => by
    unfold lexF at h
    split at h
    · cases hx : tokA t (run blkC t i) with
      | none => rw [hx] at h; cases h
      | some y =>
        rw [hx] at h
        rcases List.mem_cons.1 h with e | e
        · rw [e]; exact tokA_ok hx
        · exact lexF_ok t f _ x e
    · cases h
def OkP (P : Ps) : Prop := ∀ x ∈ P.1, tkOk x
theorem toks_ok (t : ByteArray) (i : Nat) : OkP (toks t i) := lexF_ok t _ i
section
variable {P : Ps} {w0 : ByteArray}
theorem OkP.next (h : OkP P) : OkP (nextP P) := fun x hx => h x (List.mem_of_mem_tail hx)
theorem OkP.fail : OkP failP := fun x hx => by cases hx
theorem OkP.eat (h : OkP P) : OkP (eatP w0 P) := by
  unfold eatP
  split
  · exact h.next
  · exact h
theorem OkP.want (h : OkP P) : OkP (wantP w0 P) := by
  unfold wantP
  split
  · exact h.next
  · exact OkP.fail
theorem OkP.name (h : OkP P) : OkP (nameP P) := by
  unfold nameP
  split
  · exact h.next
  · exact OkP.fail
theorem OkP.lit (h : OkP P) : OkP (litP P) := by
  unfold litP
  split
  · exact h.next
  · exact OkP.fail
theorem OkP.litV (h : OkP P) : (litV P).wf := by
  obtain ⟨l, b⟩ := P
  cases l with
  | nil => exact .inl ⟨rfl, rfl, in64_0⟩
  | cons x l =>
    cases x with
    | num v => exact .inl ⟨rfl, rfl, h (.num v) (List.mem_cons_self ..)⟩
    | str s => exact .inr ⟨rfl, rfl⟩
    | word s => exact .inl ⟨rfl, rfl, in64_0⟩
    | sign s => exact .inl ⟨rfl, rfl, in64_0⟩
theorem opS_ok (s : ByteArray) : okOp (opS s) := by
  unfold opS okOp
  repeat' split
  all_goals decide
theorem opV_ok (P : Ps) : okOp (opV P) := by
  obtain ⟨l, b⟩ := P
  cases l with
  | nil => exact okOp_0
  | cons x l =>
    cases x with
    | sign s => exact opS_ok s
    | num v => exact okOp_0
    | str s => exact okOp_0
    | word s => exact okOp_0
end
/-- A list that was read: what each member owes, how long it is. -/
theorem loopP_ok {α : Type} {body : Ps → Ps × α} {sep : ByteArray} {Q : α → Prop} (hb : ∀ P, OkP P → OkP (body P).1 ∧ Q (body P).2) : ∀ f P l, OkP P → (∀ x ∈ l, Q x) → OkP (loopP body sep f P l).1 ∧ ∀ x ∈ (loopP body sep f P l).2, Q x
  | 0, P, l, h, hl => ⟨h, hl⟩
  | f + 1, P, l, h, hl => by
    have h1 := hb P h
    have h2 : ∀ x ∈ l ++ [(body P).2], Q x := fun x hx => by
      rcases List.mem_append.1 hx with e | e
      · exact hl x e
      · rw [List.mem_singleton.1 e]; exact h1.2
    unfold loopP
    split
    · exact loopP_ok hb f _ _ h1.1.next h2
    · exact ⟨h1.1, h2⟩
theorem listP_ok {α : Type} {body : Ps → Ps × α} {sep : ByteArray} {Q : α → Prop} (hb : ∀ P, OkP P → OkP (body P).1 ∧ Q (body P).2) {P : Ps} {l : List α} (h : OkP P) (hl : ∀ x ∈ l, Q x) : OkP (listP body sep P l).1 ∧ ∀ x ∈ (listP body sep P l).2, Q x := loopP_ok hb _ P l h hl
/-- A comparison, a setting is sound. -/
def cmOk (c : Cm) : Prop := okOp c.op ∧ c.lit.wf
/-- A statement is sound. -/
structure StOk (st : St) : Prop where
  lits : ∀ v ∈ st.lits, v.wf
  sets : ∀ c ∈ st.sets, cmOk c
  wh : ∀ c ∈ st.wh, cmOk c
theorem StOk.z : StOk St.z := ⟨fun v h => (by cases h), fun v h => (by cases h), fun v h => (by cases h)⟩
theorem setP_ok (P : Ps) (h : OkP P) : OkP (setP P).1 ∧ cmOk (setP P).2 := ⟨h.name.want.lit, ⟨by show (0:Int) ≤ 2; decide, by show (2:Int) < 8; decide⟩, h.name.want.litV⟩
theorem cmpP_ok (P : Ps) (h : OkP P) : OkP (cmpP P).1 ∧ cmOk (cmpP P).2 := by
  have h1 : OkP (if opV (nameP P) = 0 then failP else nextP (nameP P)) := by
    split
    · exact OkP.fail
    · exact h.name.next
  exact ⟨h1.lit, opV_ok _, h1.litV⟩
theorem nameL_ok (P : Ps) (h : OkP P) : OkP (nameL P).1 ∧ True := ⟨h.name, trivial⟩
theorem litL_ok (P : Ps) (h : OkP P) : OkP (litL P).1 ∧ (litL P).2.wf := ⟨h.lit, h.litV⟩
section
variable {P : Ps} {st : St}
theorem whereP_ok (h : OkP P) (hs : StOk st) : StOk (whereP P st).2 := by
  unfold whereP
  split
  · exact ⟨hs.lits, hs.sets, (listP_ok cmpP_ok h.next hs.wh).2⟩
  · exact hs
theorem insP_ok (h : OkP P) (hs : StOk st) : StOk (intP P st).2 := ⟨(listP_ok litL_ok (P := insLP P) (by exact h.want.name.want.want) hs.lits).2, hs.sets, hs.wh⟩
theorem updP_ok (h : OkP P) (hs : StOk st) : StOk (updP P st).2 := by
  have h1 := listP_ok (sep := wCOMMA) setP_ok (P := wantP wSET (nameP P)) h.name.want hs.sets
  exact whereP_ok h1.1 ⟨hs.lits, h1.2, hs.wh⟩
theorem selN_ok (h : OkP P) : OkP (selN P st).1 := by
  unfold selN
  split
  · exact h.eat
  · exact (listP_ok (sep := wCOMMA) nameL_ok h.eat (fun _ _ => trivial)).1
theorem ordP_st (hs : StOk st) : StOk (ordP P st).2 := by
  unfold ordP
  split
  · exact ⟨hs.lits, hs.sets, hs.wh⟩
  · exact hs
theorem limP_st (hs : StOk st) : StOk (limP P st).2 := by
  unfold limP
  split
  · exact ⟨hs.lits, hs.sets, hs.wh⟩
  · exact hs
theorem selP_ok (h : OkP P) (hs : StOk st) : StOk (selP P st).2 := limP_st (ordP_st (whereP_ok (selN_ok h).want.name ⟨hs.lits, hs.sets, hs.wh⟩))
theorem creP_ok (hs : StOk st) : StOk (creP P st).2 := by
  unfold creP
  split
  · exact ⟨hs.lits, hs.sets, hs.wh⟩
  · exact ⟨hs.lits, hs.sets, hs.wh⟩
theorem senP_ok (h : OkP P) (hs : StOk st) : StOk (senP P st).2 := by
  unfold senP
  split
  · exact selP_ok h.next hs
  split
  · exact insP_ok h.next hs
  split
  · exact updP_ok h.next hs
  split
  · exact whereP_ok h.next.want.name ⟨hs.lits, hs.sets, hs.wh⟩
  split
  · exact ⟨hs.lits, hs.sets, hs.wh⟩
  split
  · exact ⟨hs.lits, hs.sets, hs.wh⟩
  split
  · exact ⟨hs.lits, hs.sets, hs.wh⟩
  split
  · exact ⟨hs.lits, hs.sets, hs.wh⟩
  split
  · exact creP_ok hs
  · exact hs
end
/-- What Parse reads is sound. -/
theorem parQ_ok (t : ByteArray) : StOk (parQ t).2 := senP_ok (toks_ok t 0) StOk.z
end Go.Proofs.Qxb6500412aGreat
